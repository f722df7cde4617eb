/- The document's pairs, changed by what a transaction wrote: the walk. -/
import Derived.Test.YtaeiajodbpgbbaaHv10
namespace Go.Proofs.Ytaeiajodbpgbbaa
open Go.RowKit Go.Sort Go.Shelf

/-- Pairs have keys of events. -/
theorem prs_len {g : SMap} {L : List HPr} (h : PrsOf g L) {l : List HEv} (hg : ∀ k, (g k).isSome = true → ∃ e ∈ l, e.key = k) : L.length ≤ l.length := by
  have := nodup_len (L.map (·.1)) (l.map (·.key)) (List.pairwise_map.2 (h.srt.imp (fun {p q} hpq e => by rw [e] at hpq; exact lt_irr _ hpq))) (fun k hk => by
    obtain ⟨⟨k', v⟩, hp, rfl⟩ := List.mem_map.1 hk
    obtain ⟨e, he, q⟩ := hg k' (by rw [(h.mem k' v).1 hp]; rfl)
    exact List.mem_map.2 ⟨e, he, q⟩)
  simpa using this
theorem ovE_key {l : List HEv} {g : SMap} {id : Int} {x : HEv} (hx : x ∈ l) (hg : ∀ k, (g k).isSome = true → ∃ e ∈ l, e.key = k) : ∀ k, (ovE id g x k).isSome = true → ∃ e ∈ l, e.key = k := by
  intro k h
  unfold ovE at h
  split at h
  · by_cases q : k = x.key
    · exact ⟨x, hx, q.symm⟩
    · dsimp only at h; rw [if_neg q] at h; exact hg k h
  · exact hg k h
/-- Pairs that are told, old ones or new ones. -/
def OvPost (w : World) (g : SMap) (e : Ending) (w' : World) : Prop := (∃ a n c L, e = .returned (.slice a n c) ∧ PrsOf g L ∧ n = L.length ∧ (a = none → c = 0) ∧ ElsAt prE w' a L) ∧ Same w w'
set_option maxRecDepth 100000 in
set_option maxHeartbeats 1600000 in
theorem rf_over (a : Option Addr) (n c : Nat) (l : List HEv) (hn : n = l.length) (hl : n ≤ 1000) (id : Int) (w : World) (hat : ElsAt evE w a l) (g : SMap) (L : List HPr) (hL : PrsOf g L) (hg : ∀ k, (g k).isSome = true → ∃ e ∈ l, e.key = k) (a0 : Option Addr) (n0 c0 : Nat) (hn0 : n0 = L.length) (hnil0 : a0 = none → c0 = 0) (hat0 : ElsAt prE w a0 L) :
    Calls Try.prog 20 #[.slice a0 n0 c0, .slice a n c, .int .i64 id] w (OvPost w (ovF g l id)) := by
  have HN := Lib.hid hn; have HAT := Lib.hid hat
  have HL := Lib.hid hL; have HG := Lib.hid hg; have HN0 := Lib.hid hn0; have HNIL := Lib.hid hnil0; have HAT0 := Lib.hid hat0
  clear hn hat hL hg hn0 hnil0 hat0
  go_enter Try.func20, Try.ntmps20
  go_wp2_with fail
  go_loopw [0, 7] (fun v t wr => ∃ (i : Nat) (M : List HPr) (a1 : Option Addr) (n1 c1 : Nat), t = .int .i64 i ∧ v = .slice a1 n1 c1 ∧ i ≤ n ∧ PrsOf (ovF g (l.take i) id) M ∧ (∀ k, (ovF g (l.take i) id k).isSome = true → ∃ e ∈ l, e.key = k) ∧ n1 = M.length ∧ (a1 = none → c1 = 0) ∧ ElsAt prE wr a1 M ∧ Same w wr) (fun _ t _ => n - (intOf t).toNat)
  case atStart => exact ⟨0, L, a0, n0, c0, rfl, rfl, by omega, HL.out, HG.out, HN0.out, HNIL.out, HAT0.out, Kept.refl _ _⟩
  case round =>
    clear HL HG HN0 HNIL HAT0
    obtain ⟨i, M, a1, n1, cc1, rfl, rfl, hi, hM, hgk, hn1, hnil1, hat1, hk⟩ := hrel
    have K := Lib.hid hk; have HM := Lib.hid hM; have HG := Lib.hid hgk; have HN1 := Lib.hid hn1; have HNIL := Lib.hid hnil1; have HAT1 := Lib.hid hat1
    have hn1l : n1 ≤ 1000 := by have := prs_len hM hgk; have := HN.out; omega
    clear hk hM hgk hn1 hnil1 hat1
    by_cases hgo : i < n
    · have hil : i < l.length := by have := HN.out; omega
      obtain ⟨b, off, rfl, hbl, hc⟩ := ev_at HAT.out hil
      obtain ⟨c0, c1, c2, c3, c4, c5⟩ := hc _ K.out
      obtain ⟨x, hx⟩ : ∃ x, l[i] = x := ⟨_, rfl⟩
      have TK := Lib.hid (show l.take (i + 1) = l.take i ++ [x] by rw [← hx, List.take_append_getElem])
      rw [hx] at c0 c1 c2 c3 c4 c5
      have g1 : (i : Int) < (n : Int) := by omega
      have g0 : (0 : Int) ≤ (i : Int) := by omega
      have XL := Lib.hid (show x ∈ l from hx ▸ List.getElem_mem hil)
      have OS := Lib.hid (ovF_snoc g (l.take i) id x)
      obtain ⟨G, hG⟩ : ∃ G, ovF g (l.take i) id = G := ⟨_, rfl⟩
      rw [hG] at OS HM HG
      have GK := Lib.hid (ovE_key (id := id) XL.out HG.out)
      clear hG
      have HC := Lib.hid (show ∀ w', Same wr w' → (fun w' : World => w'.cell? ⟨b, off + i * 6, none⟩ = some (.int .u8 (x.k : Nat)) ∧ w'.cell? ⟨b, off + i * 6 + 1, none⟩ = some (.int .i64 x.x) ∧ w'.cell? ⟨b, off + i * 6 + 2, none⟩ = some (.int .i64 x.t) ∧ w'.cell? ⟨b, off + i * 6 + 3, none⟩ = some (encStr x.key) ∧ w'.cell? ⟨b, off + i * 6 + 4, none⟩ = some (encStr x.val) ∧ w'.cell? ⟨b, off + i * 6 + 5, none⟩ = some (.bool x.is)) w' from fun w' k => by
        have := hc w' (K.out.trans k)
        rw [hx] at this; exact this)
      have WI := Lib.hid (fun w' (k : Same wr w') => rf_with a1 n1 cc1 M HN1.out hn1l x.key x.val x.is w' (HAT1.out.same k))
      clear hc hx
      by_cases hw : x.k = 2 ∧ x.x = id
      · have gk : ((x.k : Nat) : Int) = 2 := by omega
        have gx : x.x = id := hw.2
        have HW := Lib.hid hw
        clear hw
        go_upto_region 5 with fail
        refine wp_region_T (S := (fun w' : World => w'.cell? ⟨b, off + i * 6, none⟩ = some (.int .u8 (x.k : Nat)) ∧ w'.cell? ⟨b, off + i * 6 + 1, none⟩ = some (.int .i64 x.x) ∧ w'.cell? ⟨b, off + i * 6 + 2, none⟩ = some (.int .i64 x.t) ∧ w'.cell? ⟨b, off + i * 6 + 3, none⟩ = some (encStr x.key) ∧ w'.cell? ⟨b, off + i * 6 + 4, none⟩ = some (encStr x.val) ∧ w'.cell? ⟨b, off + i * 6 + 5, none⟩ = some (.bool x.is))) 16 (by kernel_rfl) (HC.out _ (Kept.refl _ _).drew) (fun hHeld hDn => ?_)
        refine wpT_take (i := 0) (t := 29) (v := ?_) rfl rfl rfl (by kernel_rfl) (by kernel_rfl) (by kernel_rfl) (by kernel_rfl) (fun _ _ _ h => h) (Or.inl ⟨by rfl, ?_⟩) hHeld hDn (fun hDn' => ?_)
        rotate_left
        · (intro w hSw; (try dsimp only at hSw); go_simp; (try with_reducible rfl))
        clear hDn; have hDn := hDn'; clear hDn'
        simp only [Act.put, List.setIfInBounds_toArray, List.set_cons_zero, List.set_cons_succ]
        refine wpT_take (i := 1) (t := 30) (v := ?_) rfl rfl rfl (by kernel_rfl) (by kernel_rfl) (by kernel_rfl) (by kernel_rfl) (fun _ _ _ h => h) (Or.inl ⟨by rfl, ?_⟩) hHeld hDn (fun hDn' => ?_)
        rotate_left
        · (intro w hSw; (try dsimp only at hSw); go_simp; (try with_reducible rfl))
        clear hDn; have hDn := hDn'; clear hDn'
        simp only [Act.put, List.setIfInBounds_toArray, List.set_cons_zero, List.set_cons_succ]
        refine wpT_take (i := 2) (t := 31) (v := ?_) rfl rfl rfl (by kernel_rfl) (by kernel_rfl) (by kernel_rfl) (by kernel_rfl) (fun _ _ _ h => h) (Or.inl ⟨by rfl, ?_⟩) hHeld hDn (fun hDn' => ?_)
        rotate_left
        · (intro w hSw; (try dsimp only at hSw); go_simp; (try with_reducible rfl))
        clear hDn; have hDn := hDn'; clear hDn'
        simp only [Act.put, List.setIfInBounds_toArray, List.set_cons_zero, List.set_cons_succ]
        refine wpT_take (i := 3) (t := 32) (v := ?_) rfl rfl rfl (by kernel_rfl) (by kernel_rfl) (by kernel_rfl) (by kernel_rfl) (fun _ _ _ h => h) (Or.inl ⟨by rfl, ?_⟩) hHeld hDn (fun hDn' => ?_)
        rotate_left
        · (intro w hSw; (try dsimp only at hSw); go_simp; (try with_reducible rfl))
        clear hDn; have hDn := hDn'; clear hDn'
        simp only [Act.put, List.setIfInBounds_toArray, List.set_cons_zero, List.set_cons_succ]
        refine wpT_take (i := 4) (t := 33) (v := ?_) rfl rfl rfl (by kernel_rfl) (by kernel_rfl) (by kernel_rfl) (by kernel_rfl) (fun _ _ _ h => h) (Or.inl ⟨by rfl, ?_⟩) hHeld hDn (fun hDn' => ?_)
        rotate_left
        · (intro w hSw; (try dsimp only at hSw); go_simp; (try with_reducible rfl))
        clear hDn; have hDn := hDn'; clear hDn'
        simp only [Act.put, List.setIfInBounds_toArray, List.set_cons_zero, List.set_cons_succ]
        refine wpT_take (i := 5) (t := 34) (v := ?_) rfl rfl rfl (by kernel_rfl) (by kernel_rfl) (by kernel_rfl) (by kernel_rfl) (fun _ _ _ h => h) (Or.inl ⟨by rfl, ?_⟩) hHeld hDn (fun hDn' => ?_)
        rotate_left
        · (intro w hSw; (try dsimp only at hSw); go_simp; (try with_reducible rfl))
        clear hDn; have hDn := hDn'; clear hDn'
        simp only [Act.put, List.setIfInBounds_toArray, List.set_cons_zero, List.set_cons_succ]
        refine wpT_take (i := 6) (t := 35) (v := ?_) rfl rfl rfl (by kernel_rfl) (by kernel_rfl) (by kernel_rfl) (by kernel_rfl) (fun _ _ _ h => h) (Or.inl ⟨by rfl, ?_⟩) hHeld hDn (fun hDn' => ?_)
        rotate_left
        · (intro w hSw; (try dsimp only at hSw); go_simp; (try with_reducible rfl))
        clear hDn; have hDn := hDn'; clear hDn'
        simp only [Act.put, List.setIfInBounds_toArray, List.set_cons_zero, List.set_cons_succ]
        refine wpT_take (i := 7) (t := 36) (v := ?_) rfl rfl rfl (by kernel_rfl) (by kernel_rfl) (by kernel_rfl) (by kernel_rfl) (fun _ _ _ h => h) (Or.inl ⟨by rfl, ?_⟩) hHeld hDn (fun hDn' => ?_)
        rotate_left
        · (intro w hSw; (try dsimp only at hSw); go_simp; (try with_reducible rfl))
        clear hDn; have hDn := hDn'; clear hDn'
        simp only [Act.put, List.setIfInBounds_toArray, List.set_cons_zero, List.set_cons_succ]
        refine wpT_take (i := 8) (t := 37) (v := ?_) rfl rfl rfl (by kernel_rfl) (by kernel_rfl) (by kernel_rfl) (by kernel_rfl) (fun _ _ _ h => h) (Or.inl ⟨by rfl, ?_⟩) hHeld hDn (fun hDn' => ?_)
        rotate_left
        · (intro w hSw; (try dsimp only at hSw); go_simp; (try with_reducible rfl))
        clear hDn; have hDn := hDn'; clear hDn'
        simp only [Act.put, List.setIfInBounds_toArray, List.set_cons_zero, List.set_cons_succ]
        refine wpT_take (i := 9) (t := 38) (v := ?_) rfl rfl rfl (by kernel_rfl) (by kernel_rfl) (by kernel_rfl) (by kernel_rfl) (fun _ _ _ h => h) (Or.inl ⟨by rfl, ?_⟩) hHeld hDn (fun hDn' => ?_)
        rotate_left
        · (intro w hSw; (try dsimp only at hSw); go_simp; (try with_reducible rfl))
        clear hDn; have hDn := hDn'; clear hDn'
        simp only [Act.put, List.setIfInBounds_toArray, List.set_cons_zero, List.set_cons_succ]
        refine wpT_take (i := 10) (t := 39) (v := ?_) rfl rfl rfl (by kernel_rfl) (by kernel_rfl) (by kernel_rfl) (by kernel_rfl) (fun _ _ _ h => h) (Or.inl ⟨by rfl, ?_⟩) hHeld hDn (fun hDn' => ?_)
        rotate_left
        · (intro w hSw; (try dsimp only at hSw); go_simp; (try with_reducible rfl))
        clear hDn; have hDn := hDn'; clear hDn'
        simp only [Act.put, List.setIfInBounds_toArray, List.set_cons_zero, List.set_cons_succ]
        refine wpT_take (i := 11) (t := 40) (v := ?_) rfl rfl rfl (by kernel_rfl) (by kernel_rfl) (by kernel_rfl) (by kernel_rfl) (fun _ _ _ h => h) (Or.inl ⟨by rfl, ?_⟩) hHeld hDn (fun hDn' => ?_)
        rotate_left
        · (intro w hSw; (try dsimp only at hSw); go_simp; (try with_reducible rfl))
        clear hDn; have hDn := hDn'; clear hDn'
        simp only [Act.put, List.setIfInBounds_toArray, List.set_cons_zero, List.set_cons_succ]
        refine wpT_take (i := 12) (t := 41) (v := ?_) rfl rfl rfl (by kernel_rfl) (by kernel_rfl) (by kernel_rfl) (by kernel_rfl) (fun _ _ _ h => h) (Or.inl ⟨by rfl, ?_⟩) hHeld hDn (fun hDn' => ?_)
        rotate_left
        · (intro w hSw; (try dsimp only at hSw); go_simp; (try with_reducible rfl))
        clear hDn; have hDn := hDn'; clear hDn'
        simp only [Act.put, List.setIfInBounds_toArray, List.set_cons_zero, List.set_cons_succ]
        refine wpT_take (i := 13) (t := 42) (v := ?_) rfl rfl rfl (by kernel_rfl) (by kernel_rfl) (by kernel_rfl) (by kernel_rfl) (fun _ _ _ h => h) (Or.inl ⟨by rfl, ?_⟩) hHeld hDn (fun hDn' => ?_)
        rotate_left
        · (intro w hSw; (try dsimp only at hSw); go_simp; (try with_reducible rfl))
        clear hDn; have hDn := hDn'; clear hDn'
        simp only [Act.put, List.setIfInBounds_toArray, List.set_cons_zero, List.set_cons_succ]
        refine wpT_take (i := 14) (t := 43) (v := ?_) rfl rfl rfl (by kernel_rfl) (by kernel_rfl) (by kernel_rfl) (by kernel_rfl) (fun _ _ _ h => h) (Or.inl ⟨by rfl, ?_⟩) hHeld hDn (fun hDn' => ?_)
        rotate_left
        · (intro w hSw; (try dsimp only at hSw); go_simp; (try with_reducible rfl))
        clear hDn; have hDn := hDn'; clear hDn'
        simp only [Act.put, List.setIfInBounds_toArray, List.set_cons_zero, List.set_cons_succ]
        refine wpT_take (i := 15) (t := 44) (v := ?_) rfl rfl rfl (by kernel_rfl) (by kernel_rfl) (by kernel_rfl) (by kernel_rfl) (fun _ _ _ h => h) (Or.inl ⟨by rfl, ?_⟩) hHeld hDn (fun hDn' => ?_)
        rotate_left
        · (intro w hSw; (try dsimp only at hSw); go_simp; (try with_reducible rfl))
        clear hDn; have hDn := hDn'; clear hDn'
        simp only [Act.put, List.setIfInBounds_toArray, List.set_cons_zero, List.set_cons_succ]
        refine wpT_last rfl (by kernel_rfl) hDn (fun K9 hK9 => ?_)
        go_simp
        with_reducible refine (WI.out _ (Kept.refl _ _).drew).mono ?_
        rintro e w5 ⟨⟨v, rfl, ho⟩, k5⟩
        obtain ⟨a5, c5, rfl, hat5, hnil5, -, -⟩ := ho.els
        have H5 := Lib.hid hat5
        have N5 := Lib.hid hnil5
        have K5 := Lib.hid (K.out.trans ((Kept.refl (fun _ => False) wr).drew.trans k5))
        refine hK9.out _ _ (fun hDn' => ?_)
        clear hK9 K9 hDn hHeld ho k5 hat5 hnil5
        have hDn := hDn'
        clear hDn'
        refine wpT_takeE (i := 17) (t := 0) (v := ?_) rfl (by kernel_rfl) rfl rfl (by kernel_rfl) (by kernel_rfl) (by kernel_rfl) (fun _ _ _ h => h) (Or.inl ⟨by rfl, ?_⟩) hDn (fun hDn' => ?_)
        rotate_left
        · (intro w _; go_simp; (try with_reducible rfl))
        clear hDn; have hDn := hDn'; clear hDn'
        simp only [Act.put, List.setIfInBounds_toArray, List.set_cons_zero]
        refine wpT_done (by kernel_rfl) ?_ _
        have P5 := Lib.hid (wth_of HM.out x.key x.val x.is)
        have OE := Lib.hid (show ovE id G x = fun k => if k = x.key then (if x.is = true then some x.val else none) else G k from by unfold ovE; rw [if_pos HW.out])
        rw [← OE.out] at P5
        clear OE hDn
        go_wp2_with fail
        refine ⟨⟨i + 1, wth x.key x.val x.is M, a5, _, c5, by go_num, rfl, by omega, by rw [TK.out, OS.out]; exact P5.out, by rw [TK.out, OS.out]; exact GK.out, rfl, N5.out, H5.out, K5.out⟩, by simp [intOf]; omega⟩
      · have HW := Lib.hid hw
        have OE := Lib.hid (show ovE id G x = G from by unfold ovE; rw [if_neg HW.out])
        rw [OE.out] at OS
        by_cases h2 : x.k = 2
        · have gk : ((x.k : Nat) : Int) = 2 := by omega
          have gx : (x.x == id) = false := by simpa using (show ¬ x.x = id from fun q => hw ⟨h2, q⟩)
          clear hw h2
          go_wp2_with fail
          refine ⟨⟨i + 1, M, a1, n1, cc1, by go_num, rfl, by omega, by rw [TK.out, OS.out]; exact HM.out, by rw [TK.out, OS.out]; exact HG.out, HN1.out, HNIL.out, HAT1.out, K.out⟩, by simp [intOf]; omega⟩
        · have gk : (((x.k : Nat) : Int) == 2) = false := by simp; omega
          clear hw h2
          go_wp2_with fail
          refine ⟨⟨i + 1, M, a1, n1, cc1, by go_num, rfl, by omega, by rw [TK.out, OS.out]; exact HM.out, by rw [TK.out, OS.out]; exact HG.out, HN1.out, HNIL.out, HAT1.out, K.out⟩, by simp [intOf]; omega⟩
    · have hin : i = n := by omega
      have g1 : ¬ (i : Int) < (n : Int) := by omega
      have e1 : l.take i = l := List.take_of_length_le (by have := HN.out; omega)
      rw [e1] at HM
      go_wp2_with fail
      go_ret
      exact ⟨⟨a1, n1, cc1, M, rfl, HM.out, HN1.out, HNIL.out, HAT1.out⟩, K.out⟩
end Go.Proofs.Ytaeiajodbpgbbaa
