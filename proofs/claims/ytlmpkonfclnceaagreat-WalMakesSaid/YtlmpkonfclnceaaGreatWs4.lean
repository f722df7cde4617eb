/- Texts in sectors: Pack. -/
import Derived.Test.YtlmpkonfclnceaaGreatWs3
namespace Go.Proofs.YtlmpkonfclnceaaGreat
open Go.RowKit Go.Sort

/-- Texts that a log takes. -/
structure TxOK (l : List (List Nat)) : Prop where
  few : l.length ≤ 100000
  short : ∀ s ∈ l, s.length ≤ 238
  bts : TBts l
theorem TxOK.drop {l : List (List Nat)} (h : TxOK l) (k : Nat) : TxOK (l.drop k) := ⟨by rw [List.length_drop]; have := h.few; omega, fun s hs => h.short s (List.mem_of_mem_drop hs), fun s hs => h.bts s (List.mem_of_mem_drop hs)⟩
section
attribute [local go_sem ↓] exec_app semAt_app
attribute [local go_sem] isApp_lit appA appX
set_option maxRecDepth 100000 in
set_option maxHeartbeats 1600000 in
theorem ws_pack (e_ f : Nat) (he : 1 ≤ e_ ∧ e_ ≤ 1099511627776) (a : Option Addr) (n c : Nat) (l : List (List Nat)) (hn : n = l.length) (hc : n ≤ c) (hok : TxOK l) (hf : f + prt l ≤ 256) (w : World) (hat : TxtsAt w a l) :
    Calls Tryz.prog 46 #[.int .i64 (e_ : Nat), .int .i64 (f : Nat), .slice a n c] w fun r w' => (∃ v, r = .returned (.tuple #[v, .int .i64 0]) ∧ RowsOwn w' w.heap.size v (packS e_ f l)) ∧ Same w w' := by
  have MY := Lib.hid fun w' => ws_may (e_ : Nat) w'
  rw [decide_eq_true (show (1 : Int) ≤ (e_ : Int) by omega), decide_eq_true (show (e_ : Int) ≤ 1099511627776 by omega)] at MY
  have PA := Lib.hid (ws_parts a n c l hn hc (by have := hok.few; omega) w hat)
  have HAT := Lib.hid hat
  have OK := Lib.hid hok
  have HN := Lib.hid hn
  have HE := Lib.hid he
  have hl := hok.few
  have hn1 : n ≤ 100000 := by omega
  have hpf : ¬ (256 : Int) - (prt l : Int) < (f : Int) := by omega
  have hf0 : ¬ (f : Int) < 0 := by omega
  have hp256 : prt l ≤ 256 := by omega
  have HF := Lib.hid hf
  clear hat hok hn he hf hl
  go_enter Tryz.func46, Tryz.ntmps46
  go_wp2_with fail
  with_reducible refine (MY.out _).mono ?_
  rintro r w' ⟨rfl, rfl⟩
  simp only [Bool.and_self]
  go_wp2_with fail
  with_reducible refine PA.out.mono ?_
  rintro r w' ⟨rfl, rfl⟩
  clear MY PA
  go_wp2_with fail
  go_loop [28] (fun t => ∃ i : Nat, t = .int .i64 i ∧ i ≤ n) (fun t => n - (intOf t).toNat)
  case atStart => exact ⟨0, rfl, by omega⟩
  case round =>
    obtain ⟨i, rfl, hi⟩ := hrel
    by_cases hgo : i < n
    · obtain ⟨b, off, s, rfl, -, hs, hcs⟩ := HAT.out.at (i := i) (by have := HN.out; omega)
      have hsz := strN_len s
      have hs8 := OK.out.short s (List.mem_of_getElem? hs)
      have g1 : (i : Int) < (n : Int) := by omega
      have g0 : (0 : Int) ≤ (i : Int) := by omega
      have g2 : ¬ (238 : Int) < (s.length : Int) := by omega
      clear hs hs8
      go_wp2_with fail
      go_round
      case rel => exact ⟨i + 1, by go_num, by omega⟩
      case measure => simp [intOf]; omega
    · have g1 : ¬ (i : Int) < (n : Int) := by omega
      go_wp2_with fail
      go_loopw [2, 10] (fun sv v wr => ∃ (a' : Option Addr) (n' c' : Nat) (l' D : List (List Nat)), sv = .slice a' n' c' ∧ n' = l'.length ∧ n' ≤ c' ∧ TxOK l' ∧ TxtsAt wr a' l' ∧ (l' = [] ∨ ∀ y, a' = some y → y.block < w'.heap.size) ∧ RowsOwn wr w'.heap.size v D ∧ packS e_ f l = D ++ packS e_ (f + D.length) l' ∧ D.length + prt l' = prt l ∧ Same w' wr) (fun sv _ _ => lenV sv)
      case atStart => exact ⟨a, n, c, l, [], rfl, HN.out, hc, OK.out, HAT.out, (by rcases HAT.out with q | ⟨b0, o0, rfl, hb0, -⟩; exact .inl q; exact .inr (fun y hy => by cases hy; exact hb0)), RowsOwn.nil _ _, by simp, by simp, Kept.refl _ _⟩
      case round =>
        obtain ⟨a', n', c', l', D, rfl, hn', hc', hok', hat', hold, hro, hpk, hpl, hk⟩ := hrel
        have OK' := Lib.hid hok'; have AT := Lib.hid hat'; have RO := Lib.hid hro; have PK := Lib.hid hpk; have PL := Lib.hid hpl; have K := Lib.hid hk; have HN' := Lib.hid hn'
        clear hok' hat' hro hpk hpl hk hn'
        obtain ⟨av, cv, rfl, hcv⟩ := RO.out.len
        by_cases hz : 0 < n'
        · have g1 : (0 : Int) < (n' : Int) := by omega
          have hne : l' ≠ [] := by intro q; have := HN'.out; rw [q] at this; simp at this; omega
          have GR := Lib.hid (ws_group a' n' c' l' HN'.out (by have := OK'.out.few; omega) wr AT.out)
          have hk0 := (gs_cons l' hne).2
          have hkl := grp_le 0 l'
          have hb := grp_bdy 0 l' OK'.out.short (by omega)
          have hpc := prt_cons l' hne
          have hpk := packS_cons e_ (f + D.length) l' hne
          obtain ⟨b, off, rfl, -⟩ := AT.out.there hne
          have hbo : b < w'.heap.size := (hold.resolve_left hne) _ rfl
          have HBO := Lib.hid hbo
          obtain ⟨k, hkk⟩ : ∃ k, grp 0 l' = k := ⟨_, rfl⟩
          rw [hkk] at GR hk0 hkl hb hpc hpk
          rw [Nat.zero_add] at hb
          have hkn : k ≤ n' := by have := HN'.out; omega
          have hfd : f + D.length < 256 := by have := PL.out; have := HF.out; omega
          have LA := Lib.hid (ws_lay e_ (f + D.length) HE.out hfd (some ⟨b, off, none⟩) k c' (l'.take k) (by rw [List.length_take]; omega) (fun s hs => OK'.out.short s (List.mem_of_mem_take hs)) hb (fun s hs => OK'.out.bts s (List.mem_of_mem_take hs)) wr (AT.out.take k))
          rw [Int.natCast_add] at LA
          have CUT := Lib.hid fun w2 (kk : Same wr w2) => txts_cut (AT.out.same kk) HN'.out hc' k hkn
          have HPK := Lib.hid hpk
          have HPC := Lib.hid hpc
          have OKD := Lib.hid (OK'.out.drop k)
          have LL : Hid ((layS e_ (f + D.length) (l'.take k)).length = 256) := layS_len e_ (f + D.length) hb
          have hDl : D.length ≤ 256 := by omega
          have hdl : Hid ((l'.drop k).length = n' - k) := by show _ = _; rw [List.length_drop]; have := HN'.out; omega
          have g2 : (k : Int) ≤ (n' : Int) := by omega
          have g3 : (0 : Int) ≤ (k : Int) := by omega
          have g4 : (k : Int) ≤ (c' : Int) := by omega
          obtain ⟨dl, hdle⟩ : ∃ dl, D.length = dl := ⟨_, rfl⟩
          rw [hdle] at LA hDl HPK LL PK ⊢
          have HDLE := Lib.hid hdle
          obtain ⟨Y, hY⟩ : ∃ Y, layS e_ (f + dl) (l'.take k) = Y := ⟨_, rfl⟩
          rw [hY] at LA LL HPK
          clear hkk hkl hb hpc hpk hne hfd hY hdle AT
          go_wp2_with fail
          with_reducible refine GR.out.mono ?_
          rintro r w2 ⟨rfl, rfl⟩
          go_wp2_with fail
          with_reducible refine LA.out.mono ?_
          rintro r w3 ⟨g, rfl, n3, hg3, k3⟩
          have hg3' := n3
          obtain ⟨-, hgl3⟩ : True ∧ g < w3.heap.size := by
            rcases n3 with q | ⟨b', o', q, hlt, _⟩
            · have := LL.out; rw [q] at this; cases this
            · cases q; exact ⟨trivial, hlt⟩
          have RO3 := RO.out.same k3
          have hvg : (Value.slice av dl cv).ownBlock ≠ some g := by
            intro q
            obtain ⟨rs, h1, -, -⟩ := RO.out
            have := (h1.far g (by rw [HDLE.out]; exact q)).2
            omega
          have RO3' : RowsOwn w3 w'.heap.size (.slice av dl cv) D := by rw [← HDLE.out]; exact RO3
          obtain ⟨v5, w5, hrun, ro5, k5⟩ := rows_append RO3' (Nat.le_trans K.out.size k3.size) (by rw [HDLE.out]; omega) g 256 256 Y LL.out.symm (Nat.le_refl _) (Nat.le_trans K.out.size hg3) hgl3 hvg hg3'
          obtain ⟨aok, aV, aW⟩ := app_of hrun
          have RO5 := Lib.hid ro5
          have K5 := Lib.hid ((K.out.trans k3).step k5 (fun i hi q => by omega))
          have AT5 : Hid (TxtsAt w5 (if c' = k then some ⟨b, off, none⟩ else some ⟨b, off + k, none⟩) (l'.drop k)) := by
            refine ElsAt.kept (CUT.out w3 k3) k5 (fun y hy => ?_)
            have e : y.block = b := by split at hy <;> (cases hy; rfl)
            rw [e]; have := HBO.out; omega
          clear hrun ro5 k5 n3 hg3' RO3 RO3' hvg hg3 hgl3 k3
          go_wp2_with fail
          go_roundw
          case rel =>
            refine ⟨_, _, _, l'.drop k, D ++ [Y], rfl, hdl.out.symm, by omega, OKD.out, AT5.out, .inr (fun y hy => ?_), RO5.out, ?_, ?_, K5.out⟩
            · have e : y.block = b := by split at hy <;> (cases hy; rfl)
              rw [e]; exact HBO.out
            · rw [PK.out, HPK.out, List.length_append, HDLE.out]
              simp [Nat.add_assoc]
            · have h1 := PL.out
              have h2 := HPC.out
              simp
              omega
          case measure => simp only [lenV_slice]; omega
        · have e : l' = [] := List.eq_nil_of_length_eq_zero (by have := HN'.out; omega)
          have g1 : ¬ (0 : Int) < (n' : Int) := by omega
          have PK2 : Hid (packS e_ f l = D) := by show _ = _; rw [PK.out, e]; simp [packS, gs, gsp, packL]
          clear e
          go_wp2_with fail
          go_ret2
          rw [PK2.out]
          exact ⟨⟨_, rfl, RO.out⟩, K.out⟩
end
end Go.Proofs.YtlmpkonfclnceaaGreat
