/- When commits were; what a transaction wrote, laid over a map. -/
import Derived.Test.YtaeiajodbpgbbaaHv1
namespace Go.Proofs.Ytaeiajodbpgbbaa
open Go.RowKit Go.Sort

/-- Whole numbers, one cell each. -/
def inE : Enc Int := ⟨1, fun x => [.int .i64 x], fun _ => rfl, by decide, fun e v hv => by simp at hv; rw [hv]; rfl⟩
theorem inInfo : (Try.prog.info? 3).map (fun i => (i.zero, i.size, i.bytes)) = some (some (.int .i64 0), 1, 8) := by kernel_rfl
theorem in_push {w : World} {base : Nat} {v : Value} {xs : List Int} (h : OwnE inE w base 3 v xs) (hb : base ≤ w.heap.size) (hl : xs.length ≤ 100000) (x : Int) :
    ∃ v' w', (Builtin.append_ #[28, 28] 28 #[v, .slice (some ⟨w.heap.size, 0, none⟩) 1 1]).run Try.prog (w.alloc (.cells #[.int .i64 x] 3)) = .ok v' w' ∧ OwnE inE w' base 3 v' (xs ++ [x]) ∧ Kept (fun j => base ≤ j) w w' :=
  el_push inE _ _ Try.underlying28 inInfo rfl (by decide) h hb hl x _ rfl
/-- The times of commits. -/
def cmts (l : List HEv) : List Int := (l.filter fun e => e.k == 3).map (·.t)
theorem cmts_snoc (l : List HEv) (x : HEv) : cmts (l ++ [x]) = if x.k = 3 then cmts l ++ [x.t] else cmts l := by
  unfold cmts
  by_cases h : x.k = 3
  · rw [if_pos h, List.filter_append]; simp [h]
  · rw [if_neg h, List.filter_append]; simp [h]
theorem cmts_len (l : List HEv) : (cmts l).length ≤ l.length := by unfold cmts; rw [List.length_map]; exact List.length_filter_le _ _
section
attribute [local go_sem ↓] exec_app semAt_app
attribute [local go_sem] isApp_lit appA appX
set_option maxRecDepth 100000 in
set_option maxHeartbeats 800000 in
theorem rf_commits (a : Option Addr) (n c : Nat) (l : List HEv) (hn : n = l.length) (hl : n ≤ 1000) (w : World) (hat : ElsAt evE w a l) :
    Calls Try.prog 9 #[.slice a n c] w fun e w' => (∃ v, e = .returned v ∧ OwnE inE w' w.heap.size 3 v (cmts l)) ∧ Same w w' := by
  have HN := Lib.hid hn; have HAT := Lib.hid hat
  clear hn hat
  go_enter Try.func9, Try.ntmps9
  go_wp2_with fail
  go_loopw [3, 4] (fun v t wr => ∃ (i : Nat), t = .int .i64 i ∧ i ≤ n ∧ OwnE inE wr w.heap.size 3 v (cmts (l.take i)) ∧ Same w wr) (fun _ t _ => n - (intOf t).toNat)
  case atStart => exact ⟨0, rfl, by omega, OwnE.nil _ _ _, Kept.refl _ _⟩
  case round =>
    obtain ⟨i, rfl, hi, hg, hk⟩ := hrel
    have K := Lib.hid hk; have HG := Lib.hid hg
    clear hk hg
    by_cases hgo : i < n
    · have hil : i < l.length := by have := HN.out; omega
      obtain ⟨b, off, rfl, hbl, hc⟩ := ev_at HAT.out hil
      obtain ⟨c0, c1, c2, c3, c4, c5⟩ := hc _ K.out
      obtain ⟨x, hx⟩ : ∃ x, l[i] = x := ⟨_, rfl⟩
      have TK := Lib.hid (show l.take (i + 1) = l.take i ++ [x] by rw [← hx, List.take_append_getElem])
      rw [hx] at c0 c1 c2 c3 c4 c5
      have g1 : (i : Int) < (n : Int) := by omega
      have g0 : (0 : Int) ≤ (i : Int) := by omega
      have CM := Lib.hid (cmts_snoc (l.take i) x)
      by_cases hk3 : x.k = 3
      · have gk : ((x.k : Nat) : Int) = 3 := by omega
        obtain ⟨v', w', hrun, ho, k5⟩ := in_push HG.out K.out.size (Nat.le_trans (cmts_len _) (by rw [List.length_take]; omega)) x.t
        have K5 := Lib.hid (K.out.step k5 (fun j hj q => by omega))
        have HO := Lib.hid ho
        obtain ⟨aok, aV, aW⟩ := app_of hrun
        have HK3 := Lib.hid hk3
        clear hrun ho k5 hx hc hk3
        go_wp2_with fail
        go_roundw
        case rel => exact ⟨i + 1, by go_num, by omega, by rw [TK.out, CM.out, if_pos HK3.out]; exact HO.out, K5.out⟩
        case measure => simp [intOf]; omega
      · have gk : ¬ ((x.k : Nat) : Int) = 3 := by omega
        have HK3 := Lib.hid hk3
        clear hx hc hk3
        go_wp2_with fail
        go_roundw
        case rel => exact ⟨i + 1, by go_num, by omega, by rw [TK.out, CM.out, if_neg HK3.out]; exact HG.out, K.out⟩
        case measure => simp [intOf]; omega
    · have hin : i = n := by omega
      have g1 : ¬ (i : Int) < (n : Int) := by omega
      have e1 : l.take i = l := List.take_of_length_le (by have := HN.out; omega)
      rw [e1] at HG
      go_wp2_with fail
      go_ret
      exact ⟨⟨_, rfl, HG.out⟩, K.out⟩
set_option maxRecDepth 100000 in
set_option maxHeartbeats 800000 in
theorem hv_commits (a : Option Addr) (n c : Nat) (l : List HEv) (hn : n = l.length) (hl : n ≤ 1000) (w : World) (hat : ElsAt evE w a l) :
    Calls Try.prog 8 #[.slice a n c] w fun e w' => (∃ v, e = .returned v ∧ OwnE inE w' w.heap.size 3 v (cmts l)) ∧ Same w w' := by
  have HN := Lib.hid hn; have HAT := Lib.hid hat
  clear hn hat
  go_enter Try.func8, Try.ntmps8
  go_wp2_with fail
  go_loopw [3, 8] (fun v t wr => ∃ (i : Nat), t = .int .i64 i ∧ i ≤ n ∧ OwnE inE wr w.heap.size 3 v (cmts (l.take i)) ∧ Same w wr) (fun _ t _ => n - (intOf t).toNat)
  case atStart => exact ⟨0, rfl, by omega, OwnE.nil _ _ _, Kept.refl _ _⟩
  case round =>
    obtain ⟨i, rfl, hi, hg, hk⟩ := hrel
    have K := Lib.hid hk; have HG := Lib.hid hg
    clear hk hg
    by_cases hgo : i < n
    · have hil : i < l.length := by have := HN.out; omega
      obtain ⟨b, off, rfl, hbl, hc⟩ := ev_at HAT.out hil
      obtain ⟨c0, c1, c2, c3, c4, c5⟩ := hc _ K.out
      obtain ⟨x, hx⟩ : ∃ x, l[i] = x := ⟨_, rfl⟩
      have TK := Lib.hid (show l.take (i + 1) = l.take i ++ [x] by rw [← hx, List.take_append_getElem])
      rw [hx] at c0 c1 c2 c3 c4 c5
      have g1 : (i : Int) < (n : Int) := by omega
      have g0 : (0 : Int) ≤ (i : Int) := by omega
      have CM := Lib.hid (cmts_snoc (l.take i) x)
      go_upto_region 5 with fail
      refine cutWl (fun wn => Fr wn [(wr.heap.size, #[.int .u8 (x.k : Nat), .int .i64 x.x, .int .i64 x.t, encStr x.key, encStr x.val, .bool x.is], 42)] ∧ Same wr wn) ⟨⟨Blk.new _ _ _, trivial⟩, (Kept.refl _ _).alloc _⟩ ?_
      rintro w4 ⟨hf4, k4⟩
      have F4 := Lib.hid hf4
      have K4 := Lib.hid (K.out.trans k4)
      have KR := Lib.hid k4
      obtain ⟨p0, f0, -⟩ := F4.out.rules
      have z0 := F4.out.1.lt
      clear hf4 k4 c0 c1 c2 c3 c4 c5 hc
      by_cases hk3 : x.k = 3
      · have gk : ((x.k : Nat) : Int) = 3 := by omega
        obtain ⟨v', w', hrun, ho, k5⟩ := in_push (HG.out.same KR.out) K4.out.size (Nat.le_trans (cmts_len _) (by rw [List.length_take]; omega)) x.t
        have K5 := Lib.hid (K4.out.step k5 (fun j hj q => by omega))
        have HO := Lib.hid ho
        obtain ⟨aok, aV, aW⟩ := app_of hrun
        have HK3 := Lib.hid hk3
        clear hrun ho k5 hx hk3
        go_wp2_with fail
        go_roundw
        case rel => exact ⟨i + 1, by go_num, by omega, by rw [TK.out, CM.out, if_pos HK3.out]; exact HO.out, K5.out⟩
        case measure => simp [intOf]; omega
      · have gk : ¬ ((x.k : Nat) : Int) = 3 := by omega
        have HK3 := Lib.hid hk3
        clear hx hk3
        go_wp2_with fail
        go_roundw
        case rel => exact ⟨i + 1, by go_num, by omega, by rw [TK.out, CM.out, if_neg HK3.out]; exact HG.out.same KR.out, K4.out⟩
        case measure => simp [intOf]; omega
    · have hin : i = n := by omega
      have g1 : ¬ (i : Int) < (n : Int) := by omega
      have e1 : l.take i = l := List.take_of_length_le (by have := HN.out; omega)
      rw [e1] at HG
      go_wp2_with fail
      go_ret
      exact ⟨⟨_, rfl, HG.out⟩, K.out⟩
end
end Go.Proofs.Ytaeiajodbpgbbaa
