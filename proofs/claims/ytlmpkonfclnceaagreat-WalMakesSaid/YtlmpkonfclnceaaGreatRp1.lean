/- The document's texts in sectors: Same. -/
import Derived.Test.YtlmpkonfclnceaaGreatWl7
namespace Go.Proofs.YtlmpkonfclnceaaGreat
open Go.RowKit Go.Sort

set_option maxRecDepth 100000 in
set_option maxHeartbeats 800000 in
theorem rp_same (a b : Option Addr) (n m ca cb : Nat) (xs ys : List (List Nat)) (hn : n = xs.length) (hm : m = ys.length) (hl : n ≤ 1000000) (hl2 : m ≤ 1000000) (hxb : TBts xs) (hyb : TBts ys) (w : World) (hx : TxtsAt w a xs) (hy : TxtsAt w b ys) :
    Calls Tryz.prog 28 #[.slice a n ca, .slice b m cb] w fun e w' => e = .returned (.bool (decide (xs = ys))) ∧ Same w w' := by
  have HX := Lib.hid hx; have HY := Lib.hid hy
  have HN := Lib.hid hn; have HM := Lib.hid hm
  have XB := Lib.hid hxb; have YB := Lib.hid hyb
  clear hx hy hn hm hxb hyb
  by_cases h : n = m
  · subst h
    obtain ⟨r, hr⟩ : ∃ r, decide (xs = ys) = r := ⟨_, rfl⟩
    rw [hr]
    have HR := Lib.hid hr
    clear hr
    go_enter Tryz.func28, Tryz.ntmps28
    go_wp2_with fail
    go_loopw [5] (fun i wr => ∃ (k : Nat), k ≤ n ∧ Hid (∀ j, j < k → xs[j]? = ys[j]?) ∧ i = .int .i64 (k : Nat) ∧ Hid (Same w wr)) (fun i _ => n - (intOf i).toNat)
    case atStart => exact ⟨0, Nat.zero_le _, (fun j h => by omega), rfl, Kept.refl _ _⟩
    case round =>
      obtain ⟨k, hk, hp, rfl, hs⟩ := hrel
      by_cases hlt : k < n
      · obtain ⟨g1, off1, x, rfl, hb1, hx1, hc1⟩ := TxtsAt.at (HX.out.same hs.out) (i := k) (by rw [← HN.out]; exact hlt)
        obtain ⟨g2, off2, y, rfl, hb2, hx2, hc2⟩ := TxtsAt.at (HY.out.same hs.out) (i := k) (by rw [← HM.out]; exact hlt)
        have H1 := Lib.hid hx1; have H2 := Lib.hid hx2
        have bx := XB.out x (List.mem_of_getElem? hx1)
        have by' := YB.out y (List.mem_of_getElem? hx2)
        have g1' : (k : Int) < (n : Int) := by omega
        have g0' : (0 : Int) ≤ (k : Int) := by omega
        by_cases hxy : x = y
        · subst hxy
          clear hx1 hx2 hb1 hb2 bx by'
          go_wp2_with fail
          go_quiet (fail)
          go_wp2_with fail
          go_roundw
          case rel =>
            refine ⟨k + 1, by omega, ?_, by go_num, hs.out.drewN _⟩
            show ∀ j, j < k + 1 → xs[j]? = ys[j]?
            intro j hj
            by_cases hjk : j < k
            · exact hp.out j hjk
            · rw [show j = k from by omega, H1.out, H2.out]
          case measure => simp [intOf]; omega
        · have hne : ((strN x).toList == (strN y).toList) = false := by rw [str_beq bx by']; exact decide_eq_false hxy
          have hr0 : r = false := by
            rw [← HR.out]
            refine decide_eq_false fun q => hxy ?_
            have := H1.out
            rw [q, H2.out] at this
            exact (Option.some.inj this).symm
          subst hr0
          clear hx1 hx2 hb1 hb2 bx by' hxy
          go_wp2_with fail
          go_quiet (fail)
          go_wp2_with fail
          go_ret
          exact ⟨rfl, hs.out.drewN _⟩
      · have hkn : k = n := by omega
        subst hkn
        have g1' : ¬ (k : Int) < (k : Int) := by omega
        have hr1 : r = true := by
          rw [← HR.out]
          refine decide_eq_true (List.ext_getElem? fun j => ?_)
          by_cases hj : j < k
          · exact hp.out j hj
          · rw [List.getElem?_eq_none (by rw [← HN.out]; omega), List.getElem?_eq_none (by rw [← HM.out]; omega)]
        subst hr1
        go_wp2_with fail
        go_ret
        exact ⟨rfl, hs.out⟩
  · have hd : decide (xs = ys) = false := decide_eq_false fun q => h (by rw [HN.out, HM.out, q])
    rw [hd]
    have h' : ¬ (n : Int) = (m : Int) := by omega
    go_enter Tryz.func28, Tryz.ntmps28
    go_wp2_with fail
    go_ret
    exact ⟨rfl, Kept.refl _ _⟩
end Go.Proofs.YtlmpkonfclnceaaGreat
