/- Walks over the document's maps: Light, Same, New, Has. -/
import Derived.Test.YtmolmamfmboeoaaDoorBm7
import Derived.Test.YtmolmamfmboeoaaDoorBm9
namespace Go.Proofs.YtmolmamfmboeoaaDoor
open Go.RowKit

theorem rb_light (s : Int) (a : Option Addr) (n cap : Nat) (w : World) :
    Calls Tryd.prog 9 #[mapV s a n cap] w fun e w' => e = .returned (.bool (decide (n ≤ 8))) ∧ Same w w' := by
  obtain ⟨r, hr⟩ : ∃ r, decide (n ≤ 8) = r := ⟨_, rfl⟩
  rw [hr]
  have hr' : decide ((n : Int) ≤ 8) = r := by rw [← hr]; by_cases h : n ≤ 8 <;> simp [h] <;> omega
  have HR' := Lib.hid hr'
  clear hr hr'
  go_enter Tryd.func9, Tryd.ntmps9
  go_wp2_with fail
  go_ret
  exact ⟨by rw [← HR'.out]; rfl, (Kept.refl _ w).alloc _⟩

set_option maxHeartbeats 800000 in
theorem rb_same (s t : Int) (a b : Option Addr) (ca cb : Nat) (xs ys : List Nat) (w : World) (hl : xs.length < 9223372036854775808) (hx : NatsAt w .u64 a xs) (hy : NatsAt w .u64 b ys) :
    Calls Tryd.prog 12 #[mapV s a xs.length ca, mapV t b ys.length cb] w fun e w' => e = .returned (.bool (sameB s t xs ys)) ∧ Same w w' := by
  have HX := Lib.hid hx; have HY := Lib.hid hy
  clear hx hy
  by_cases hst : s = t
  · subst hst
    by_cases hn : xs.length = ys.length
    · obtain ⟨r, hr⟩ : ∃ r, sameB s s xs ys = r := ⟨_, rfl⟩
      rw [hr]
      have HR : Hid (decide (xs = ys) = r) := by show _ = _; rw [← hr]; simp [sameB]
      clear hr
      rw [← hn]
      have HN := Lib.hid hn; clear hn
      generalize hlen : xs.length = l at hl ⊢
      have HLen := Lib.hid hlen; clear hlen
      go_enter Tryd.func12, Tryd.ntmps12
      go_wp2_with fail
      go_loopw [5] (fun i wr => ∃ (k : Nat), k ≤ l ∧ Hid (∀ j, j < k → xs[j]? = ys[j]?) ∧ i = .int .i64 (k : Nat) ∧ Hid (Blk wr w.heap.size #[.int .i64 s, .slice a l ca] 24) ∧ Hid (Blk wr (w.heap.size + 1) #[.int .i64 s, .slice b l cb] 24) ∧ Hid (Same w wr)) (fun i _ => l - (intOf i).toNat)
      case atStart => exact ⟨0, Nat.zero_le _, (fun j h => by omega), rfl, (Blk.new w _ _).alloc _, Blk.new' _ _ _ (by simp), ((Kept.refl _ w).alloc _).alloc _⟩
      case round =>
        obtain ⟨k, hk, hp, rfl, b1, b2, hs⟩ := hrel
        have q1 : wr.cell? ⟨w.heap.size, 1, none⟩ = some (.slice a l ca) := b1.out.cell 1 rfl
        have q2 : wr.cell? ⟨w.heap.size + 1, 1, none⟩ = some (.slice b l cb) := b2.out.cell 1 rfl
        by_cases hlt : k < l
        · obtain ⟨g1, off1, x, rfl, hb1, hx1, hc1⟩ := (HX.out.same hs.out).at (i := k) (by rw [HLen.out]; omega)
          obtain ⟨g2, off2, y, rfl, hb2, hx2, hc2⟩ := (HY.out.same hs.out).at (i := k) (by rw [← HN.out, HLen.out]; omega)
          have H1 := Lib.hid hx1; have H2 := Lib.hid hx2
          clear hx1 hx2 hb1 hb2
          by_cases hxy : x = y
          · subst hxy
            go_wp2_with fail
            go_quiet (fail)
            go_wp2_with fail
            go_roundw
            case rel =>
              refine ⟨k + 1, by omega, ?_, by go_num, b1.out.drewN _, b2.out.drewN _, hs.out.drewN _⟩
              show ∀ j, j < k + 1 → xs[j]? = ys[j]?
              intro j hj
              by_cases hjk : j < k
              · exact hp.out j hjk
              · rw [show j = k from by omega, H1.out, H2.out]
            case measure => simp [intOf]; omega
          · have hxy' : ((x : Int) != (y : Int)) = true := by rw [beq_at]; simp [hxy]
            go_wp2_with fail
            go_quiet (fail)
            go_wp2_with fail
            go_ret
            refine ⟨?_, hs.out.drewN _⟩
            have : r = false := by
              rw [← HR.out]
              apply decide_eq_false
              intro e
              have h1 := H1.out
              rw [e, H2.out] at h1
              simp at h1
              omega
            rw [this]; rfl
        · have e : k = l := by omega
          subst e
          go_wp2
          go_ret
          refine ⟨?_, hs.out⟩
          have : r = true := by
            rw [← HR.out]
            exact decide_eq_true (eq_of_all HN.out (by rw [HLen.out]; exact hp.out))
          rw [this]; rfl
    · have hn' : ((xs.length : Int) != (ys.length : Int)) = true := by rw [beq_at]; simp [hn]
      have hr : sameB s s xs ys = false := by simp only [sameB, decide_eq_false (fun e : xs = ys => hn (by rw [e])), Bool.and_false]
      rw [hr]
      clear hr hn
      generalize xs.length = l1 at *
      generalize ys.length = l2 at *
      go_enter Tryd.func12, Tryd.ntmps12
      go_wp2
      go_ret
      exact ⟨rfl, ((Kept.refl _ w).alloc _).alloc _⟩
  · have hr : sameB s t xs ys = false := by simp [sameB, hst]
    have hst' : (s != t) = true := by simpa using hst
    rw [hr]
    clear hr
    generalize xs.length = l1 at *
    generalize ys.length = l2 at *
    go_enter Tryd.func12, Tryd.ntmps12
    go_wp2
    go_ret
    exact ⟨rfl, ((Kept.refl _ w).alloc _).alloc _⟩

end Go.Proofs.YtmolmamfmboeoaaDoor
