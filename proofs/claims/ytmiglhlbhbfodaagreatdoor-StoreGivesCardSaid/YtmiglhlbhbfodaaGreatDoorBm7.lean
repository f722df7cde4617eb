/- Walks over package bitmap: Same; the document's Same. -/
import Derived.Test.YtmiglhlbhbfodaaGreatDoorGBmA
namespace Go.Proofs.YtmiglhlbhbfodaaGreatDoor
open Go.RowKit

theorem beq_at (x y : Nat) : ((x : Int) != (y : Int)) = !(decide (x = y)) := by
  by_cases h : x = y
  · subst h; simp
  · have : ¬ (x : Int) = y := by omega
    simp [h, this]

/-- Two lists of one length, alike so far. -/
theorem eq_of_all {xs ys : List Nat} (hl : xs.length = ys.length) (h : ∀ j, j < xs.length → xs[j]? = ys[j]?) : xs = ys := by
  apply List.ext_getElem? 
  intro i
  by_cases hi : i < xs.length
  · exact h i hi
  · rw [List.getElem?_eq_none (by omega), List.getElem?_eq_none (by omega)]

set_option maxRecDepth 100000 in
set_option maxHeartbeats 400000 in
theorem sl_equal (a b : Option Addr) (ca cb : Nat) (xs ys : List Nat) (w : World) (hl : xs.length < 9223372036854775808) (hx : NatsAt w .u64 a xs) (hy : NatsAt w .u64 b ys) :
    Calls Tryz.prog 55 #[.slice a xs.length ca, .slice b ys.length cb] w fun e w' => e = .returned (.bool (decide (xs = ys))) ∧ Same w w' := by
  by_cases hn : xs.length = ys.length
  · obtain ⟨r, hr⟩ : ∃ r, decide (xs = ys) = r := ⟨_, rfl⟩
    rw [hr]
    have HR := Lib.hid hr; clear hr
    have HX := Lib.hid hx; have HY := Lib.hid hy; clear hx hy
    rw [← hn]
    have HN := Lib.hid hn; clear hn
    generalize hlen : xs.length = l at hl ⊢
    have HLen := Lib.hid hlen; clear hlen
    go_enter Tryz.func55, Tryz.ntmps55
    go_wp2_with fail
    go_loopw [5, 13] (fun v i wr => ∃ (k : Nat) (v1 : Value), k ≤ l ∧ Hid (∀ j, j < k → xs[j]? = ys[j]?) ∧ v = v1 ∧ i = .int .i64 (k : Nat) ∧ Hid (Same w wr)) (fun _ i _ => l - (intOf i).toNat)
    case atStart => exact ⟨0, _, Nat.zero_le _, (fun j h => by omega), rfl, rfl, Kept.refl _ w⟩
    case round =>
      obtain ⟨k, v1, hk, hp, rfl, rfl, hs⟩ := hrel
      have HX2 := Lib.hid (HX.out.same hs.out); have HY2 := Lib.hid (HY.out.same hs.out)
      by_cases hlt : k < l
      · obtain ⟨b1, off1, x, rfl, hb1, hx1, hc1⟩ := HX2.out.at (i := k) (by rw [HLen.out]; omega)
        obtain ⟨b2, off2, y, rfl, hb2, hx2, hc2⟩ := HY2.out.at (i := k) (by rw [← HN.out, HLen.out]; omega)
        have H1 := Lib.hid hx1; have H2 := Lib.hid hx2
        clear hx1 hx2 hb1 hb2
        by_cases hxy : x = y
        · subst hxy
          go_wp2_with fail
          go_quiet (fail)
          go_wp2_with fail
          go_roundw
          case rel =>
            refine ⟨k + 1, _, by omega, ?_, rfl, by go_num, hs.out.drewN _⟩
            show ∀ j, j < k + 1 → xs[j]? = ys[j]?
            intro j hj
            by_cases hjk : j < k
            · exact hp.out j hjk
            · rw [show j = k from by omega, H1.out, H2.out]
          case measure => simp [intOf]; omega
        · have hxy' : ((x : Int) != (y : Int)) = true := by rw [beq_at]; simp [hxy]
          go_wp2_with fail
          go_quiet (fail)
          go_wp2_with fail
          go_ret
          refine ⟨?_, hs.out.drewN _⟩
          have : r = false := by
            rw [← HR.out]
            apply decide_eq_false
            intro e
            have h1 := H1.out
            rw [e, H2.out] at h1
            simp at h1
            omega
          rw [this]; rfl
      · have e : k = l := by omega
        subst e
        go_wp2
        go_ret
        refine ⟨?_, hs.out⟩
        have : r = true := by
          rw [← HR.out]
          exact decide_eq_true (eq_of_all HN.out (by rw [HLen.out]; exact hp.out))
        rw [this]; rfl
  · have hn' : ((xs.length : Int) != (ys.length : Int)) = true := by rw [beq_at]; simp [hn]
    have hr : decide (xs = ys) = false := decide_eq_false (fun e => hn (by rw [e]))
    rw [hr]
    clear hr hx hy hn
    generalize xs.length = l1 at *
    generalize ys.length = l2 at *
    go_enter Tryz.func55, Tryz.ntmps55
    go_wp2
    go_ret
    exact ⟨rfl, Kept.refl _ w⟩

/-- Are two maps one? -/
def sameB (s t : Int) (xs ys : List Nat) : Bool := decide (s = t) && decide (xs = ys)

set_option maxRecDepth 100000 in
theorem bm_same (s t : Int) (a b : Option Addr) (ca cb : Nat) (xs ys : List Nat) (w : World) (hl : xs.length < 9223372036854775808) (hx : NatsAt w .u64 a xs) (hy : NatsAt w .u64 b ys) :
    Calls Tryz.prog 25 #[mapV s a xs.length ca, mapV t b ys.length cb] w fun e w' => e = .returned (.bool (sameB s t xs ys)) ∧ Same w w' := by
  have HX := Lib.hid hx; have HY := Lib.hid hy
  have C := Lib.hid fun w' (hx : NatsAt w' .u64 a xs) (hy : NatsAt w' .u64 b ys) => sl_equal a b ca cb xs ys w' hl hx hy
  clear hx hy hl
  obtain ⟨r, hr⟩ : ∃ r, decide (xs = ys) = r := ⟨_, rfl⟩
  rw [sameB, hr]
  rw [hr] at C
  clear hr
  generalize xs.length = l1 at *
  generalize ys.length = l2 at *
  by_cases hst : s = t
  · subst hst
    have e : (decide (s = s) && r) = r := by simp
    rw [e]
    go_enter Tryz.func25, Tryz.ntmps25
    go_wp2_with fail
    refine Calls.boxes2 ?_
    intro W g1 g2 k _
    refine (C.out W (HX.out.same k) (HY.out.same k)).mono ?_
    rintro e w2 ⟨rfl, k2⟩
    have K := Lib.hid (k.trans k2)
    clear g1 g2 k k2
    go_wp2
    go_ret
    exact ⟨rfl, K.out⟩
  · have e : (decide (s = t) && r) = false := by simp [hst]
    rw [e]
    have hst' : (s == t) = false := by simpa using hst
    go_enter Tryz.func25, Tryz.ntmps25
    go_wp2_with fail
    go_ret
    exact ⟨rfl, ((Kept.refl _ w).alloc _).alloc _⟩

end Go.Proofs.YtmiglhlbhbfodaaGreatDoor
