/- Walks over the document's maps: Has, Next, Rank, Select. -/
import Derived.Test.YtmolmamfmboeoaaDoorBmR2
import Derived.Test.YtmolmamfmboeoaaDoorBm6
namespace Go.Proofs.YtmolmamfmboeoaaDoor
open Go.RowKit

/-- The document's Check and bit, told for the walks. -/
theorem rb_check4 (s : Int) (a : Option Addr) (cap : Nat) (ws : List Nat) (w : World) (hw : Words ws) (h : mapOK s ws = false) (hat : NatsAt w .u64 a ws) :
    Calls Tryd.prog 17 #[mapV s a ws.length cap] w fun e w' => e = .returned (.int .i64 4) ∧ Same w w' :=
  (rb_check s a cap ws w hw hat).mono fun _ _ k => ⟨mapOK_if_false s ws h k.1, k.2⟩
theorem rb_check0 (s : Int) (a : Option Addr) (cap : Nat) (ws : List Nat) (w : World) (hw : Words ws) (h : mapOK s ws = true) (hat : NatsAt w .u64 a ws) :
    Calls Tryd.prog 17 #[mapV s a ws.length cap] w fun e w' => e = .returned (.int .i64 0) ∧ Same w w' :=
  (rb_check s a cap ws w hw hat).mono fun _ _ k => ⟨mapOK_if_true s ws h k.1, k.2⟩

set_option maxHeartbeats 400000 in
theorem rb_has (s : Int) (a : Option Addr) (cap : Nat) (ws : List Nat) (n : Int) (w : World) (hw : Words ws) (hat : NatsAt w .u64 a ws) :
    Calls Tryd.prog 15 #[mapV s a ws.length cap, .int .i64 n] w fun e w' => e = .returned (.bool (hasB s ws n)) ∧ Same w w' := by
  have HA := Lib.hid hat; clear hat
  cases hm : mapOK s ws
  · have HE : hasB s ws n = false := by simp [hasB, inB, hm]
    rw [HE]
    have CC := Lib.hid fun w' h => rb_check4 s a cap ws w' hw hm h
    clear hm HE hw
    generalize ws.length = l at *
    go_enter Tryd.func15, Tryd.ntmps15
    go_wp2_with fail
    refine Calls.boxes1 ?_
    intro W g1 k1 _
    refine (CC.out W (HA.out.same k1)).mono ?_
    rintro e w2 ⟨rfl, k2⟩
    have K := Lib.hid (k1.trans k2)
    clear g1 k1 k2
    go_wp2
    go_ret
    exact ⟨rfl, K.out⟩
  · have CC := Lib.hid fun w' h => rb_check0 s a cap ws w' hw hm h
    cases hin : inB s ws n
    · have HE : hasB s ws n = false := by simp [hasB, hin]
      rw [HE]
      simp only [inB, hm, Bool.true_and] at hin
      clear hm HE hw
      generalize ws.length = l at *
      by_cases h0 : 0 ≤ n
      · have h1 : ¬ n < s := by simp [h0] at hin; omega
        clear hin
        go_enter Tryd.func15, Tryd.ntmps15
        go_wp2_with fail
        refine Calls.boxes1 ?_
        intro W g1 k1 _
        refine (CC.out W (HA.out.same k1)).mono ?_
        rintro e w2 ⟨rfl, k2⟩
        have K := Lib.hid (k1.trans k2)
        have G1 := g1.kept k2 (fun h => h)
        have q0 : w2.cell? ⟨w.heap.size, 0, none⟩ = some (.int .i64 s) := G1.cell 0 rfl
        clear g1 k1 k2 G1
        go_wp2
        go_ret
        exact ⟨rfl, K.out⟩
      · clear hin
        go_enter Tryd.func15, Tryd.ntmps15
        go_wp2_with fail
        refine Calls.boxes1 ?_
        intro W g1 k1 _
        refine (CC.out W (HA.out.same k1)).mono ?_
        rintro e w2 ⟨rfl, k2⟩
        have K := Lib.hid (k1.trans k2)
        clear g1 k1 k2
        go_wp2
        go_ret
        exact ⟨rfl, K.out⟩
    · obtain ⟨i0, i1, i2, i3, i4⟩ := inB_index hin
      obtain ⟨N, rfl⟩ := Int.eq_ofNat_of_zero_le i0
      rw [Int.toNat_natCast] at i3
      have HE : hasB s ws N = bitN ws N := by simp [hasB, hin]
      rw [HE]
      have BB := Lib.hid fun w' h => rb_bit s a cap ws N w' h i3 i4
      clear hm HE hw hin i3
      generalize bitN ws N = r at *
      generalize ws.length = l at *
      go_enter Tryd.func15, Tryd.ntmps15
      go_wp2_with fail
      refine Calls.boxes1 ?_
      intro W g1 k1 _
      refine (CC.out W (HA.out.same k1)).mono ?_
      rintro e w2 ⟨rfl, k2⟩
      have K := Lib.hid (k1.trans k2)
      have G1 := g1.kept k2 (fun h => h)
      have q0 : w2.cell? ⟨w.heap.size, 0, none⟩ = some (.int .i64 s) := G1.cell 0 rfl
      have q1 : w2.cell? ⟨w.heap.size, 1, none⟩ = some (.slice a l cap) := G1.cell 1 rfl
      clear g1 k1 k2 G1
      go_wp2_with fail
      refine (BB.out w2 (HA.out.same K.out)).mono ?_
      rintro e w3 ⟨rfl, k3⟩
      have K3 := Lib.hid (K.out.trans k3)
      clear k3
      go_wp2
      go_ret
      exact ⟨rfl, K3.out⟩

end Go.Proofs.YtmolmamfmboeoaaDoor
