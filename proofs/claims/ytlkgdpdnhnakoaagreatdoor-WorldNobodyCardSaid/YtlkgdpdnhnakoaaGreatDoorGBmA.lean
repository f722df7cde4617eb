/- GBmA: BmR1, Bm2. -/
import Derived.Test.YtlkgdpdnhnakoaaGreatDoorBm1
namespace Go.Proofs.YtlkgdpdnhnakoaaGreatDoor
open Go.RowKit

end Go.Proofs.YtlkgdpdnhnakoaaGreatDoor

namespace Go.Proofs.YtlkgdpdnhnakoaaGreatDoor
open Go.RowKit

/-- May a map be, and has it room for a number? -/
def inB (s : Int) (ws : List Nat) (n : Int) : Bool := mapOK s ws && (decide (0 ≤ n) && decide (n < s))
def hasM (s : Int) (ws : List Nat) (n : Int) : Bool := inB s ws n && bitN ws n.toNat

theorem inB_index {s : Int} {ws : List Nat} {n : Int} (h : inB s ws n = true) : 0 ≤ n ∧ n < s ∧ s ≤ 4096 ∧ n.toNat / 64 < ws.length ∧ ws.length ≤ 64 := by
  simp only [inB, Bool.and_eq_true, decide_eq_true_eq] at h
  have := mapOK_pos h.1
  have := mapOK_len h.1
  omega

set_option maxRecDepth 100000 in
set_option maxHeartbeats 800000 in
theorem bm_in (s : Int) (a : Option Addr) (cap : Nat) (ws : List Nat) (n : Int) (w : World) (hat : NatsAt w .u64 a ws) :
    Calls Tryz.prog 135 #[mapV s a ws.length cap, .int .i64 n] w fun e w' => e = .returned (.bool (inB s ws n)) ∧ Same w w' := by
  have CK := Lib.hid fun w' (h : NatsAt w' .u64 a ws) => bm_check s a cap ws w' h
  have HA := Lib.hid hat; clear hat
  cases hm : mapOK s ws
  · have HE : Hid (inB s ws n = false) := by show _ = _; simp [inB, hm]
    have CC := Lib.hid fun w' (h : NatsAt w' .u64 a ws) => (CK.out w' h).mono (R' := fun e w'' => e = .returned (.int .i64 4) ∧ Same w' w'') fun _ _ h => by rw [hm] at h; exact h
    clear hm CK
    go_enter Tryz.func135, Tryz.ntmps135
    go_wp2_with fail
    refine Calls.boxes1 ?_
    intro W g1 k1 _
    refine (CC.out W (HA.out.same k1)).mono ?_
    rintro e w2 ⟨rfl, k2⟩
    have K := Lib.hid (k1.trans k2)
    clear g1 k1 k2
    go_wp2
    go_ret
    exact ⟨by rw [HE.out]; rfl, K.out⟩
  · have CC := Lib.hid fun w' (h : NatsAt w' .u64 a ws) => (CK.out w' h).mono (R' := fun e w'' => e = .returned (.int .i64 0) ∧ Same w' w'') fun _ _ h => by rw [hm] at h; exact h
    have HE : Hid (inB s ws n = (decide (0 ≤ n) && decide (n < s))) := by show _ = _; simp [inB, hm]
    clear hm CK
    by_cases h0 : 0 ≤ n
    · have HE2 : Hid (inB s ws n = decide (n < s)) := by show _ = _; rw [HE.out]; simp [h0]
      go_enter Tryz.func135, Tryz.ntmps135
      go_wp2_with fail
      refine Calls.boxes1 ?_
      intro W g1 k1 _
      refine (CC.out W (HA.out.same k1)).mono ?_
      rintro e w2 ⟨rfl, k2⟩
      have K := Lib.hid (k1.trans k2)
      have G1 := g1.kept k2 (fun h => h)
      have q0 : w2.cell? ⟨w.heap.size, 0, none⟩ = some (.int .i64 s) := G1.cell 0 rfl
      clear g1 k1 k2 G1
      go_wp2
      go_ret
      exact ⟨by rw [HE2.out]; rfl, K.out⟩
    · have HE2 : Hid (inB s ws n = false) := by show _ = _; rw [HE.out]; simp [h0]
      have hd : decide (0 ≤ n) = false := decide_eq_false h0
      go_enter Tryz.func135, Tryz.ntmps135
      go_wp2_with fail
      refine Calls.boxes1 ?_
      intro W g1 k1 _
      refine (CC.out W (HA.out.same k1)).mono ?_
      rintro e w2 ⟨rfl, k2⟩
      have K := Lib.hid (k1.trans k2)
      clear g1 k1 k2
      go_wp2
      go_ret
      exact ⟨by rw [HE2.out]; rfl, K.out⟩

theorem and_one (x : Nat) (h : x < 18446744073709551616) : bits .and .u64 (x : Int) 1 = ((x % 2 : Nat) : Int) := by
  have := u64_and_nat x 1 h (by decide)
  rw [show ((1 : Nat) : Int) = 1 from rfl, nat_mask1] at this
  exact this
theorem bit_test (x k : Nat) (h : x < 18446744073709551616) : (bits .and .u64 ((x : Int) / 2 ^ k) 1 == 1) = x.testBit k := by
  have e : (x : Int) / 2 ^ k = ((x / 2 ^ k : Nat) : Int) := by simp
  rw [e, and_one _ (Nat.lt_of_le_of_lt (Nat.div_le_self _ _) h), Bool.eq_iff_iff, ← testBit_div, beq_iff_eq]
  generalize x / 2 ^ k = y
  omega

set_option maxRecDepth 100000 in
set_option maxHeartbeats 800000 in
theorem bm_has (s : Int) (a : Option Addr) (cap : Nat) (ws : List Nat) (n : Int) (w : World) (hw : Words ws) (hat : NatsAt w .u64 a ws) :
    Calls Tryz.prog 58 #[mapV s a ws.length cap, .int .i64 n] w fun e w' => e = .returned (.bool (hasM s ws n)) ∧ Same w w' := by
  have CK := Lib.hid fun w' (h : NatsAt w' .u64 a ws) => bm_in s a cap ws n w' h
  have HA := Lib.hid hat; clear hat
  cases hm : inB s ws n
  · have HE : Hid (hasM s ws n = false) := by show _ = _; simp [hasM, hm]
    have CC := Lib.hid fun w' (h : NatsAt w' .u64 a ws) => (CK.out w' h).mono (R' := fun e w'' => e = .returned (.bool false) ∧ Same w' w'') fun _ _ h => by rw [hm] at h; exact h
    clear hm CK
    go_enter Tryz.func58, Tryz.ntmps58
    go_wp2_with fail
    refine Calls.boxes1 ?_
    intro W g1 k1 _
    refine (CC.out W (HA.out.same k1)).mono ?_
    rintro e w2 ⟨rfl, k2⟩
    have K := Lib.hid (k1.trans k2)
    clear g1 k1 k2
    go_wp2
    go_ret
    exact ⟨by rw [HE.out]; rfl, K.out⟩
  · have CC := Lib.hid fun w' (h : NatsAt w' .u64 a ws) => (CK.out w' h).mono (R' := fun e w'' => e = .returned (.bool true) ∧ Same w' w'') fun _ _ h => by rw [hm] at h; exact h
    obtain ⟨i0, i1, i2, i3, i4⟩ := inB_index hm
    obtain ⟨b, off, x, rfl, hb, hx, hc⟩ := HA.out.at i3
    have hx' : ws.getD (n.toNat / 64) 0 = x := by rw [List.getD, hx]; rfl
    have HE : Hid (hasM s ws n = (bits .and .u64 ((x : Int) / 2 ^ (n.toNat % 64)) 1 == 1)) := by
      show _ = _
      rw [bit_test x _ (hw x (List.mem_of_getElem? hx))]
      simp [hasM, hm, bitN, ← hx']
    clear hm CK hx hx'
    obtain ⟨N, rfl⟩ := Int.eq_ofNat_of_zero_le i0
    simp only [Int.toNat_natCast] at *
    have HC := Lib.hid hc; clear hc
    generalize ws.length = l at *
    go_enter Tryz.func58, Tryz.ntmps58
    go_wp2_with fail
    refine Calls.boxes1 ?_
    intro W g1 k1 _
    refine (CC.out W (HA.out.same k1)).mono ?_
    rintro e w2 ⟨rfl, k2⟩
    have G1 := g1.kept k2 (fun h => h)
    have q1 : w2.cell? ⟨w.heap.size, 1, none⟩ = some (.slice (some ⟨b, off, none⟩) l cap) := G1.cell 1 rfl
    have q2 : w2.cell? ⟨b, off + N / 64, none⟩ = some (.int .u64 (x : Nat)) := ((k1.trans k2).cell (p := ⟨b, off + N / 64, none⟩) hb (fun h => h)).trans HC.out
    have K := Lib.hid (k1.trans k2)
    clear g1 k1 k2 G1
    go_wp2
    go_ret
    exact ⟨by rw [HE.out]; rfl, K.out⟩

end Go.Proofs.YtlkgdpdnhnakoaaGreatDoor
