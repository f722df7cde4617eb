/- GenS: a stamp's generation. -/
import Derived.Test.YtlkgdpdnhnakoaaGreatDoorGNo
import Derived.Test.YtlkgdpdnhnakoaaGreatDoorCrA
namespace Go.Proofs.YtlkgdpdnhnakoaaGreatDoor
open Go.RowKit

/-- A stamp's generation. -/
def genG (s : List Nat) : Nat := if 1099511627776 < low s then 0 else low s
def stV (s : List Nat) : Value := .agg (s.map fun n : Nat => Value.int .u8 (n : Nat)).toArray
theorem list8G {α : Type} {l : List α} (h : l.length = 8) : ∃ b0 b1 b2 b3 b4 b5 b6 b7, l = [b0, b1, b2, b3, b4, b5, b6, b7] := by
  match l, h with
  | [b0, b1, b2, b3, b4, b5, b6, b7], _ => exact ⟨b0, b1, b2, b3, b4, b5, b6, b7, rfl⟩
theorem idx_stG (cs : Array Value) (w : World) (j : Nat) (v : Value) (hs : cs.size = 8) (hv : cs[j]? = some v) :
    (Instr.index 388 (.agg cs) (.int .i64 (j : Nat))).run Tryz.prog w = .ok v w := by
  have hj : j < cs.size := by
    rcases Nat.lt_or_ge j cs.size with q | q
    · exact q
    · rw [Array.getElem?_eq_none q] at hv; cases hv
  simp [Instr.index, run_underlying Tryz.underlying388, asIntOf, hv, go_sem]
  intro q
  omega
set_option maxRecDepth 100000 in
set_option maxHeartbeats 1600000 in
theorem sn_genG (s : List Nat) (hs : s.length = 8) (hb : Bts s) (w : World) :
    Calls Tryz.prog 261 #[stV s] w fun e w' => e = .returned (.int .i64 ((genG s : Nat) : Int)) ∧ Same w w' := by
  obtain ⟨b0, b1, b2, b3, b4, b5, b6, b7, rfl⟩ := list8G hs
  have B0 := hb b0 (by simp); have B1 := hb b1 (by simp); have B2 := hb b2 (by simp); have B3 := hb b3 (by simp); have B4 := hb b4 (by simp); have B5 := hb b5 (by simp); have B6 := hb b6 (by simp); have B7 := hb b7 (by simp)
  have HB := Lib.hid (show b0 < 256 ∧ b1 < 256 ∧ b2 < 256 ∧ b3 < 256 ∧ b4 < 256 ∧ b5 < 256 ∧ b6 < 256 ∧ b7 < 256 from ⟨B0, B1, B2, B3, B4, B5, B6, B7⟩)
  clear hs hb B0 B1 B2 B3 B4 B5 B6 B7
  show Calls Tryz.prog 261 #[.agg #[.int .u8 (b0 : Nat), .int .u8 (b1 : Nat), .int .u8 (b2 : Nat), .int .u8 (b3 : Nat), .int .u8 (b4 : Nat), .int .u8 (b5 : Nat), .int .u8 (b6 : Nat), .int .u8 (b7 : Nat)]] w fun e w' => e = .returned (.int .i64 ((genG [b0, b1, b2, b3, b4, b5, b6, b7] : Nat) : Int)) ∧ Same w w'
  obtain ⟨L, hL⟩ : ∃ L, low [b0, b1, b2, b3, b4, b5, b6, b7] = L := ⟨_, rfl⟩
  have HG := Lib.hid (show genG [b0, b1, b2, b3, b4, b5, b6, b7] = if 1099511627776 < L then 0 else L from by unfold genG; rw [hL])
  have HL := Lib.hid hL
  clear hL
  go_enter Tryz.func261, Tryz.ntmps261
  go_wp2_with fail
  go_loopw [3, 7] (fun v t wr => ∃ (i : Nat), t = .int .i64 i ∧ i ≤ 8 ∧ v = .int .u64 ((low ([b0, b1, b2, b3, b4, b5, b6, b7].take i) : Nat) : Int) ∧ Same w wr) (fun _ t _ => 8 - (intOf t).toNat)
  case atStart => exact ⟨0, rfl, by omega, rfl, (Kept.refl _ _).alloc _⟩
  case round =>
    obtain ⟨i, rfl, hi, rfl, hk⟩ := hrel
    have K := Lib.hid hk
    clear hk
    by_cases hgo : i < 8
    · obtain ⟨x, hx⟩ : ∃ x, [b0, b1, b2, b3, b4, b5, b6, b7][i]? = some x := ⟨_, List.getElem?_eq_getElem (by simpa using hgo)⟩
      have hbt : Bts [b0, b1, b2, b3, b4, b5, b6, b7] := by
        obtain ⟨h0, h1, h2, h3, h4, h5, h6, h7⟩ := HB.out
        intro y hy
        simp at hy
        omega
      have hxb : x < 256 := hbt x (List.mem_of_getElem? hx)
      have HS : Hid (low ([b0, b1, b2, b3, b4, b5, b6, b7].take (i + 1)) = 256 * low ([b0, b1, b2, b3, b4, b5, b6, b7].take i) + x) := low_take_succ _ i x hx
      have hm : low ([b0, b1, b2, b3, b4, b5, b6, b7].take i) < 72057594037927936 := by
        have h1 := low_lt ([b0, b1, b2, b3, b4, b5, b6, b7].take i) (fun y hy => hbt y (List.mem_of_mem_take hy))
        have h2 : ([b0, b1, b2, b3, b4, b5, b6, b7].take i).length ≤ 7 := by simp; omega
        exact Nat.lt_of_lt_of_le h1 (Nat.le_trans (Nat.pow_le_pow_right (by decide) h2) (by decide))
      have hidx := fun w => idx_stG #[.int .u8 (b0 : Nat), .int .u8 (b1 : Nat), .int .u8 (b2 : Nat), .int .u8 (b3 : Nat), .int .u8 (b4 : Nat), .int .u8 (b5 : Nat), .int .u8 (b6 : Nat), .int .u8 (b7 : Nat)] w i (.int .u8 (x : Nat)) rfl (by
        have h1 := congrArg (Option.map fun y : Nat => Value.int .u8 (y : Nat)) hx
        rw [← List.getElem?_map] at h1
        rw [← Array.getElem?_toList]
        exact h1)
      generalize hm' : low ([b0, b1, b2, b3, b4, b5, b6, b7].take i) = m at *
      have HX := Lib.hid hx; have HW := Lib.hid (show bits .or .u64 (IntKind.u64.wrap ((m : Int) * 256)) (x : Int) = ((256 * m + x : Nat) : Int) from by rw [u64_wrap _ (by omega) (by omega)]; exact or_byte m x hm hxb)
      clear hm' hx hbt hm
      go_wp2_with fail
      go_roundw
      case rel => exact ⟨i + 1, by go_num, by omega, by rw [HS.out, HW.out], K.out⟩
      case measure => simp [intOf]; omega
    · have h8 : i = 8 := by omega
      subst h8
      rw [show [b0, b1, b2, b3, b4, b5, b6, b7].take 8 = [b0, b1, b2, b3, b4, b5, b6, b7] from rfl, HL.out]
      clear hi hgo
      by_cases hbig : 1099511627776 < L
      · have HR := Lib.hid (show genG [b0, b1, b2, b3, b4, b5, b6, b7] = 0 from by rw [HG.out, if_pos hbig])
        have g1 : (1099511627776 : Int) < (L : Int) := by omega
        clear hbig
        go_wp2_with fail
        go_ret
        exact ⟨by rw [HR.out]; rfl, K.out⟩
      · have HR := Lib.hid (show genG [b0, b1, b2, b3, b4, b5, b6, b7] = L from by rw [HG.out, if_neg hbig])
        have g1 : ¬ (1099511627776 : Int) < (L : Int) := by omega
        go_wp2_with fail
        go_ret
        exact ⟨by rw [HR.out]; rfl, K.out⟩
end Go.Proofs.YtlkgdpdnhnakoaaGreatDoor
