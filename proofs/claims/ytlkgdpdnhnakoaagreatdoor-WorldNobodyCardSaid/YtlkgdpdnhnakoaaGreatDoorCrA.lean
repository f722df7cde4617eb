/- CrA: the register of the checksum (the first part of GCrc, without the disk). -/
import Derived.Test.YtlkgdpdnhnakoaaGreatDoorSecP
import Derived.Test.YtlkgdpdnhnakoaaGreatDoorGSl
import Derived.Test.YtlkgdpdnhnakoaaGreatDoorAuto
import Derived.Test.YtlkgdpdnhnakoaaGreatDoorProg
namespace Go.Proofs.YtlkgdpdnhnakoaaGreatDoor
open Go.RowKit

theorem bits_xor32 (a b : Nat) (ha : a < 4294967296) (hb : b < 4294967296) : bits .xor .u32 (a : Int) (b : Int) = ((a ^^^ b : Nat) : Int) := by
  have hx : a ^^^ b < 2 ^ 32 := Nat.xor_lt_two_pow (by omega) (by omega)
  have h1 : (BitVec.ofInt 32 (a : Int)).toNat = a := by
    rw [BitVec.ofInt_natCast, BitVec.toNat_ofNat]; exact Nat.mod_eq_of_lt (by omega)
  have h2 : (BitVec.ofInt 32 (b : Int)).toNat = b := by
    rw [BitVec.ofInt_natCast, BitVec.toNat_ofNat]; exact Nat.mod_eq_of_lt (by omega)
  show IntKind.u32.wrap ((BitVec.ofInt 32 (a : Int) ^^^ BitVec.ofInt 32 (b : Int)).toNat : Int) = _
  rw [BitVec.toNat_xor, h1, h2]
  have hw : ∀ n : Int, IntKind.u32.wrap n = n % 4294967296 := fun n => by simp [IntKind.wrap, IntKind.bits, IntKind.signed]
  rw [hw]
  omega
theorem bits_and32 (a b : Nat) (ha : a < 4294967296) (hb : b < 4294967296) : bits .and .u32 (a : Int) (b : Int) = ((a &&& b : Nat) : Int) := by
  have hx : a &&& b < 2 ^ 32 := Nat.and_lt_two_pow _ (by omega)
  have h1 : (BitVec.ofInt 32 (a : Int)).toNat = a := by
    rw [BitVec.ofInt_natCast, BitVec.toNat_ofNat]; exact Nat.mod_eq_of_lt (by omega)
  have h2 : (BitVec.ofInt 32 (b : Int)).toNat = b := by
    rw [BitVec.ofInt_natCast, BitVec.toNat_ofNat]; exact Nat.mod_eq_of_lt (by omega)
  show IntKind.u32.wrap ((BitVec.ofInt 32 (a : Int) &&& BitVec.ofInt 32 (b : Int)).toNat : Int) = _
  rw [BitVec.toNat_and, h1, h2]
  have hw : ∀ n : Int, IntKind.u32.wrap n = n % 4294967296 := fun n => by simp [IntKind.wrap, IntKind.bits, IntKind.signed]
  rw [hw]
  omega

def poly : Nat := 79764919
def step1 (r : Nat) : Nat := if 2147483648 ≤ r then (2 * r) % 4294967296 ^^^ poly else (2 * r) % 4294967296
def itS : Nat → Nat → Nat
  | 0, r => r
  | k + 1, r => step1 (itS k r)
/-- The checksum's register behind bytes. -/
def regOf (l : List Nat) : Nat := l.foldl (fun r c => itS 8 (r ^^^ c * 16777216)) 4294967295
def crcOf (l : List Nat) : Nat := regOf l ^^^ 4294967295
theorem xor32_lt {a b : Nat} (ha : a < 4294967296) (hb : b < 4294967296) : a ^^^ b < 4294967296 := by
  have : a ^^^ b < 2 ^ 32 := Nat.xor_lt_two_pow (by omega) (by omega)
  omega
theorem step1_lt {r : Nat} (_h : r < 4294967296) : step1 r < 4294967296 := by
  unfold step1 poly
  split
  · exact xor32_lt (by omega) (by omega)
  · omega
theorem itS_lt {r : Nat} (h : r < 4294967296) (k : Nat) : itS k r < 4294967296 := by
  induction k with
  | zero => exact h
  | succ k ih => exact step1_lt ih
theorem regOf_snoc (l : List Nat) (c : Nat) : regOf (l ++ [c]) = itS 8 (regOf l ^^^ c * 16777216) := by simp [regOf]
theorem regOf_lt (l : List Nat) (h : Bts l) : regOf l < 4294967296 := by
  have : ∀ (l : List Nat) (r : Nat), r < 4294967296 → Bts l → l.foldl (fun r c => itS 8 (r ^^^ c * 16777216)) r < 4294967296 := by
    intro l
    induction l with
    | nil => intro r hr _; exact hr
    | cons c l ih =>
      intro r hr hb
      have hc := hb c (by simp)
      have hc2 : c * 16777216 < 4294967296 := by omega
      have h1 := xor32_lt hr hc2
      rw [List.foldl_cons]
      refine ih _ ?_ (fun x hx => hb x (by simp [hx]))
      exact itS_lt h1 8
  unfold regOf
  refine this l 4294967295 ?_ h
  decide
theorem crcOf_lt (l : List Nat) (h : Bts l) : crcOf l < 4294967296 := xor32_lt (regOf_lt l h) (by decide)
theorem step_prog (n : Nat) (hn : n < 4294967296) : bits .xor .u32 ((n : Int) * 2 % 4294967296) (bits .and .u32 79764919 (-((n : Int) / 2147483648) % 4294967296)) = ((step1 n : Nat) : Int) := by
  have e0 : (n : Int) * 2 % 4294967296 = (((2 * n) % 4294967296 : Nat) : Int) := by omega
  unfold step1 poly
  by_cases h : 2147483648 ≤ n
  · have e1 : -((n : Int) / 2147483648) % 4294967296 = ((4294967295 : Nat) : Int) := by omega
    rw [if_pos h, e0, e1, show (79764919 : Int) = ((79764919 : Nat) : Int) from rfl, bits_and32 _ _ (by decide) (by decide), bits_xor32 _ _ (by omega) (by decide)]
    rfl
  · have e1 : -((n : Int) / 2147483648) % 4294967296 = ((0 : Nat) : Int) := by omega
    rw [if_neg h, e0, e1, show (79764919 : Int) = ((79764919 : Nat) : Int) from rfl, bits_and32 _ _ (by decide) (by decide), Nat.and_zero, bits_xor32 _ _ (by omega) (by decide), Nat.xor_zero]

set_option maxHeartbeats 400000 in
theorem cr_byteStep (r : Nat) (hr : r < 4294967296) (w : World) :
    Calls Tryz.prog 482 #[.int .u32 (r : Nat)] w fun e w' => e = .returned (.int .u32 (itS 8 r : Nat)) ∧ w' = w := by
  go_enter Tryz.func482, Tryz.ntmps482
  go_wp2_with fail
  go_loop [0, 3] (fun x t => ∃ k : Nat, k ≤ 8 ∧ t = .int .i64 k ∧ x = .int .u32 (itS k r : Nat)) (fun _ t => 8 - (intOf t).toNat)
  case atStart => exact ⟨0, by omega, rfl, rfl⟩
  case round =>
    obtain ⟨k, hk, rfl, rfl⟩ := hrel
    have hn := itS_lt hr k
    have hs : itS (k + 1) r = step1 (itS k r) := rfl
    have HS := Lib.hid hs
    obtain ⟨n, hnn⟩ : ∃ n, itS k r = n := ⟨_, rfl⟩
    rw [hnn] at hn HS ⊢
    have HN := Lib.hid hnn
    clear hs hnn
    by_cases hgo : k < 8
    · have h1 : (k : Int) < 8 := by omega
      have h0 : (0 : Int) ≤ (k : Int) := by omega
      go_wp2_with fail
      go_round
      case rel => exact ⟨k + 1, by omega, by go_num, by rw [step_prog n hn, HS.out]⟩
      case measure => simp [intOf]; omega
    · have e : k = 8 := by omega
      subst e
      go_wp2_with fail
      go_ret
      exact ⟨by rw [HN.out]; rfl, rfl⟩
def fourOf (r : Nat) : List Nat := [r / 16777216, r / 65536 % 256, r / 256 % 256, r % 256]
theorem cr_four (r : Nat) (hr : r < 4294967296) (w : World) :
    Calls Tryz.prog 419 #[.int .u32 (r : Nat)] w fun e w' => ∃ g, e = .returned (.slice (some ⟨g, 0, none⟩) 4 4) ∧ NatsAt w' .u8 (some ⟨g, 0, none⟩) (fourOf r) ∧ w.heap.size ≤ g ∧ Same w w' := by
  have hr2 : (r : Int) < 4294967296 := by omega
  go_enter Tryz.func419, Tryz.ntmps419
  go_wp2_with fail
  go_ret
  refine ⟨w.heap.size, rfl, .inr ⟨w.heap.size, 0, rfl, by simp, fun i x hx => ?_⟩, Nat.le_refl _, (Kept.refl _ w).alloc _⟩
  rw [cell_blk (Blk.new w _ _)]
  rcases i with _ | _ | _ | _ | i
  · simp [fourOf] at hx; subst hx; simp
  · simp [fourOf] at hx; subst hx; simp
  · simp [fourOf] at hx; subst hx; simp
  · simp [fourOf] at hx; subst hx; simp
  · simp [fourOf] at hx

set_option maxHeartbeats 800000 in
theorem cr_update (a : Option Addr) (n c : Nat) (l : List Nat) (hn : n = l.length) (hb : Bts l) (w : World) (hat : NatsAt w .u8 a l) (hl : n ≤ 1000000) :
    Calls Tryz.prog 455 #[.int .u32 0, .slice a n c] w fun e w' => e = .returned (.int .u32 (crcOf l : Nat)) ∧ w' = w := by
  subst hn
  have hsg : IntKind.u32.signed = false := rfl
  have hmx : IntKind.u32.max = 4294967295 := rfl
  have hx0 : bits .xor .u32 4294967295 0 = 4294967295 := by decide
  go_enter Tryz.func455, Tryz.ntmps455
  go_wp2_with fail
  go_loop [5, 12] (fun x t => ∃ k : Nat, k ≤ l.length ∧ t = .int .i64 k ∧ x = .int .u32 (regOf (l.take k) : Nat)) (fun _ t => l.length - (intOf t).toNat)
  case atStart => exact ⟨0, by omega, rfl, rfl⟩
  case round =>
    obtain ⟨k, hk, rfl, rfl⟩ := hrel
    have hn := regOf_lt (l.take k) (hb.take k)
    by_cases hgo : k < l.length
    · obtain ⟨ab, ao, x, rfl, hab, hx, hc⟩ := hat.at (i := k) hgo
      have hxb : x < 256 := hb x (List.mem_of_getElem? hx)
      have hs : regOf (l.take (k + 1)) = itS 8 (regOf (l.take k) ^^^ x * 16777216) := by rw [List.take_add_one, hx, ← regOf_snoc]; rfl
      have HS := Lib.hid hs
      obtain ⟨n, hnn⟩ : ∃ n, regOf (l.take k) = n := ⟨_, rfl⟩
      rw [hnn] at hn HS ⊢
      have h1 : (k : Int) < (l.length : Int) := by omega
      have h0 : (0 : Int) ≤ (k : Int) := by omega
      have he : (x : Int) * 16777216 = ((x * 16777216 : Nat) : Int) := by omega
      have hxx : bits .xor .u32 (n : Int) ((x : Int) * 16777216) = ((n ^^^ x * 16777216 : Nat) : Int) := by rw [he]; exact bits_xor32 _ _ hn (by omega)
      have hlt := xor32_lt hn (show x * 16777216 < 4294967296 by omega)
      obtain ⟨y, hy⟩ : ∃ y, n ^^^ x * 16777216 = y := ⟨_, rfl⟩
      rw [hy] at hxx hlt HS
      clear hs hnn hx he hy
      go_wp2_with fail
      refine (cr_byteStep y hlt w).mono ?_
      rintro e w' ⟨rfl, rfl⟩
      go_wp2_with fail
      go_round
      case rel => exact ⟨k + 1, by omega, by go_num, by rw [HS.out]⟩
      case measure => simp [intOf]; omega
    · have e : k = l.length := by omega
      subst e
      rw [List.take_length] at hn ⊢
      have HF := Lib.hid (bits_xor32 4294967295 (regOf l) (by decide) hn)
      go_wp2_with fail
      go_ret
      refine ⟨ret_int ?_, rfl⟩
      show bits .xor .u32 4294967295 (regOf l : Nat) = _
      refine HF.out.trans ?_
      unfold crcOf
      rw [Nat.xor_comm]
theorem cr_of (a : Option Addr) (n c : Nat) (l : List Nat) (hn : n = l.length) (hb : Bts l) (w : World) (hat : NatsAt w .u8 a l) (hl : n ≤ 1000000) :
    Calls Tryz.prog 420 #[.slice a n c] w fun e w' => e = .returned (.int .u32 (crcOf l : Nat)) ∧ w' = w := by
  have U := Lib.hid (cr_update a n c l hn hb w hat hl)
  clear hn
  go_enter Tryz.func420, Tryz.ntmps420
  go_wp2_with fail
  refine U.out.mono ?_
  rintro e w' ⟨rfl, rfl⟩
  go_wp2_with fail
  go_ret
  exact ⟨rfl, rfl⟩
end Go.Proofs.YtlkgdpdnhnakoaaGreatDoor
