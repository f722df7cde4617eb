/- Walks over math/bits: TrailingZeros64, OnesCount64. -/
import Derived.Test.YtlkgdpdnhnakoaaGreatDoorBm1
import Derived.Test.YtlkgdpdnhnakoaaGreatDoorBmBits
import Derived.Shelf.Spec.TrailingZeros
namespace Go.Proofs.YtlkgdpdnhnakoaaGreatDoor
open Go.RowKit

/-- The table of math/bits lies where it lay. -/
def TabOK (w : World) : Prop := ∀ i, i < 64 → w.cell? ⟨1, i, none⟩ = some (.int .u8 ((Lib.deBruijn64tab.getD i 0 : Nat) : Int))
theorem TabOK.same {w w' : World} (h : TabOK w) (k : Same w w') : TabOK w' := fun i hi =>
  (k.cell (p := ⟨1, i, none⟩) (World.block_lt_of_cell? w _ (h i hi)) (fun h => h)).trans (h i hi)

set_option maxRecDepth 100000 in
set_option maxHeartbeats 1000000 in
theorem bits_tz_core (x k idx : Nat) (w : World) (hx0 : ((x : Int) == 0) = false)
    (key : IntKind.u64.wrap (bits BinOp.and IntKind.u64 (x : Int) (IntKind.u64.wrap (-(x : Int))) * 285870213051353865) / 288230376151711744 = (idx : Int))
    (hi : idx < 64) (hk : k < 64) (hcell : w.cell? ⟨1, idx, none⟩ = some (.int .u8 k)) :
    Calls Tryz.prog 443 #[.int .u64 x] w fun e w' => e = .returned (.int .i64 k) ∧ w = w' := by
  go_enter Tryz.func443, Tryz.ntmps443
  go_wp2_with (simp only [key])
  go_ret
  exact ⟨rfl, rfl⟩

set_option maxRecDepth 100000 in
theorem bits_tz_zero (w : World) :
    Calls Tryz.prog 443 #[.int .u64 0] w fun e w' => e = .returned (.int .i64 64) ∧ w = w' := by
  go_enter Tryz.func443, Tryz.ntmps443
  go_wp2
  go_ret
  exact ⟨rfl, rfl⟩

set_option maxRecDepth 100000 in
theorem bits_tz (x : Nat) (w : World) (hx : x < 18446744073709551616) (hT : TabOK w) :
    Calls Tryz.prog 443 #[.int .u64 (x : Nat)] w fun e w' => e = .returned (.int .i64 ((Lib.ctz 64 x : Nat) : Int)) ∧ w = w' := by
  by_cases hx0 : x = 0
  · subst hx0
    exact bits_tz_zero w
  · obtain ⟨hlow, hk⟩ := Lib.lowest_bit 64 x hx0 hx
    obtain ⟨hi, htab⟩ := Lib.deBruijn64_at _ hk
    have hcell := hT _ hi
    rw [htab] at hcell
    exact bits_tz_core x _ _ w (by simp; omega) (tz64_key x _ hx hx0 hlow) hi hk hcell

end Go.Proofs.YtlkgdpdnhnakoaaGreatDoor
