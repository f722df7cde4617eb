/- Walks over package bitmap: Select. -/
import Derived.Test.YtmiglhlbhbfodaaGreatDoorGBmA
import Derived.Test.YtmiglhlbhbfodaaGreatDoorOnes
import Derived.Test.YtmiglhlbhbfodaaGreatDoorClear
namespace Go.Proofs.YtmiglhlbhbfodaaGreatDoor
open Go.RowKit

/-- A number that is told, or none. -/
abbrev foundV (r : Option Nat) : Value := .tuple #[.int .i64 ((r.getD 0 : Nat) : Int), .bool r.isSome]

theorem and_pred (y : Nat) (h0 : y ≠ 0) (hy : y < 18446744073709551616) : bits .and .u64 (y : Int) (IntKind.u64.wrap ((y : Int) - 1)) = ((y &&& (y - 1) : Nat) : Int) := by
  rw [u64_wrap _ (by omega) (by omega), show (y : Int) - 1 = ((y - 1 : Nat) : Int) from by omega]
  exact u64_and_nat y (y - 1) hy (by omega)

end Go.Proofs.YtmiglhlbhbfodaaGreatDoor
