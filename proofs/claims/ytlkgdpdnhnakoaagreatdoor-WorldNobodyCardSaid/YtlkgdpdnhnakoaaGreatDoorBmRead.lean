/- What the readings of a document's map, of bytes and of numbers say of cells. -/
import Derived.Test.YtlkgdpdnhnakoaaGreatDoorBm1
import Derived.Test.YtlkgdpdnhnakoaaGreatDoorBase
import Derived.ProofKit
import Derived.OpenShut
import Derived.Deep.Slices
import Derived.Test.YtlkgdpdnhnakoaaGreatDoorBits
import Derived.Test.YtlkgdpdnhnakoaaGreatDoorGSl
import Derived.Lib.SmallJoins
import Derived.Lib.LaidTab
namespace Go.Proofs.YtlkgdpdnhnakoaaGreatDoor
open Go.ChangeShapes Go.WideShapes Go.ChangeAt Go.RowKit

section
variable {H : Type} {enc : TypeId × Value → H} {P : Program} {w : World} {base : Nat} {spare : Nat → Bool} {held : Bool}

end

section
variable {H : Type} {enc : TypeId × Value → H} {W : World} {base : Nat} {v : Value} {d : DataW H} {p : List MemPlace}

set_option maxRecDepth 100000 in
theorem int_read (h : DataW.Trod enc Tryz.prog W 0 (fun _ => true) true 3 v d p) (hv : Value.okWide Tryz.prog W .any base 3 v) :
    ∃ n : Int, v = .int .i64 n ∧ -9223372036854775808 ≤ n ∧ n ≤ 9223372036854775807 := by
  obtain ⟨n, rfl, _, _, hw⟩ := open_int Tryz.underlying3 hv h
  exact ⟨n, rfl, (bounds_i64 hw).1, (bounds_i64 hw).2⟩
end

set_option maxRecDepth 100000 in
theorem gTab : Tryz.prog.globalNamed "math/bits.deBruijn64tab" = some 1 := by kernel_rfl
set_option maxRecDepth 100000 in
theorem gTabType : (Tryz.prog.globals[1]?).map (·.type) = some 569 := by kernel_rfl
set_option maxRecDepth 100000 in
theorem cellsTab : Tryz.prog.cellsOf 569 = 64 := by kernel_rfl
set_option maxRecDepth 100000 in
theorem cellsByte : Tryz.prog.cellsOf 5 = 1 := by kernel_rfl

def tabNums : List Int := [0, 1, 56, 2, 57, 49, 28, 3, 61, 58, 42, 50, 38, 29, 17, 4, 62, 47, 59, 36, 45, 43, 51, 22, 53, 39, 33, 30, 24, 18, 12, 5, 63, 55, 48, 27, 60, 41, 37, 16, 46, 35, 44, 21, 52, 32, 23, 11, 54, 26, 40, 15, 34, 20, 31, 10, 25, 14, 19, 9, 13, 8, 7, 6]

set_option maxRecDepth 100000 in
/-- What the rows' list gives. -/
theorem tab_of_laid {W : World} {rest : List (String × DataW Unit)} (h : laidMet Tryz.prog (("math/bits.deBruijn64tab", Lib.tabData .u8 tabNums) :: rest) W) : TabOK W := by
  have := Lib.tabIs_of_head gTab gTabType Tryz.underlying569 Tryz.underlying5 cellsByte cellsTab h
  intro i hi
  rw [this.cell gTab i (by simpa [tabNums] using hi)]
  have all : ∀ i, i < 64 → tabNums.getD i 0 = ((Lib.deBruijn64tab.getD i 0 : Nat) : Int) := by decide
  rw [all i hi]

end Go.Proofs.YtlkgdpdnhnakoaaGreatDoor
