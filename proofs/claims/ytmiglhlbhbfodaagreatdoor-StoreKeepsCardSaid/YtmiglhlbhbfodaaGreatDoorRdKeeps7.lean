/- StoreKeeps by readings. -/
import Derived.Test.YtmiglhlbhbfodaaGreatDoorBmRead
import Derived.Test.YtmiglhlbhbfodaaGreatDoorRdAct7
import Derived.Test.YtmiglhlbhbfodaaGreatDoorKep7
namespace Go.Proofs.YtmiglhlbhbfodaaGreatDoor
open Go.ChangeShapes Go.WideShapes Go.ChangeAt Go.RowKit

set_option maxRecDepth 100000 in
theorem keeps_read {H : Type} {enc : TypeId × Value → H} (W : World) (hT : TabOK W) {base : Nat} {v0 : Value} {d0 : DataW H} {p0 : List MemPlace}
    (h0 : DataW.Trod enc Tryz.prog W 0 (fun _ => true) true 22 v0 d0 p0) (k0 : Value.okWide Tryz.prog W .any base 22 v0) :
    Calls Tryz.prog 3 #[v0] W fun e W' => e = .returned (.bool true) ∧ Same W W' := by
  obtain ⟨a, len, cap, rfl, hacts⟩ := acts7_rd h0 k0
  exact keeps_any W hT a len cap hacts
end Go.Proofs.YtmiglhlbhbfodaaGreatDoor
