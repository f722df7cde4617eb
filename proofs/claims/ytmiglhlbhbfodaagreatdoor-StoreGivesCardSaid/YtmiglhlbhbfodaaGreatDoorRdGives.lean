/- StoreGives by readings. -/
import Derived.Test.YtmiglhlbhbfodaaGreatDoorBmRead
import Derived.Test.YtmiglhlbhbfodaaGreatDoorRdAct7
import Derived.Test.YtmiglhlbhbfodaaGreatDoorGiv7
namespace Go.Proofs.YtmiglhlbhbfodaaGreatDoor
open Go.ChangeShapes Go.WideShapes Go.ChangeAt Go.RowKit

set_option maxRecDepth 100000 in
theorem gives_read {H : Type} {enc : TypeId × Value → H} (W : World) (hT : TabOK W) {base : Nat} {v0 v1 : Value} {d0 d1 : DataW H} {p0 p1 : List MemPlace}
    (h0 : DataW.Trod enc Tryz.prog W 0 (fun _ => true) true 5 v0 d0 p0) (k0 : Value.okWide Tryz.prog W .any base 5 v0)
    (h1 : DataW.Trod enc Tryz.prog W 0 (fun _ => true) true 22 v1 d1 p1) (k1 : Value.okWide Tryz.prog W .any base 22 v1) :
    Calls Tryz.prog 4 #[v0, v1] W fun e W' => e = .returned (.bool true) ∧ Same W W' := by
  obtain ⟨n, rfl, hn⟩ := u8_read h0 k0
  obtain ⟨a, len, cap, rfl, hacts⟩ := acts7_rd h1 k1
  exact gives_any W hT n (by omega) a len cap hacts
end Go.Proofs.YtmiglhlbhbfodaaGreatDoor
