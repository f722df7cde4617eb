/- BitmapMixes by readings. -/
import Derived.Test.YtmolmamfmboeoaaDoorBmRead
import Derived.Test.YtmolmamfmboeoaaDoorMixes
namespace Go.Proofs.YtmolmamfmboeoaaDoor
open Go.ChangeShapes Go.WideShapes Go.ChangeAt Go.RowKit

theorem mixes_read {H : Type} {enc : TypeId × Value → H} (W : World) (hT : TabOK W) {base : Nat} {v0 v1 : Value} {d0 d1 : DataW H} {p0 p1 : List MemPlace}
    (h0 : DataW.Trod enc Tryd.prog W 0 (fun _ => true) true 24 v0 d0 p0) (k0 : Value.okWide Tryd.prog W .any base 24 v0)
    (h1 : DataW.Trod enc Tryd.prog W 0 (fun _ => true) true 24 v1 d1 p1) (k1 : Value.okWide Tryd.prog W .any base 24 v1) :
    Calls Tryd.prog 5 #[v0, v1] W fun e W' => e = .returned (.bool true) ∧ Same W W' := by
  obtain ⟨s, a, cap, ws, rfl, hw, hat, hl, hm, hn⟩ := map_read h0 k0
  obtain ⟨s', a', cap', ws', rfl, hw', hat', hl', hm', hn'⟩ := map_read h1 k1
  exact mixes_true s s' a a' cap cap' ws ws' W hw hw' hat hat' (by omega) hT

end Go.Proofs.YtmolmamfmboeoaaDoor
