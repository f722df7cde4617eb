/- BitmapSets by readings. -/
import Derived.Test.YtmolmamfmboeoaaDoorBmRead
import Derived.Test.YtmolmamfmboeoaaDoorSets
namespace Go.Proofs.YtmolmamfmboeoaaDoor
open Go.ChangeShapes Go.WideShapes Go.ChangeAt Go.RowKit

theorem sets_read {H : Type} {enc : TypeId × Value → H} (W : World) (hT : TabOK W) {base : Nat} {v0 v1 v2 : Value} {d0 d1 d2 : DataW H} {p0 p1 p2 : List MemPlace}
    (h0 : DataW.Trod enc Tryd.prog W 0 (fun _ => true) true 24 v0 d0 p0) (k0 : Value.okWide Tryd.prog W .any base 24 v0)
    (h1 : DataW.Trod enc Tryd.prog W 0 (fun _ => true) true 3 v1 d1 p1) (k1 : Value.okWide Tryd.prog W .any base 3 v1)
    (h2 : DataW.Trod enc Tryd.prog W 0 (fun _ => true) true 4 v2 d2 p2) (k2 : Value.okWide Tryd.prog W .any base 4 v2) :
    Calls Tryd.prog 3 #[v0, v1, v2] W fun e W' => e = .returned (.bool true) ∧ Same W W' := by
  obtain ⟨s, a, cap, ws, rfl, hw, hat, hl, hm, hn⟩ := map_read h0 k0
  obtain ⟨n, rfl, lo, hi⟩ := int_read h1 k1
  obtain ⟨on, rfl, _, _⟩ := open_bool Tryd.underlying4 k2 h2
  exact sets_true s a cap ws n on W hw hat hn hT

end Go.Proofs.YtmolmamfmboeoaaDoor
