/- BitmapPuts by readings. -/
import Derived.Test.YtmolmamfmboeoaaDoorBmRead
import Derived.Test.YtmolmamfmboeoaaDoorPuts
namespace Go.Proofs.YtmolmamfmboeoaaDoor
open Go.ChangeShapes Go.WideShapes Go.ChangeAt Go.RowKit

theorem puts_read {H : Type} {enc : TypeId × Value → H} (W : World) (hT : TabOK W) {base : Nat} {v0 v1 : Value} {d0 d1 : DataW H} {p0 p1 : List MemPlace}
    (h0 : DataW.Trod enc Tryd.prog W 0 (fun _ => true) true 24 v0 d0 p0) (k0 : Value.okWide Tryd.prog W .any base 24 v0)
    (h1 : DataW.Trod enc Tryd.prog W 0 (fun _ => true) true 52 v1 d1 p1) (k1 : Value.okWide Tryd.prog W .any base 52 v1) :
    Calls Tryd.prog 6 #[v0, v1] W fun e W' => e = .returned (.bool true) ∧ Same W W' := by
  obtain ⟨s, a, cap, ws, rfl, hw, hat, hl, hm, hn⟩ := map_read h0 k0
  obtain ⟨p, lb, cb, rfl⟩ := okWide_slice Tryd.underlying52 k1
  obtain ⟨xs, e, hb, hbt, hlc, hcm, hnil⟩ := bytes_read h1 p lb cb rfl
  exact puts_true s a cap ws p lb cb xs W hw hat e hb hlc hcm hbt hnil hT

end Go.Proofs.YtmolmamfmboeoaaDoor
