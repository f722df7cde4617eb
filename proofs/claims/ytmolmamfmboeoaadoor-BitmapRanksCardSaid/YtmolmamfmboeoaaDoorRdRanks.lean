/- BitmapRanks by readings. -/
import Derived.Test.YtmolmamfmboeoaaDoorBmRead
import Derived.Test.YtmolmamfmboeoaaDoorRanks
namespace Go.Proofs.YtmolmamfmboeoaaDoor
open Go.ChangeShapes Go.WideShapes Go.ChangeAt Go.RowKit

theorem ranks_read {H : Type} {enc : TypeId × Value → H} (W : World) (hT : TabOK W) {base : Nat} {v0 v1 v2 : Value} {d0 d1 d2 : DataW H} {p0 p1 p2 : List MemPlace}
    (h0 : DataW.Trod enc Tryd.prog W 0 (fun _ => true) true 5 v0 d0 p0) (k0 : Value.okWide Tryd.prog W .any base 5 v0)
    (h1 : DataW.Trod enc Tryd.prog W 0 (fun _ => true) true 52 v1 d1 p1) (k1 : Value.okWide Tryd.prog W .any base 52 v1)
    (h2 : DataW.Trod enc Tryd.prog W 0 (fun _ => true) true 5 v2 d2 p2) (k2 : Value.okWide Tryd.prog W .any base 5 v2) :
    Calls Tryd.prog 7 #[v0, v1, v2] W fun e W' => e = .returned (.bool true) ∧ Same W W' := by
  obtain ⟨n, rfl, hn⟩ := u8_read h0 k0
  obtain ⟨p, lb, cb, rfl⟩ := okWide_slice Tryd.underlying52 k1
  obtain ⟨xs, e, hb, hbt, hlc, hcm, hnil⟩ := bytes_read h1 p lb cb rfl
  obtain ⟨m, rfl, hm⟩ := u8_read h2 k2
  exact ranks_true n m hn hm p lb cb xs W e hb hbt hT

end Go.Proofs.YtmolmamfmboeoaaDoor
