/- SectorApart by readings. -/
import Derived.Test.YtlmpkonfclnceaaRows
import Derived.Test.YtlmpkonfclnceaaApart
namespace Go.Proofs.Ytlmpkonfclnceaa
open Go.ChangeShapes Go.WideShapes Go.ChangeAt Go.RowKit

set_option maxRecDepth 100000 in
theorem apart_read {H : Type} {enc : TypeId × Value → H} (W : World) {base : Nat} {v0 v1 v2 : Value} {d0 d1 d2 : DataW H} {p0 p1 p2 : List MemPlace}
    (h0 : DataW.Trod enc Try.prog W 0 (fun _ => true) true 22 v0 d0 p0) (k0 : Value.okWide Try.prog W .any base 22 v0)
    (h1 : DataW.Trod enc Try.prog W 0 (fun _ => true) true 5 v1 d1 p1) (k1 : Value.okWide Try.prog W .any base 5 v1)
    (h2 : DataW.Trod enc Try.prog W 0 (fun _ => true) true 24 v2 d2 p2) (k2 : Value.okWide Try.prog W .any base 24 v2) :
    Calls Try.prog 5 #[v0, v1, v2] W fun e W' => e = .returned (.bool true) ∧ Same W W' := by
  obtain ⟨a, len, cap, rfl, ha⟩ := acts_rd h0 k0
  obtain ⟨A, rfl, hA⟩ := u8_rd h1 k1
  obtain ⟨fa, fl, fc, rfl⟩ := okWide_slice Try.underlying24 k2
  obtain ⟨fs, hfl, hfb, hfa, hfc, _⟩ := bts_read h2 fa fl fc rfl
  exact apart_any W a len cap ha A hA fa fl fc fs hfl hfc hfb hfa
end Go.Proofs.Ytlmpkonfclnceaa
