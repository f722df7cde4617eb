/- BlocksStay by readings. -/
import Derived.Test.YtlmpkonfclnceaaRows
import Derived.Test.YtlmpkonfclnceaaStay4
import Derived.Test.YtlmpkonfclnceaaRdAct4
namespace Go.Proofs.Ytlmpkonfclnceaa
open Go.ChangeShapes Go.WideShapes Go.ChangeAt Go.RowKit

set_option maxRecDepth 100000 in
theorem stay4_read {H : Type} {enc : TypeId × Value → H} (W : World) {base : Nat} {v0 v1 v2 : Value} {d0 d1 d2 : DataW H} {p0 p1 p2 : List MemPlace}
    (h0 : DataW.Trod enc Try.prog W 0 (fun _ => true) true 24 v0 d0 p0) (k0 : Value.okWide Try.prog W .any base 24 v0)
    (h1 : DataW.Trod enc Try.prog W 0 (fun _ => true) true 54 v1 d1 p1) (k1 : Value.okWide Try.prog W .any base 54 v1)
    (h2 : DataW.Trod enc Try.prog W 0 (fun _ => true) true 24 v2 d2 p2) (k2 : Value.okWide Try.prog W .any base 24 v2) :
    Calls Try.prog 7 #[v0, v1, v2] W fun e W' => e = .returned (.bool true) ∧ Same W W' := by
  obtain ⟨a0, l0, c0, rfl⟩ := okWide_slice Try.underlying24 k0
  obtain ⟨xs, e1, e2, e3, e4, -⟩ := bts_read h0 _ _ _ rfl
  obtain ⟨a, len, cap, rfl, ha⟩ := acts4_rd h1 k1
  obtain ⟨a2, l2, c2, rfl⟩ := okWide_slice Try.underlying24 k2
  obtain ⟨ys, f1, f2, f3, f4, -⟩ := bts_read h2 _ _ _ rfl
  exact stay4_any W a0 l0 c0 xs e1 e4 e2 e3 a len cap ha a2 l2 c2 ys f1 f4 f2 f3
end Go.Proofs.Ytlmpkonfclnceaa
