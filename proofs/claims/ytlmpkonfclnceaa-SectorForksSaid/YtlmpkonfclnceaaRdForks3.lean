/- SectorForks by readings. -/
import Derived.Test.YtlmpkonfclnceaaRows
import Derived.Test.YtlmpkonfclnceaaForks3
namespace Go.Proofs.Ytlmpkonfclnceaa
open Go.ChangeShapes Go.WideShapes Go.ChangeAt Go.RowKit

set_option maxRecDepth 100000 in
theorem forks3_read {H : Type} {enc : TypeId × Value → H} (W : World) {base : Nat} {v0 v1 : Value} {d0 d1 : DataW H} {p0 p1 : List MemPlace}
    (h0 : DataW.Trod enc Try.prog W 0 (fun _ => true) true 22 v0 d0 p0) (k0 : Value.okWide Try.prog W .any base 22 v0)
    (h1 : DataW.Trod enc Try.prog W 0 (fun _ => true) true 22 v1 d1 p1) (k1 : Value.okWide Try.prog W .any base 22 v1) :
    Calls Try.prog 6 #[v0, v1] W fun e W' => e = .returned (.bool true) ∧ Same W W' := by
  obtain ⟨a, len, cap, rfl, ha⟩ := acts_rd h0 k0
  obtain ⟨b, len2, cap2, rfl, hb⟩ := acts_rd h1 k1
  exact forks3_any W a len cap ha b len2 cap2 hb
end Go.Proofs.Ytlmpkonfclnceaa
