/- SectorPlays by readings. -/
import Derived.Test.YtlmpkonfclnceaaRows
import Derived.Test.YtlmpkonfclnceaaPlays3
namespace Go.Proofs.Ytlmpkonfclnceaa
open Go.ChangeShapes Go.WideShapes Go.ChangeAt Go.RowKit

set_option maxRecDepth 100000 in
theorem plays3_read {H : Type} {enc : TypeId × Value → H} (W : World) {base : Nat} {v0 v1 : Value} {d0 d1 : DataW H} {p0 p1 : List MemPlace}
    (h0 : DataW.Trod enc Try.prog W 0 (fun _ => true) true 3 v0 d0 p0) (k0 : Value.okWide Try.prog W .any base 3 v0)
    (h1 : DataW.Trod enc Try.prog W 0 (fun _ => true) true 22 v1 d1 p1) (k1 : Value.okWide Try.prog W .any base 22 v1) :
    Calls Try.prog 4 #[v0, v1] W fun e W' => e = .returned (.bool true) ∧ Same W W' := by
  obtain ⟨n, rfl, hn⟩ := int_rd h0 k0
  obtain ⟨a, len, cap, rfl, ha⟩ := acts_rd h1 k1
  exact plays3_any W n hn a len cap ha
end Go.Proofs.Ytlmpkonfclnceaa
