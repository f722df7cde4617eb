/- The contract of OracleRises by readings. -/
import Derived.Test.YthiafdnemfihgaaOraRises1
namespace Go.Proofs.Ythiafdnemfihgaa
open Go.ChangeShapes Go.WideShapes Go.ChangeAt Go.RowKit

theorem rises_read {H : Type} {enc : TypeId × Value → H} (W : World) {base base' : Nat} {v0 v1 : Value} {d0 d1 : DataW H} {p0 p1 : List MemPlace}
    (h0 : DataW.Trod enc Try.prog W 0 (fun _ => true) true 38 v0 d0 p0) (hv0 : Value.okWide Try.prog W .any base 38 v0)
    (h1 : DataW.Trod enc Try.prog W 0 (fun _ => true) true 22 v1 d1 p1) (hv1 : Value.okWide Try.prog W .any base' 22 v1) :
    Calls Try.prog 4 #[v0, v1] W fun e W' => e = .returned (.bool true) ∧ Same W W' := by
  obtain ⟨f, rfl, rfl, rfl, wf⟩ := open_int Try.underlying38 hv0 h0
  have hf := bounds_u32 wf
  obtain ⟨a, len, cap, rfl, hz | ⟨b, off, rfl, hb, ha⟩⟩ := acts_read h1 hv1
  · subst hz; exact rises_none a cap f W hf.1 hf.2
  · exact rises_any b off len cap f W hf.1 hf.2 hb ha

end Go.Proofs.Ythiafdnemfihgaa
