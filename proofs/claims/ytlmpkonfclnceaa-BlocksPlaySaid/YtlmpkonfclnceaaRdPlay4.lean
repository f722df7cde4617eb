/- BlocksPlay by readings. -/
import Derived.Test.YtlmpkonfclnceaaRows
import Derived.Test.YtlmpkonfclnceaaPlay4
import Derived.Test.YtlmpkonfclnceaaRdAct4
namespace Go.Proofs.Ytlmpkonfclnceaa
open Go.ChangeShapes Go.WideShapes Go.ChangeAt Go.RowKit

set_option maxRecDepth 100000 in
theorem area_rd {H : Type} {enc : TypeId × Value → H} {W : World} {base : Nat} {v : Value} {d : DataW H} {p : List MemPlace}
    (h : DataW.Trod enc Try.prog W 0 (fun _ => true) true 67 v d p) (hv : Value.okWide Try.prog W .any base 67 v) :
    ∃ f q : Int, v = .agg #[.int .i64 f, .int .i64 q] := by
  obtain ⟨cs, rfl, hsz⟩ : ∃ cs, v = .agg cs ∧ cs.size = Try.prog.cellsOf 67 := by
    simp only [Value.okWide, Try.underlying67] at hv
    obtain ⟨cs, h1, h2, _⟩ := hv
    exact ⟨cs, h1, h2⟩
  obtain ⟨fuel, hf⟩ := h
  obtain ⟨xs, m, e, e2, hlen, hxs, hi⟩ := DataW.trod_struct (cs := cs.toList) Try.underlying67 hf
  have h2 : cs.size = 2 := by rw [hsz]; kernel_rfl
  obtain ⟨l⟩ := cs
  match l, h2 with
  | [c0, c1], _ =>
    match xs, hxs with
    | [x0, x1], _ =>
      have h0 := hi 0 _ rfl
      have h1 := hi 1 _ rfl
      obtain ⟨f, e0, _, _⟩ := DataW.trod_int (cs := [c0]) Try.underlying3 h0
      obtain ⟨q, e1, _, _⟩ := DataW.trod_int (cs := [c1]) Try.underlying3 h1
      simp at e0 e1
      subst e0 e1
      exact ⟨f, q, rfl⟩
set_option maxRecDepth 100000 in
theorem play4_read {H : Type} {enc : TypeId × Value → H} (W : World) {base : Nat} {v0 v1 v2 : Value} {d0 d1 d2 : DataW H} {p0 p1 p2 : List MemPlace}
    (h0 : DataW.Trod enc Try.prog W 0 (fun _ => true) true 5 v0 d0 p0) (k0 : Value.okWide Try.prog W .any base 5 v0)
    (h1 : DataW.Trod enc Try.prog W 0 (fun _ => true) true 67 v1 d1 p1) (k1 : Value.okWide Try.prog W .any base 67 v1)
    (h2 : DataW.Trod enc Try.prog W 0 (fun _ => true) true 54 v2 d2 p2) (k2 : Value.okWide Try.prog W .any base 54 v2) :
    Calls Try.prog 9 #[v0, v1, v2] W fun e W' => e = .returned (.bool true) ∧ Same W W' := by
  obtain ⟨s, rfl, hs⟩ := u8_rd h0 k0
  obtain ⟨f, q, rfl⟩ := area_rd h1 k1
  obtain ⟨a, len, cap, rfl, ha⟩ := acts4_rd h2 k2
  exact play4_any W s hs f q a len cap ha
end Go.Proofs.Ytlmpkonfclnceaa
