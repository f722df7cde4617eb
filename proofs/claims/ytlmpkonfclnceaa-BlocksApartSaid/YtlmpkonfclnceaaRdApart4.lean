/- BlocksApart by readings. -/
import Derived.Test.YtlmpkonfclnceaaRows
import Derived.Test.YtlmpkonfclnceaaApart4
namespace Go.Proofs.Ytlmpkonfclnceaa
open Go.ChangeShapes Go.WideShapes Go.ChangeAt Go.RowKit

set_option maxRecDepth 100000 in
theorem two16_rd {H : Type} {enc : TypeId × Value → H} {W : World} {base : Nat} {v : Value} {d : DataW H} {p : List MemPlace}
    (h : DataW.Trod enc Try.prog W 0 (fun _ => true) true 64 v d p) (hv : Value.okWide Try.prog W .any base 64 v) :
    ∃ x y : Int, v = .agg #[.int .u16 x, .int .u16 y] ∧ (0 ≤ x ∧ x < 65536) ∧ (0 ≤ y ∧ y < 65536) := by
  obtain ⟨cs, rfl, hsz⟩ : ∃ cs, v = .agg cs ∧ cs.size = Try.prog.cellsOf 64 := by
    simp only [Value.okWide, Try.underlying64] at hv
    obtain ⟨cs, h1, h2, _⟩ := hv
    exact ⟨cs, h1, h2⟩
  have h2 : cs.size = 2 := by rw [hsz]; kernel_rfl
  obtain ⟨fuel, hf⟩ := h
  obtain ⟨xs, m, rfl, e, hl, hxs, hi⟩ := DataW.trod_array (cs := cs.toList) Try.underlying64 hf
  have h1 : Try.prog.cellsOf 63 = 1 := by kernel_rfl
  have each : ∀ i, i < 2 → ∃ z : Int, cs.toList[i]? = some (.int .u16 z) ∧ 0 ≤ z ∧ z < 65536 := by
    intro i hi9
    have h2 := hi i hi9
    rw [h1, Nat.mul_one, List.getElem?_eq_getElem (by rw [hxs]; exact hi9)] at h2
    obtain ⟨z, e2, _, wf⟩ := DataW.trod_int Try.underlying63 h2
    have b : 0 ≤ z ∧ z < 65536 := by have := bounds_u16 wf; omega
    refine ⟨z, ?_, b⟩
    have : ((cs.toList.drop i).take 1)[0]? = some (.int .u16 z) := by rw [e2]; rfl
    rw [List.getElem?_take, if_pos (by decide), List.getElem?_drop, Nat.add_zero] at this
    exact this
  obtain ⟨x, ex, bx⟩ := each 0 (by decide)
  obtain ⟨y, ey, by_⟩ := each 1 (by decide)
  refine ⟨x, y, ?_, bx, by_⟩
  congr 1
  apply Array.ext'
  apply List.ext_getElem?
  intro i
  rcases i with _ | _ | i
  · rw [ex]; rfl
  · rw [ey]; rfl
  · rw [List.getElem?_eq_none (by simp [h2]), List.getElem?_eq_none (by simp)]
set_option maxRecDepth 100000 in
theorem apart4_read {H : Type} {enc : TypeId × Value → H} (W : World) {base : Nat} {v0 v1 v2 : Value} {d0 d1 d2 : DataW H} {p0 p1 p2 : List MemPlace}
    (h0 : DataW.Trod enc Try.prog W 0 (fun _ => true) true 64 v0 d0 p0) (k0 : Value.okWide Try.prog W .any base 64 v0)
    (h1 : DataW.Trod enc Try.prog W 0 (fun _ => true) true 3 v1 d1 p1) (k1 : Value.okWide Try.prog W .any base 3 v1)
    (h2 : DataW.Trod enc Try.prog W 0 (fun _ => true) true 3 v2 d2 p2) (k2 : Value.okWide Try.prog W .any base 3 v2) :
    Calls Try.prog 8 #[v0, v1, v2] W fun e W' => e = .returned (.bool true) ∧ Same W W' := by
  obtain ⟨x, y, rfl, hx, hy⟩ := two16_rd h0 k0
  obtain ⟨n, rfl, -⟩ := int_rd h1 k1
  obtain ⟨m, rfl, -⟩ := int_rd h2 k2
  exact apart4_any W x y hx hy n m
end Go.Proofs.Ytlmpkonfclnceaa
