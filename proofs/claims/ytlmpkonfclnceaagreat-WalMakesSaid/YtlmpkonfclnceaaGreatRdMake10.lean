/- What the readings of three numbers say; WalMakes by readings. -/
import Derived.Test.YtlmpkonfclnceaaGreatRdPlay10
import Derived.Test.YtlmpkonfclnceaaGreatMk1
namespace Go.Proofs.YtlmpkonfclnceaaGreat
open Go.ChangeShapes Go.WideShapes Go.ChangeAt Go.RowKit

set_option maxRecDepth 100000 in
theorem int3_rd {H : Type} {enc : TypeId × Value → H} {W : World} {base : Nat} {v : Value} {d : DataW H} {p : List MemPlace}
    (h : DataW.Trod enc Tryz.prog W 0 (fun _ => true) true 35 v d p) (hv : Value.okWide Tryz.prog W .any base 35 v) :
    ∃ x y z : Int, v = .agg #[.int .i64 x, .int .i64 y, .int .i64 z] := by
  obtain ⟨cs, rfl, hsz⟩ : ∃ cs, v = .agg cs ∧ cs.size = Tryz.prog.cellsOf 35 := by
    simp only [Value.okWide, Tryz.underlying35] at hv
    obtain ⟨cs, h1, h2, _⟩ := hv
    exact ⟨cs, h1, h2⟩
  have h2 : cs.size = 3 := by rw [hsz]; kernel_rfl
  obtain ⟨fuel, hf⟩ := h
  obtain ⟨xs, m, rfl, e, hl, hxs, hi⟩ := DataW.trod_array (cs := cs.toList) Tryz.underlying35 hf
  have h1 : Tryz.prog.cellsOf 3 = 1 := by kernel_rfl
  have each : ∀ i, i < 3 → ∃ z : Int, cs.toList[i]? = some (.int .i64 z) := by
    intro i hi9
    have h2 := hi i hi9
    rw [h1, Nat.mul_one, List.getElem?_eq_getElem (by rw [hxs]; exact hi9)] at h2
    obtain ⟨z, e2, _, _⟩ := DataW.trod_int Tryz.underlying3 h2
    refine ⟨z, ?_⟩
    have : ((cs.toList.drop i).take 1)[0]? = some (.int .i64 z) := by rw [e2]; rfl
    rw [List.getElem?_take, if_pos (by decide), List.getElem?_drop, Nat.add_zero] at this
    exact this
  obtain ⟨x, ex⟩ := each 0 (by decide)
  obtain ⟨y, ey⟩ := each 1 (by decide)
  obtain ⟨z, ez⟩ := each 2 (by decide)
  refine ⟨x, y, z, ?_⟩
  congr 1
  apply Array.ext'
  apply List.ext_getElem?
  intro i
  rcases i with _ | _ | _ | i
  · rw [ex]; rfl
  · rw [ey]; rfl
  · rw [ez]; rfl
  · rw [List.getElem?_eq_none (by simp [h2]), List.getElem?_eq_none (by simp)]
set_option maxRecDepth 100000 in
theorem make10_read {H : Type} {enc : TypeId × Value → H} (W : World) {base : Nat} {v0 v1 v2 : Value} {d0 d1 d2 : DataW H} {p0 p1 p2 : List MemPlace}
    (h0 : DataW.Trod enc Tryz.prog W 0 (fun _ => true) true 35 v0 d0 p0) (k0 : Value.okWide Tryz.prog W .any base 35 v0)
    (h1 : DataW.Trod enc Tryz.prog W 0 (fun _ => true) true 22 v1 d1 p1) (k1 : Value.okWide Tryz.prog W .any base 22 v1)
    (h2 : DataW.Trod enc Tryz.prog W 0 (fun _ => true) true 22 v2 d2 p2) (k2 : Value.okWide Tryz.prog W .any base 22 v2) :
    Calls Tryz.prog 4 #[v0, v1, v2] W fun e W' => e = .returned (.bool true) ∧ Same W W' := by
  obtain ⟨x, y, z, rfl⟩ := int3_rd h0 k0
  obtain ⟨a, len, cap, A, rfl, ha⟩ := acts10_rd h1 k1
  obtain ⟨a2, len2, cap2, A2, rfl, ha2⟩ := acts10_rd h2 k2
  exact make10_any W x y z a len cap A ha a2 len2 cap2 A2 ha2
end Go.Proofs.YtlmpkonfclnceaaGreat
