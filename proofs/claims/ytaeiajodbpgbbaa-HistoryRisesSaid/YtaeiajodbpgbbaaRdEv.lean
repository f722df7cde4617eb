/- What the readings of events, and of two numbers, say of cells; HistoryTells by readings. -/
import Derived.Test.YtaeiajodbpgbbaaRows
import Derived.Test.YtaeiajodbpgbbaaHvP
import Derived.Test.YtaeiajodbpgbbaaRead
namespace Go.Proofs.Ytaeiajodbpgbbaa
open Go.ChangeShapes Go.WideShapes Go.ChangeAt Go.RowKit Go.Sort

theorem encStr_of (s : ByteArray) : encStr s.data.toList = .string s := by simp [encStr]
section
variable {H : Type} {enc : TypeId × Value → H} {W : World} {base : Nat} {v : Value} {d : DataW H} {p : List MemPlace}
set_option maxRecDepth 100000 in
theorem ev_rd {base : Nat} {spare : Nat → Bool} {held : Bool} {n : Nat} {cs : List Value} {x : DataW H × List MemPlace}
    (h : DataW.trod enc Try.prog W base spare held n 44 cs = some x) : ∃ e : HEv, cs = encH e := by
  obtain ⟨xs, m, rfl, rfl, hlen, hxs, hf⟩ := DataW.trod_struct Try.underlying44 h
  rw [show Try.prog.cellsOf 44 = 6 by kernel_rfl] at hlen
  match cs, hlen with
  | [c0, c1, c2, c3, c4, c5], _ =>
    have h0 := hf 0 _ rfl
    have h1 := hf 1 _ rfl
    have h2 := hf 2 _ rfl
    have h3 := hf 3 _ rfl
    have h4 := hf 4 _ rfl
    have h5 := hf 5 _ rfl
    match xs, hxs with
    | [x0, x1, x2, x3, x4, x5], _ =>
      obtain ⟨k, e0, _, wf0⟩ := DataW.trod_int (cs := [c0]) Try.underlying5 h0
      obtain ⟨y, e1, _, _⟩ := DataW.trod_int (cs := [c1]) Try.underlying3 h1
      obtain ⟨z, e2, _, _⟩ := DataW.trod_int (cs := [c2]) Try.underlying3 h2
      obtain ⟨s, e3, _, _⟩ := DataW.trod_string (cs := [c3]) Try.underlying9 h3
      obtain ⟨t, e4, _, _⟩ := DataW.trod_string (cs := [c4]) Try.underlying9 h4
      obtain ⟨b, e5, _⟩ := DataW.trod_bool (cs := [c5]) Try.underlying4 h5
      simp at e0 e1 e2 e3 e4 e5
      subst e0 e1 e2 e3 e4 e5
      have b0 := bounds_u8 wf0
      refine ⟨⟨k.toNat, y, z, s.data.toList, t.data.toList, b⟩, ?_⟩
      simp only [encH, encStr_of]
      rw [show ((k.toNat : Nat) : Int) = k from by omega]
set_option maxRecDepth 100000 in
theorem evs_rd (h : DataW.Trod enc Try.prog W 0 (fun _ => true) true 22 v d p) (hv : Value.okWide Try.prog W .any base 22 v) :
    ∃ a len cap, ∃ l : List HEv, v = .slice a len cap ∧ len = l.length ∧ ElsAt evE W a l ∧ (∀ x, a = some x → x.block < W.heap.size) ∧ len ≤ cap ∧ cap ≤ maxLen := by
  obtain ⟨a, len, cap, rfl⟩ := okWide_slice Try.underlying22 hv
  have hlt : ∀ x, a = some x → x.block < W.heap.size := by
    intro x hx
    subst hx
    simp only [Value.okWide, Cell.okWide, Cell.ok, Try.underlying22] at hv
    obtain ⟨-, -, -, -, row, cells, hs, -⟩ := hv
    simp only [World.shape?] at hs
    rcases Nat.lt_or_ge x.block W.heap.size with q | q
    · exact q
    · rw [show W.heap[x.block]? = none from by simp [q]] at hs
      simp at hs
  obtain ⟨fuel, hf⟩ := h
  obtain ⟨h1, h2, _, h | ⟨b, off, rfl, hb, each⟩⟩ := slice_read Try.underlying22 (C := 6) (by kernel_rfl) (by decide) hf
  · subst h
    exact ⟨a, 0, cap, [], rfl, rfl, .inl rfl, hlt, h1, h2⟩
  · have one : ∀ i, i < len → ∃ e : HEv, ∀ j u, (encH e)[j]? = some u → W.cell? ⟨b, off + i * 6 + j, none⟩ = some u := by
      intro i hi
      obtain ⟨n, cs, y, _, hat, ht⟩ := each i hi
      obtain ⟨e, rfl⟩ := ev_rd ht
      refine ⟨e, fun j u hu => ?_⟩
      have hj : j < 6 := (List.getElem?_eq_some_iff.1 hu).1
      rw [hat j hj, hu]
    let f : Nat → HEv := fun i => if hi : i < len then (one i hi).choose else default
    have hfs : ∀ i, i < len → ∀ j u, (encH (f i))[j]? = some u → W.cell? ⟨b, off + i * 6 + j, none⟩ = some u := by
      intro i hi
      have := (one i hi).choose_spec
      simp only [f, hi, dif_pos]
      exact this
    refine ⟨some ⟨b, off, none⟩, len, cap, (List.range len).map f, rfl, by simp, .inr ⟨b, off, rfl, hb, fun j u hu => ?_⟩, hlt, h1, h2⟩
    have hj : j < len * 6 := by
      have := (List.getElem?_eq_some_iff.1 hu).1
      rw [Enc.all_len, List.length_map, List.length_range] at this
      exact this
    have hq : j / 6 < len := by omega
    have hx : ((List.range len).map f)[j / 6]? = some (f (j / 6)) := by rw [List.getElem?_map, List.getElem?_range hq]; rfl
    have h6 := Enc.all_get evE ((List.range len).map f) (j / 6) _ hx (j % 6) (Nat.mod_lt _ (by decide))
    rw [show j / 6 * evE.n + j % 6 = j from by show j / 6 * 6 + j % 6 = j; omega, hu] at h6
    have := hfs (j / 6) hq (j % 6) u h6.symm
    rw [show off + j = off + j / 6 * 6 + j % 6 from by omega]
    exact this
set_option maxRecDepth 100000 in
theorem int2_rd (h : DataW.Trod enc Try.prog W 0 (fun _ => true) true 23 v d p) (hv : Value.okWide Try.prog W .any base 23 v) :
    ∃ x y : Int, v = .agg #[.int .i64 x, .int .i64 y] := by
  obtain ⟨cs, rfl, hsz⟩ : ∃ cs, v = .agg cs ∧ cs.size = Try.prog.cellsOf 23 := by
    simp only [Value.okWide, Try.underlying23] at hv
    obtain ⟨cs, h1, h2, _⟩ := hv
    exact ⟨cs, h1, h2⟩
  have h2 : cs.size = 2 := by rw [hsz]; kernel_rfl
  obtain ⟨fuel, hf⟩ := h
  obtain ⟨xs, m, rfl, e, hl, hxs, hi⟩ := DataW.trod_array (cs := cs.toList) Try.underlying23 hf
  have h1 : Try.prog.cellsOf 3 = 1 := by kernel_rfl
  have each : ∀ i, i < 2 → ∃ z : Int, cs.toList[i]? = some (.int .i64 z) := by
    intro i hi9
    have h2 := hi i hi9
    rw [h1, Nat.mul_one, List.getElem?_eq_getElem (by rw [hxs]; exact hi9)] at h2
    obtain ⟨z, e2, _, _⟩ := DataW.trod_int Try.underlying3 h2
    refine ⟨z, ?_⟩
    have : ((cs.toList.drop i).take 1)[0]? = some (.int .i64 z) := by rw [e2]; rfl
    rw [List.getElem?_take, if_pos (by decide), List.getElem?_drop, Nat.add_zero] at this
    exact this
  obtain ⟨x, ex⟩ := each 0 (by decide)
  obtain ⟨y, ey⟩ := each 1 (by decide)
  refine ⟨x, y, ?_⟩
  congr 1
  apply Array.ext'
  apply List.ext_getElem?
  intro i
  rcases i with _ | _ | i
  · rw [ex]; rfl
  · rw [ey]; rfl
  · rw [List.getElem?_eq_none (by simp [h2]), List.getElem?_eq_none (by simp)]
end
end Go.Proofs.Ytaeiajodbpgbbaa
