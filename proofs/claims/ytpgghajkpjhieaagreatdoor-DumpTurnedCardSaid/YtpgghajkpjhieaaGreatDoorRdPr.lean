/- What the readings of pairs say of cells. -/
import Derived.Test.YtpgghajkpjhieaaGreatDoorRows
import Derived.Test.YtpgghajkpjhieaaGreatDoorHvP
import Derived.Test.YtpgghajkpjhieaaGreatDoorBmRead
namespace Go.Proofs.YtpgghajkpjhieaaGreatDoor
open Go.ChangeShapes Go.WideShapes Go.ChangeAt Go.RowKit Go.Sort

theorem encStr_ofP (s : ByteArray) : encStr s.data.toList = .string s := by simp [encStr]
section
variable {H : Type} {enc : TypeId × Value → H} {W : World} {base : Nat} {v : Value} {d : DataW H} {p : List MemPlace}
set_option maxRecDepth 100000 in
theorem pr_rd {base : Nat} {spare : Nat → Bool} {held : Bool} {n : Nat} {cs : List Value} {x : DataW H × List MemPlace}
    (h : DataW.trod enc Tryz.prog W base spare held n 42 cs = some x) : ∃ e : HPr, cs = encP e := by
  obtain ⟨xs, m, rfl, rfl, hlen, hxs, hf⟩ := DataW.trod_struct Tryz.underlying42 h
  rw [show Tryz.prog.cellsOf 42 = 2 by kernel_rfl] at hlen
  match cs, hlen with
  | [c0, c1], _ =>
    have h0 := hf 0 _ rfl
    have h1 := hf 1 _ rfl
    match xs, hxs with
    | [x0, x1], _ =>
      obtain ⟨s, e3, _, _⟩ := DataW.trod_string (cs := [c0]) Tryz.underlying9 h0
      obtain ⟨t, e4, _, _⟩ := DataW.trod_string (cs := [c1]) Tryz.underlying9 h1
      simp at e3 e4
      subst e3 e4
      refine ⟨(s.data.toList, t.data.toList), ?_⟩
      simp only [encP, encStr_ofP]
set_option maxRecDepth 100000 in
theorem prs_rd (h : DataW.Trod enc Tryz.prog W 0 (fun _ => true) true 22 v d p) (hv : Value.okWide Tryz.prog W .any base 22 v) :
    ∃ a len cap, ∃ l : List HPr, v = .slice a len cap ∧ len = l.length ∧ ElsAt prE W a l ∧ (∀ x, a = some x → x.block < W.heap.size) ∧ len ≤ cap ∧ cap ≤ maxLen := by
  obtain ⟨a, len, cap, rfl⟩ := okWide_slice Tryz.underlying22 hv
  have hlt : ∀ x, a = some x → x.block < W.heap.size := by
    intro x hx
    subst hx
    simp only [Value.okWide, Cell.okWide, Cell.ok, Tryz.underlying22] at hv
    obtain ⟨-, -, -, -, row, cells, hs, -⟩ := hv
    simp only [World.shape?] at hs
    rcases Nat.lt_or_ge x.block W.heap.size with q | q
    · exact q
    · rw [show W.heap[x.block]? = none from by simp [q]] at hs
      simp at hs
  obtain ⟨fuel, hf⟩ := h
  obtain ⟨h1, h2, _, h | ⟨b, off, rfl, hb, each⟩⟩ := slice_read Tryz.underlying22 (C := 2) (by kernel_rfl) (by decide) hf
  · subst h
    exact ⟨a, 0, cap, [], rfl, rfl, .inl rfl, hlt, h1, h2⟩
  · have one : ∀ i, i < len → ∃ e : HPr, ∀ j u, (encP e)[j]? = some u → W.cell? ⟨b, off + i * 2 + j, none⟩ = some u := by
      intro i hi
      obtain ⟨n, cs, y, _, hat, ht⟩ := each i hi
      obtain ⟨e, rfl⟩ := pr_rd ht
      refine ⟨e, fun j u hu => ?_⟩
      have hj : j < 2 := (List.getElem?_eq_some_iff.1 hu).1
      rw [hat j hj, hu]
    let f : Nat → HPr := fun i => if hi : i < len then (one i hi).choose else default
    have hfs : ∀ i, i < len → ∀ j u, (encP (f i))[j]? = some u → W.cell? ⟨b, off + i * 2 + j, none⟩ = some u := by
      intro i hi
      have := (one i hi).choose_spec
      simp only [f, hi, dif_pos]
      exact this
    refine ⟨some ⟨b, off, none⟩, len, cap, (List.range len).map f, rfl, by simp, .inr ⟨b, off, rfl, hb, fun j u hu => ?_⟩, hlt, h1, h2⟩
    have hj : j < len * 2 := by
      have := (List.getElem?_eq_some_iff.1 hu).1
      rw [Enc.all_len, List.length_map, List.length_range] at this
      exact this
    have hq : j / 2 < len := by omega
    have hx : ((List.range len).map f)[j / 2]? = some (f (j / 2)) := by rw [List.getElem?_map, List.getElem?_range hq]; rfl
    have h6 := Enc.all_get prE ((List.range len).map f) (j / 2) _ hx (j % 2) (Nat.mod_lt _ (by decide))
    rw [show j / 2 * prE.n + j % 2 = j from by show j / 2 * 2 + j % 2 = j; omega, hu] at h6
    have := hfs (j / 2) hq (j % 2) u h6.symm
    rw [show off + j = off + j / 2 * 2 + j % 2 from by omega]
    exact this
end
end Go.Proofs.YtpgghajkpjhieaaGreatDoor
