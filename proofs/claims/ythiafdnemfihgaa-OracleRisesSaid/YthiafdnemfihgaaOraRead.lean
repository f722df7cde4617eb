/- What the reading of a list of acts says of its cells; the contract of OraclePlays by readings. -/
import Derived.Test.YthiafdnemfihgaaOra7
import Derived.Test.YthiafdnemfihgaaRead
namespace Go.Proofs.Ythiafdnemfihgaa
open Go.ChangeShapes Go.WideShapes Go.ChangeAt Go.RowKit

/-- The kind and the number of an act, off its reading. -/
theorem act_read {H : Type} {enc : TypeId × Value → H} {W : World} {base : Nat} {spare : Nat → Bool} {held : Bool} {n : Nat} {cs : List Value} {x : DataW H × List MemPlace}
    (h : DataW.trod enc Try.prog W base spare held n 30 cs = some x) : ∃ k y : Int, 0 ≤ k ∧ k ≤ 255 ∧ cs = [.int .u8 k, .int .i64 y] := by
  obtain ⟨xs, m, rfl, rfl, hlen, hxs, hf⟩ := DataW.trod_struct Try.underlying30 h
  rw [show Try.prog.cellsOf 30 = 2 by kernel_rfl] at hlen
  match cs, hlen with
  | [c0, c1], _ =>
    have h0 := hf 0 _ rfl
    have h1 := hf 1 _ rfl
    match xs, hxs with
    | [x0, x1], _ =>
      obtain ⟨k, e0, _, wf⟩ := DataW.trod_int (cs := [c0]) Try.underlying5 h0
      obtain ⟨y, e1, _, _⟩ := DataW.trod_int (cs := [c1]) Try.underlying3 h1
      simp at e0 e1
      subst e0 e1
      have := bounds_u8 wf
      exact ⟨k, y, this.1, this.2, rfl⟩

/-- A list of acts: it has none, or its cells lie in a block. -/
theorem acts_read {H : Type} {enc : TypeId × Value → H} {W : World} {base : Nat} {v0 : Value} {d0 : DataW H} {p0 : List MemPlace}
    (h0 : DataW.Trod enc Try.prog W 0 (fun _ => true) true 22 v0 d0 p0) (hv : Value.okWide Try.prog W .any base 22 v0) :
    ∃ a len cap, v0 = .slice a len cap ∧ (len = 0 ∨ ∃ b off, a = some ⟨b, off, none⟩ ∧ b < W.heap.size ∧ ActsAt W b off len) := by
  obtain ⟨a, len, cap, rfl⟩ := okWide_slice Try.underlying22 hv
  refine ⟨a, len, cap, rfl, ?_⟩
  obtain ⟨fuel, hf⟩ := h0
  obtain ⟨_, _, _, h | ⟨b, off, rfl, hb, each⟩⟩ := slice_read Try.underlying22 (C := 2) (by kernel_rfl) (by decide) hf
  · exact .inl h
  · refine .inr ⟨b, off, rfl, hb, fun i hlt => ?_⟩
    obtain ⟨n, cs, y, _, hat, ht⟩ := each i hlt
    obtain ⟨k, y, h0, h1, rfl⟩ := act_read ht
    exact ⟨k, y, h0, h1, hat 0 (by decide), hat 1 (by decide)⟩

theorem plays_read {H : Type} {enc : TypeId × Value → H} (W : World) {base : Nat} {v0 : Value} {d0 : DataW H} {p0 : List MemPlace}
    (h0 : DataW.Trod enc Try.prog W 0 (fun _ => true) true 22 v0 d0 p0) (hv : Value.okWide Try.prog W .any base 22 v0) :
    Calls Try.prog 3 #[v0] W fun e W' => e = .returned (.bool true) ∧ Same W W' := by
  obtain ⟨a, len, cap, rfl, hz | ⟨b, off, rfl, hb, ha⟩⟩ := acts_read h0 hv
  · subst hz; exact plays_none a cap W
  · exact plays_any b off len cap W hb ha

end Go.Proofs.Ythiafdnemfihgaa
