/- What the readings of chapter 7's acts say of cells. -/
import Derived.Test.YtmiglhlbhbfodaaGreatDoorAct7
namespace Go.Proofs.YtmiglhlbhbfodaaGreatDoor
open Go.ChangeShapes Go.WideShapes Go.ChangeAt Go.RowKit

section
variable {H : Type} {enc : TypeId × Value → H} {W : World} {base : Nat} {v : Value} {d : DataW H} {p : List MemPlace}
set_option maxRecDepth 100000 in
theorem act7_rd {base : Nat} {spare : Nat → Bool} {held : Bool} {n : Nat} {cs : List Value} {x : DataW H × List MemPlace}
    (h : DataW.trod enc Tryz.prog W base spare held n 36 cs = some x) :
    ∃ (k : Nat) (y : Int) (fa : Option Addr) (fl fc : Nat) (fs : List Nat) (cs2 : List Value) (n2 : Nat) (x2 : DataW H × List MemPlace), cs = .int .u8 (k : Nat) :: .int .i64 y :: .slice fa fl fc :: cs2 ∧ k < 256 ∧ (-9223372036854775808 ≤ y ∧ y ≤ 9223372036854775807) ∧ fl = fs.length ∧ fl ≤ fc ∧ Bts fs ∧ NatsAt W .u8 fa fs ∧
      DataW.trod enc Tryz.prog W base spare held n2 34 cs2 = some x2 := by
  obtain ⟨xs, m, rfl, rfl, hlen, hxs, hf⟩ := DataW.trod_struct Tryz.underlying36 h
  rw [show Tryz.prog.cellsOf 36 = 9 by kernel_rfl] at hlen
  match cs, hlen with
  | [c0, c1, c2, c3, c4, c5, c6, c7, c8], _ =>
    have h0 := hf 0 _ rfl
    have h1 := hf 1 _ rfl
    have h2 := hf 2 _ rfl
    have h3 := hf 3 _ rfl
    match xs, hxs with
    | [x0, x1, x2, x3], _ =>
      obtain ⟨k, e0, _, wf0⟩ := DataW.trod_int (cs := [c0]) Tryz.underlying5 h0
      obtain ⟨y, e1, _, wf1⟩ := DataW.trod_int (cs := [c1]) Tryz.underlying3 h1
      obtain ⟨fa, fc, fs, e2, hat, hB, hl, hm, _⟩ := nats_read 255 Tryz.underlying32 Tryz.underlying5 (by kernel_rfl) (fun n h => bounds_u8 h) (v := c2) h2
      simp at e0 e1
      subst e0 e1 e2
      have b0 := bounds_u8 wf0
      have b1 := bounds_i64 wf1
      refine ⟨k.toNat, y, fa, _, fc, fs, [c3, c4, c5, c6, c7, c8], m, x3, ?_, by omega, b1, rfl, hl, fun z hz => by have := hB z hz; omega, hat, h3⟩
      rw [show ((k.toNat : Nat) : Int) = k from by omega]
set_option maxRecDepth 100000 in
theorem acts7_rd (h : DataW.Trod enc Tryz.prog W 0 (fun _ => true) true 22 v d p) (hv : Value.okWide Tryz.prog W .any base 22 v) :
    ∃ a len cap, v = .slice a len cap ∧ (len = 0 ∨ ∃ b off, a = some ⟨b, off, none⟩ ∧ b < W.heap.size ∧ Acts7 W b off len) := by
  obtain ⟨a, len, cap, rfl⟩ := okWide_slice Tryz.underlying22 hv
  refine ⟨a, len, cap, rfl, ?_⟩
  obtain ⟨fuel, hf⟩ := h
  obtain ⟨_, _, _, h | ⟨b, off, rfl, hb, each⟩⟩ := slice_read Tryz.underlying22 (C := 9) (by kernel_rfl) (by decide) hf
  · exact .inl h
  · refine .inr ⟨b, off, rfl, hb, fun i hlt => ?_⟩
    obtain ⟨n, cs, y, _, hat, ht⟩ := each i hlt
    obtain ⟨k, y, fa, fl, fc, fs, cs2, n2, x2, rfl, b0, b1, e1, e2, e3, e4, ht2⟩ := act7_rd ht
    obtain ⟨k', y', c, u, dn, ga, gl, gc, gs, rfl, c0, c1, c2, c3, q1, q2, q3, q4⟩ := act_rd ht2
    exact ⟨k, y, fa, fl, fc, fs, hat 0 (by decide), hat 1 (by decide), hat 2 (by decide), b0, b1, e1, e2, e3, e4, k', y', c, u, dn, ga, gl, gc, gs,
      ⟨hat 3 (by decide), hat 4 (by decide), hat 5 (by decide), hat 6 (by decide), hat 7 (by decide), hat 8 (by decide), c0, c1, c2, c3, q1, q2, q3, q4⟩⟩
end
end Go.Proofs.YtmiglhlbhbfodaaGreatDoor
