/- WalKeeps by readings; what the readings of chapter 10's acts say of cells. -/
import Derived.Test.YtlmpkonfclnceaaRows
import Derived.Test.YtlmpkonfclnceaaKeep
import Derived.Test.YtlmpkonfclnceaaRdTx
namespace Go.Proofs.Ytlmpkonfclnceaa
open Go.ChangeShapes Go.WideShapes Go.ChangeAt Go.RowKit

section
variable {H : Type} {enc : TypeId × Value → H} {W : World} {base : Nat} {v : Value} {d : DataW H} {p : List MemPlace}
set_option maxRecDepth 100000 in
theorem act3_rd10 {base : Nat} {spare : Nat → Bool} {held : Bool} {n : Nat} {cs : List Value} {x : DataW H × List MemPlace}
    (h : DataW.trod enc Try.prog W base spare held n 34 cs = some x) :
    ∃ (k : Nat) (y : Int) (c u : Nat) (dn : Bool) (fa : Option Addr) (fl fc : Nat) (fs : List Nat), cs = [.int .u8 (k : Nat), .int .i64 y, .int .u8 (c : Nat), .int .u8 (u : Nat), .bool dn, .slice fa fl fc] ∧ k < 256 ∧ (-9223372036854775808 ≤ y ∧ y ≤ 9223372036854775807) ∧ c < 256 ∧ u < 256 ∧ fl = fs.length ∧ fl ≤ fc ∧ Bts fs ∧ NatsAt W .u8 fa fs := by
  obtain ⟨xs, m, rfl, rfl, hlen, hxs, hf⟩ := DataW.trod_struct Try.underlying34 h
  rw [show Try.prog.cellsOf 34 = 6 by kernel_rfl] at hlen
  match cs, hlen with
  | [c0, c1, c2, c3, c4, c5], _ =>
    have h0 := hf 0 _ rfl
    have h1 := hf 1 _ rfl
    have h2 := hf 2 _ rfl
    have h3 := hf 3 _ rfl
    have h4 := hf 4 _ rfl
    have h5 := hf 5 _ rfl
    match xs, hxs with
    | [x0, x1, x2, x3, x4, x5], _ =>
      obtain ⟨k, e0, _, wf0⟩ := DataW.trod_int (cs := [c0]) Try.underlying5 h0
      obtain ⟨y, e1, _, wf1⟩ := DataW.trod_int (cs := [c1]) Try.underlying3 h1
      obtain ⟨c, e2, _, wf2⟩ := DataW.trod_int (cs := [c2]) Try.underlying5 h2
      obtain ⟨u, e3, _, wf3⟩ := DataW.trod_int (cs := [c3]) Try.underlying5 h3
      obtain ⟨dn, e4, _⟩ := DataW.trod_bool (cs := [c4]) Try.underlying4 h4
      obtain ⟨fa, fc, fs, e5, hat, hB, hl, hm, _⟩ := nats_read10 255 Try.underlying24 Try.underlying5 (by kernel_rfl) (fun n h => bounds_u8 h) (v := c5) h5
      simp at e0 e1 e2 e3 e4
      subst e0 e1 e2 e3 e4 e5
      have b0 := bounds_u8 wf0
      have b1 := bounds_i64 wf1
      have b2 := bounds_u8 wf2
      have b3 := bounds_u8 wf3
      refine ⟨k.toNat, y, c.toNat, u.toNat, dn, fa, _, fc, fs, ?_, by omega, b1, by omega, by omega, rfl, hl, fun z hz => by have := hB z hz; omega, hat⟩
      rw [show ((k.toNat : Nat) : Int) = k from by omega, show ((c.toNat : Nat) : Int) = c from by omega, show ((u.toNat : Nat) : Int) = u from by omega]
set_option maxRecDepth 100000 in
theorem act10_rd {base : Nat} {spare : Nat → Bool} {held : Bool} {n : Nat} {cs : List Value} {x : DataW H × List MemPlace}
    (h : DataW.trod enc Try.prog W base spare held n 92 cs = some x) :
    ∃ (k : Nat) (s : List Nat) (y : Int) (cs2 : List Value) (n2 : Nat) (x2 : DataW H × List MemPlace), cs = .int .u8 (k : Nat) :: .string (strN s) :: .int .i64 y :: cs2 ∧ k < 256 ∧ Bts s ∧ (-9223372036854775808 ≤ y ∧ y ≤ 9223372036854775807) ∧
      DataW.trod enc Try.prog W base spare held n2 34 cs2 = some x2 := by
  obtain ⟨xs, m, rfl, rfl, hlen, hxs, hf⟩ := DataW.trod_struct Try.underlying92 h
  rw [show Try.prog.cellsOf 92 = 9 by kernel_rfl] at hlen
  match cs, hlen with
  | [c0, c1, c2, c3, c4, c5, c6, c7, c8], _ =>
    have h0 := hf 0 _ rfl
    have h1 := hf 1 _ rfl
    have h2 := hf 2 _ rfl
    have h3 := hf 3 _ rfl
    match xs, hxs with
    | [x0, x1, x2, x3], _ =>
      obtain ⟨k, e0, _, wf0⟩ := DataW.trod_int (cs := [c0]) Try.underlying5 h0
      obtain ⟨s, e1, _, _⟩ := DataW.trod_string (cs := [c1]) Try.underlying9 h1
      obtain ⟨y, e2, _, wf2⟩ := DataW.trod_int (cs := [c2]) Try.underlying3 h2
      simp at e0 e1 e2
      subst e0 e1 e2
      have b0 := bounds_u8 wf0
      have b2 := bounds_i64 wf2
      refine ⟨k.toNat, natsOf s, y, [c3, c4, c5, c6, c7, c8], m, x3, ?_, by omega, natsOf_bts s, b2, h3⟩
      rw [show ((k.toNat : Nat) : Int) = k from by omega, strN_of]
set_option maxRecDepth 100000 in
theorem acts10_rd (h : DataW.Trod enc Try.prog W 0 (fun _ => true) true 89 v d p) (hv : Value.okWide Try.prog W .any base 89 v) :
    ∃ a len cap A, v = .slice a len cap ∧ (len = 0 ∨ ∃ b off, a = some ⟨b, off, none⟩ ∧ b < W.heap.size ∧ Acts10 W b off len A) := by
  obtain ⟨a, len, cap, rfl⟩ := okWide_slice Try.underlying89 hv
  obtain ⟨fuel, hf⟩ := h
  obtain ⟨_, _, _, h | ⟨b, off, rfl, hb, each⟩⟩ := slice_read Try.underlying89 (C := 9) (by kernel_rfl) (by decide) hf
  · exact ⟨a, len, cap, fun _ => ⟨0, [], 0, 0, 0, 0, 0, false, none, 0, 0, []⟩, rfl, .inl h⟩
  · have one : ∀ i, i < len → ∃ a, Act10 W b (off + i * 9) a := fun i hlt => by
      obtain ⟨n, cs, y, _, hat, ht⟩ := each i hlt
      obtain ⟨k, s, y, cs2, n2, x2, rfl, b0, b1, b2, ht2⟩ := act10_rd ht
      obtain ⟨k', y', c, u, dn, ga, gl, gc, gs, rfl, c0, c1, c2, c3, q1, q2, q3, q4⟩ := act3_rd10 ht2
      exact ⟨⟨k, s, y, k', y', c, u, dn, ga, gl, gc, gs⟩, hat 0 (by decide), hat 1 (by decide), hat 2 (by decide), hat 3 (by decide), hat 4 (by decide), hat 5 (by decide), hat 6 (by decide), hat 7 (by decide), hat 8 (by decide), b0, b1, b2, c0, c1, c2, c3, q1, q2, q3, q4⟩
    refine ⟨_, len, cap, fun i => if h : i < len then (one i h).choose else ⟨0, [], 0, 0, 0, 0, 0, false, none, 0, 0, []⟩, rfl, .inr ⟨b, off, rfl, hb, fun i hi => ?_⟩⟩
    have := (one i hi).choose_spec
    simp only [hi, dif_pos]
    exact this
end
set_option maxRecDepth 100000 in
theorem keep_read {H : Type} {enc : TypeId × Value → H} (W : World) {base : Nat} {v0 : Value} {d0 : DataW H} {p0 : List MemPlace}
    (h0 : DataW.Trod enc Try.prog W 0 (fun _ => true) true 89 v0 d0 p0) (k0 : Value.okWide Try.prog W .any base 89 v0) :
    Calls Try.prog 11 #[v0] W fun e W' => e = .returned (.bool true) ∧ Same W W' := by
  obtain ⟨a, len, cap, A, rfl, ha⟩ := acts10_rd h0 k0
  exact keep_any W a len cap A ha
end Go.Proofs.Ytlmpkonfclnceaa
