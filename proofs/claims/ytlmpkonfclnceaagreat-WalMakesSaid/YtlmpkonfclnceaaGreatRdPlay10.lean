/- RdPlay10: RdAct10, RdPlay10. -/
import Derived.Test.YtlmpkonfclnceaaGreatAct10
import Derived.Test.YtlmpkonfclnceaaGreatRdTx
import Derived.Test.YtlmpkonfclnceaaGreatRows
import Derived.Test.YtlmpkonfclnceaaGreatWd6
namespace Go.Proofs.YtlmpkonfclnceaaGreat
open Go.ChangeShapes Go.WideShapes Go.ChangeAt Go.RowKit

section
variable {H : Type} {enc : TypeId × Value → H} {W : World} {base : Nat} {v : Value} {d : DataW H} {p : List MemPlace}
set_option maxRecDepth 100000 in
theorem act3_rd10 {base : Nat} {spare : Nat → Bool} {held : Bool} {n : Nat} {cs : List Value} {x : DataW H × List MemPlace}
    (h : DataW.trod enc Tryz.prog W base spare held n 31 cs = some x) :
    ∃ (k : Nat) (y : Int) (c u : Nat) (dn : Bool) (fa : Option Addr) (fl fc : Nat) (fs : List Nat), cs = [.int .u8 (k : Nat), .int .i64 y, .int .u8 (c : Nat), .int .u8 (u : Nat), .bool dn, .slice fa fl fc] ∧ k < 256 ∧ (-9223372036854775808 ≤ y ∧ y ≤ 9223372036854775807) ∧ c < 256 ∧ u < 256 ∧ fl = fs.length ∧ fl ≤ fc ∧ Bts fs ∧ NatsAt W .u8 fa fs := by
  obtain ⟨xs, m, rfl, rfl, hlen, hxs, hf⟩ := DataW.trod_struct Tryz.underlying31 h
  rw [show Tryz.prog.cellsOf 31 = 6 by kernel_rfl] at hlen
  match cs, hlen with
  | [c0, c1, c2, c3, c4, c5], _ =>
    have h0 := hf 0 _ rfl
    have h1 := hf 1 _ rfl
    have h2 := hf 2 _ rfl
    have h3 := hf 3 _ rfl
    have h4 := hf 4 _ rfl
    have h5 := hf 5 _ rfl
    match xs, hxs with
    | [x0, x1, x2, x3, x4, x5], _ =>
      obtain ⟨k, e0, _, wf0⟩ := DataW.trod_int (cs := [c0]) Tryz.underlying5 h0
      obtain ⟨y, e1, _, wf1⟩ := DataW.trod_int (cs := [c1]) Tryz.underlying3 h1
      obtain ⟨c, e2, _, wf2⟩ := DataW.trod_int (cs := [c2]) Tryz.underlying5 h2
      obtain ⟨u, e3, _, wf3⟩ := DataW.trod_int (cs := [c3]) Tryz.underlying5 h3
      obtain ⟨dn, e4, _⟩ := DataW.trod_bool (cs := [c4]) Tryz.underlying4 h4
      obtain ⟨fa, fc, fs, e5, hat, hB, hl, hm, _⟩ := nats_read10 255 Tryz.underlying29 Tryz.underlying5 (by kernel_rfl) (fun n h => bounds_u8 h) (v := c5) h5
      simp at e0 e1 e2 e3 e4
      subst e0 e1 e2 e3 e4 e5
      have b0 := bounds_u8 wf0
      have b1 := bounds_i64 wf1
      have b2 := bounds_u8 wf2
      have b3 := bounds_u8 wf3
      refine ⟨k.toNat, y, c.toNat, u.toNat, dn, fa, _, fc, fs, ?_, by omega, b1, by omega, by omega, rfl, hl, fun z hz => by have := hB z hz; omega, hat⟩
      rw [show ((k.toNat : Nat) : Int) = k from by omega, show ((c.toNat : Nat) : Int) = c from by omega, show ((u.toNat : Nat) : Int) = u from by omega]
set_option maxRecDepth 100000 in
theorem act10_rd {base : Nat} {spare : Nat → Bool} {held : Bool} {n : Nat} {cs : List Value} {x : DataW H × List MemPlace}
    (h : DataW.trod enc Tryz.prog W base spare held n 33 cs = some x) :
    ∃ (k : Nat) (s : List Nat) (y : Int) (cs2 : List Value) (n2 : Nat) (x2 : DataW H × List MemPlace), cs = .int .u8 (k : Nat) :: .string (strN s) :: .int .i64 y :: cs2 ∧ k < 256 ∧ Bts s ∧ (-9223372036854775808 ≤ y ∧ y ≤ 9223372036854775807) ∧
      DataW.trod enc Tryz.prog W base spare held n2 31 cs2 = some x2 := by
  obtain ⟨xs, m, rfl, rfl, hlen, hxs, hf⟩ := DataW.trod_struct Tryz.underlying33 h
  rw [show Tryz.prog.cellsOf 33 = 9 by kernel_rfl] at hlen
  match cs, hlen with
  | [c0, c1, c2, c3, c4, c5, c6, c7, c8], _ =>
    have h0 := hf 0 _ rfl
    have h1 := hf 1 _ rfl
    have h2 := hf 2 _ rfl
    have h3 := hf 3 _ rfl
    match xs, hxs with
    | [x0, x1, x2, x3], _ =>
      obtain ⟨k, e0, _, wf0⟩ := DataW.trod_int (cs := [c0]) Tryz.underlying5 h0
      obtain ⟨s, e1, _, _⟩ := DataW.trod_string (cs := [c1]) Tryz.underlying9 h1
      obtain ⟨y, e2, _, wf2⟩ := DataW.trod_int (cs := [c2]) Tryz.underlying3 h2
      simp at e0 e1 e2
      subst e0 e1 e2
      have b0 := bounds_u8 wf0
      have b2 := bounds_i64 wf2
      refine ⟨k.toNat, natsOf s, y, [c3, c4, c5, c6, c7, c8], m, x3, ?_, by omega, natsOf_bts s, b2, h3⟩
      rw [show ((k.toNat : Nat) : Int) = k from by omega, strN_of]
set_option maxRecDepth 100000 in
theorem acts10_rd (h : DataW.Trod enc Tryz.prog W 0 (fun _ => true) true 22 v d p) (hv : Value.okWide Tryz.prog W .any base 22 v) :
    ∃ a len cap A, v = .slice a len cap ∧ (len = 0 ∨ ∃ b off, a = some ⟨b, off, none⟩ ∧ b < W.heap.size ∧ Acts10 W b off len A) := by
  obtain ⟨a, len, cap, rfl⟩ := okWide_slice Tryz.underlying22 hv
  obtain ⟨fuel, hf⟩ := h
  obtain ⟨_, _, _, h | ⟨b, off, rfl, hb, each⟩⟩ := slice_read Tryz.underlying22 (C := 9) (by kernel_rfl) (by decide) hf
  · exact ⟨a, len, cap, fun _ => ⟨0, [], 0, 0, 0, 0, 0, false, none, 0, 0, []⟩, rfl, .inl h⟩
  · have one : ∀ i, i < len → ∃ a, Act10 W b (off + i * 9) a := fun i hlt => by
      obtain ⟨n, cs, y, _, hat, ht⟩ := each i hlt
      obtain ⟨k, s, y, cs2, n2, x2, rfl, b0, b1, b2, ht2⟩ := act10_rd ht
      obtain ⟨k', y', c, u, dn, ga, gl, gc, gs, rfl, c0, c1, c2, c3, q1, q2, q3, q4⟩ := act3_rd10 ht2
      exact ⟨⟨k, s, y, k', y', c, u, dn, ga, gl, gc, gs⟩, hat 0 (by decide), hat 1 (by decide), hat 2 (by decide), hat 3 (by decide), hat 4 (by decide), hat 5 (by decide), hat 6 (by decide), hat 7 (by decide), hat 8 (by decide), b0, b1, b2, c0, c1, c2, c3, q1, q2, q3, q4⟩
    refine ⟨_, len, cap, fun i => if h : i < len then (one i h).choose else ⟨0, [], 0, 0, 0, 0, 0, false, none, 0, 0, []⟩, rfl, .inr ⟨b, off, rfl, hb, fun i hi => ?_⟩⟩
    have := (one i hi).choose_spec
    simp only [hi, dif_pos]
    exact this
set_option maxRecDepth 100000 in
theorem u8_rd10 (h : DataW.Trod enc Tryz.prog W 0 (fun _ => true) true 5 v d p) (hv : Value.okWide Tryz.prog W .any base 5 v) :
    ∃ n : Nat, v = .int .u8 ((n : Nat) : Int) ∧ n < 256 := by
  obtain ⟨n, rfl, _, _, hw⟩ := open_int Tryz.underlying5 hv h
  have := bounds_u8 hw
  exact ⟨n.toNat, by rw [show ((n.toNat : Nat) : Int) = n from by omega], by omega⟩
end
end Go.Proofs.YtlmpkonfclnceaaGreat

namespace Go.Proofs.YtlmpkonfclnceaaGreat
open Go.ChangeShapes Go.WideShapes Go.ChangeAt Go.RowKit

set_option maxRecDepth 100000 in
theorem play10_read {H : Type} {enc : TypeId × Value → H} (W : World) {base : Nat} {v0 v1 : Value} {d0 d1 : DataW H} {p0 p1 : List MemPlace}
    (h0 : DataW.Trod enc Tryz.prog W 0 (fun _ => true) true 5 v0 d0 p0) (k0 : Value.okWide Tryz.prog W .any base 5 v0)
    (h1 : DataW.Trod enc Tryz.prog W 0 (fun _ => true) true 22 v1 d1 p1) (k1 : Value.okWide Tryz.prog W .any base 22 v1) :
    Calls Tryz.prog 3 #[v0, v1] W fun e W' => e = .returned (.bool true) ∧ Same W W' := by
  obtain ⟨s, rfl, hs⟩ := u8_rd10 h0 k0
  obtain ⟨a, len, cap, A, rfl, ha⟩ := acts10_rd h1 k1
  exact play10_any W s hs a len cap A ha
end Go.Proofs.YtlmpkonfclnceaaGreat
