/- RdCo2: law 27's steps, read; ConsoleBack and ConsoleNobody at what is read. -/
import Derived.Test.YtnjmdldhgconmaaGreatDoorRdCon
import Derived.Test.YtnjmdldhgconmaaGreatDoorGCw
namespace Go.Proofs.YtnjmdldhgconmaaGreatDoor
open Go.ChangeShapes Go.WideShapes Go.ChangeAt Go.RowKit Go.Sort

theorem encStr_ofC (s : ByteArray) : encStr s.data.toList = .string s := by simp [encStr]
theorem natsU_of (xs : List Nat) (h : ∀ y ∈ xs, (y : Int) ≤ 255) : natsU (xs.map UInt8.ofNat) = xs := by
  unfold natsU
  rw [List.map_map]
  conv => rhs; rw [← List.map_id xs]
  apply List.map_congr_left
  intro x hx
  have := h x hx
  simp
  omega
section
variable {H : Type} {enc : TypeId × Value → H} {W : World} {base : Nat} {v : Value} {d : DataW H} {p : List MemPlace}
set_option maxRecDepth 100000 in
theorem step_rd (h : DataW.Trod enc Tryz.prog W 0 (fun _ => true) true 30 v d p) (hv : Value.okWide Tryz.prog W .any base 30 v) :
    ∃ (s : Stp) (fa : Option Addr) (ca : Nat), v = .agg #[.int .u8 (s.k : Nat), .int .i64 s.txn, encStr s.key, encStr s.val, .int .i64 s.n, .bool s.d, .slice fa s.f.length ca] ∧ NatsAt W .u8 fa (natsU s.f) ∧ -9223372036854775808 ≤ s.txn ∧ s.txn ≤ 9223372036854775807 ∧ -9223372036854775808 ≤ s.n ∧ s.n ≤ 9223372036854775807 := by
  obtain ⟨cs, rfl, hsz⟩ := okWide_struct Tryz.underlying30 hv
  have h2 : cs.size = 7 := by rw [hsz]; kernel_rfl
  obtain ⟨fuel, hf⟩ := h
  obtain ⟨xs, m, rfl, e, hlen, hxs, hi⟩ := DataW.trod_struct (cs := cs.toList) Tryz.underlying30 hf
  obtain ⟨l, rfl⟩ : ∃ l : List Value, cs = l.toArray := ⟨cs.toList, by simp⟩
  simp only [List.size_toArray] at h2
  match l, h2 with
  | [c0, c1, c2, c3, c4, c5, c6], _ =>
    have q0 := hi 0 _ rfl
    have q1 := hi 1 _ rfl
    have q2 := hi 2 _ rfl
    have q3 := hi 3 _ rfl
    have q4 := hi 4 _ rfl
    have q5 := hi 5 _ rfl
    have q6 := hi 6 _ rfl
    match xs, hxs with
    | [x0, x1, x2, x3, x4, x5, x6], _ =>
      obtain ⟨k, e0, _, w0⟩ := DataW.trod_int (cs := [c0]) Tryz.underlying5 q0
      obtain ⟨y, e1, _, w1⟩ := DataW.trod_int (cs := [c1]) Tryz.underlying3 q1
      obtain ⟨s, e2, _, _⟩ := DataW.trod_string (cs := [c2]) Tryz.underlying9 q2
      obtain ⟨t, e3, _, _⟩ := DataW.trod_string (cs := [c3]) Tryz.underlying9 q3
      obtain ⟨z, e4, _, w4⟩ := DataW.trod_int (cs := [c4]) Tryz.underlying3 q4
      obtain ⟨b, e5, _⟩ := DataW.trod_bool (cs := [c5]) Tryz.underlying4 q5
      obtain ⟨fa, fc, fs, e6, hat, hB, _, _, _⟩ := nats_read 255 Tryz.underlying25 Tryz.underlying5 (by kernel_rfl) (fun n h => bounds_u8 h) (v := c6) q6
      simp at e0 e1 e2 e3 e4 e5
      subst e0 e1 e2 e3 e4 e5 e6
      have b0 := bounds_u8 w0
      have b1 := bounds_i64 w1
      have b4 := bounds_i64 w4
      refine ⟨⟨k.toNat, y, s.data.toList, t.data.toList, z, b, fs.map UInt8.ofNat⟩, fa, fc, ?_, by rw [natsU_of fs hB]; exact hat, b1.1, b1.2, b4.1, b4.2⟩
      simp only [encStr_ofC, List.length_map]
      rw [show ((k.toNat : Nat) : Int) = k from by omega]
end
set_option maxRecDepth 100000 in
theorem back27_read {H : Type} {enc : TypeId × Value → H} (W : World) (hT : TabOK W) (hM : MaxOK W) {base : Nat} {v0 v1 v2 : Value} {d0 d1 d2 : DataW H} {p0 p1 p2 : List MemPlace}
    (h0 : DataW.Trod enc Tryz.prog W 0 (fun _ => true) true 30 v0 d0 p0) (k0 : Value.okWide Tryz.prog W .any base 30 v0)
    (h1 : DataW.Trod enc Tryz.prog W 0 (fun _ => true) true 9 v1 d1 p1) (k1 : Value.okWide Tryz.prog W .any base 9 v1)
    (h2 : DataW.Trod enc Tryz.prog W 0 (fun _ => true) true 9 v2 d2 p2) (k2 : Value.okWide Tryz.prog W .any base 9 v2) :
    Calls Tryz.prog 5 #[v0, v1, v2] W fun e W' => e = .returned (.bool true) ∧ Same W W' := by
  obtain ⟨s, fa, ca, rfl, hn, b1, b2, b3, b4⟩ := step_rd h0 k0
  obtain ⟨l, rfl⟩ := strc_read h1 k1
  obtain ⟨t, rfl⟩ := strc_read h2 k2
  exact back27_any W hT hM s b1 b2 b3 b4 fa ca hn l t
set_option maxRecDepth 100000 in
theorem nobody27_read {H : Type} {enc : TypeId × Value → H} (W : World) (hT : TabOK W) (hM : MaxOK W) {base : Nat} {v0 : Value} {d0 : DataW H} {p0 : List MemPlace}
    (h0 : DataW.Trod enc Tryz.prog W 0 (fun _ => true) true 9 v0 d0 p0) (k0 : Value.okWide Tryz.prog W .any base 9 v0) :
    Calls Tryz.prog 6 #[v0] W fun e W' => e = .returned (.bool true) ∧ Same W W' := by
  obtain ⟨l, rfl⟩ := strc_read h0 k0
  exact nobody27_any W hT hM l
end Go.Proofs.YtnjmdldhgconmaaGreatDoor
