/- A new disk; the fates' closure. -/
import Derived.Test.YtlmpkonfclnceaaSec4
namespace Go.Proofs.Ytlmpkonfclnceaa
open Go.RowKit

theorem made_zero (N : Nat) (n : Nat) (hn : n < N) {w : World} {t : TypeId} : (w.alloc (.cells (madeCells (secC zeros) (N * 256)) t)).rangeAt w.heap.size (n * 256) (encB zeros) := by
  intro j v hv
  rw [cell_blk (Blk.new w _ _)]
  have hj : j < 256 := by have := (List.getElem?_eq_some_iff.1 hv).1; rw [encB_len, zeros_len] at this; exact this
  have h1 : (n + 1) * 256 ≤ N * 256 := Nat.mul_le_mul_right _ hn
  have h2 : n * 256 + j < N * 256 := by omega
  have h3 : (n * 256 + j) % 256 = j := by omega
  unfold madeCells
  rw [Array.getElem?_map, Array.getElem?_range, if_pos h2, Option.map_some, secC_size zeros_len, h3, ← hv]
  unfold secC
  rw [getElem!_pos _ _ (by simp [encB_len, zeros_len, hj])]
  simp
theorem made_there (N : Nat) {w : World} {t : TypeId} : (w.alloc (.cells (madeCells (secC zeros) (N * 256)) t)).there w.heap.size 0 (N * 256) := by
  intro j hj
  refine ⟨?_, (Blk.new w _ _).free _⟩
  rw [Nat.zero_add, cell_blk (Blk.new w _ _)]
  have := Go.size_madeCells (secC zeros) (N * 256)
  rw [Array.getElem?_eq_getElem (by rw [this]; exact hj)]
  rfl
theorem sec_info : (Try.prog.info? 100).map (fun i => (i.zero, i.size, i.bytes)) = some (some (.agg (secC zeros)), 256, 256) := by kernel_rfl
theorem secsOf_le (n : Int) : secsOf n ≤ 4096 := by unfold secsOf; omega

theorem newD_waitF (n : Int) (j : Nat) : (none : Option Value) = waitF (newD n).s j := by
  unfold waitF waitsAt newD
  have : ((List.replicate (secsOf n) sec0).getD j sec0).waits = false := by
    rw [List.getD_eq_getElem?_getD, List.getElem?_replicate]
    split <;> rfl
  rw [this]
  rfl
/-- What New leaves. -/
theorem new_in (n : Int) (w : World) (N : Nat) (hN : secsOf n = N) :
    DiskIn (((w.alloc (.cells (madeCells (secC zeros) (N * 256)) 100)).alloc (.map #[] 0)).alloc (.cells #[.slice (some ⟨w.heap.size, 0, none⟩) N N, .map (some (w.heap.size + 1)), .bool false, .int .i64 0, .int .i64 (-1), .bool false] 98)) (w.heap.size + 1 + 1) w.heap.size N (w.heap.size + 1) (newD n) := by
  have hl : (newD n).s.length = N := by unfold newD; rw [List.length_replicate, hN]
  have k2 := ((Kept.refl (fun _ => False) (w.alloc (.cells (madeCells (secC zeros) (N * 256)) 100))).alloc (.map #[] 0)).alloc (.cells #[.slice (some ⟨w.heap.size, 0, none⟩) N N, .map (some (w.heap.size + 1)), .bool false, .int .i64 0, .int .i64 (-1), .bool false] 98)
  have k3 := (Kept.refl (fun _ => False) ((w.alloc (.cells (madeCells (secC zeros) (N * 256)) 100)).alloc (.map #[] 0))).alloc (.cells #[.slice (some ⟨w.heap.size, 0, none⟩) N N, .map (some (w.heap.size + 1)), .bool false, .int .i64 0, .int .i64 (-1), .bool false] 98)
  have e1 : (w.alloc (.cells (madeCells (secC zeros) (N * 256)) 100)).heap.size = w.heap.size + 1 := by simp
  have m1 := MapI.new (w.alloc (.cells (madeCells (secC zeros) (N * 256)) 100))
  rw [e1] at m1
  refine ⟨?_, ?_, (m1.kept k3 (fun h => h)).congr (newD_waitF n), by omega, by omega, newD_ok n, by rw [hl]; exact Nat.le_refl _⟩
  · have := Blk.new' ((w.alloc (.cells (madeCells (secC zeros) (N * 256)) 100)).alloc (.map #[] 0)) #[.slice (some ⟨w.heap.size, 0, none⟩) N N, .map (some (w.heap.size + 1)), .bool false, .int .i64 0, .int .i64 (-1), .bool false] 98 (b := w.heap.size + 1 + 1) (by simp)
    unfold cellsD
    rw [hl]
    exact this
  · have hs : SafeAt (w.alloc (.cells (madeCells (secC zeros) (N * 256)) 100)) w.heap.size (newD n).s := by
      refine ⟨fun j x hx => ?_, by rw [hl]; exact made_there N, by simp⟩
      have hj : j < N := by rw [← hl]; exact (List.getElem?_eq_some_iff.1 hx).1
      have : x = sec0 := by
        unfold newD at hx
        exact List.eq_of_mem_replicate (List.mem_of_getElem? hx)
      subst this
      exact made_zero N j hj
    exact hs.kept k2 (fun h => h)

/-- A new disk. -/
def MadeD (w : World) (D : Dsk) (e : Ending) (w' : World) : Prop := ∃ d bs cap m, e = .returned (.pointer (some ⟨d, 0, none⟩)) ∧ DiskIn w' d bs cap m D ∧ w.heap.size ≤ d ∧ w.heap.size ≤ bs ∧ w.heap.size ≤ m ∧ Same w w'
set_option maxRecDepth 100000 in
set_option maxHeartbeats 800000 in
theorem sd_new (n : Int) (w : World) :
    Calls Try.prog 13 #[.int .i64 n] w (MadeD w (newD n)) := by
  obtain ⟨N, hN⟩ : ∃ N, secsOf n = N := ⟨_, rfl⟩
  have hle := secsOf_le n
  have hmm : max (0 : Int) (min n 4096) = (N : Int) := by rw [← hN]; unfold secsOf; omega
  rw [hN] at hle
  obtain ⟨i0, hi, hz0, hz1, hz2⟩ := info_parts sec_info
  have hmm2 := @run_makeMap Try.prog
  by_cases h1 : n ≤ 0
  · have hn1 : ¬ 0 < n := by omega
    have hn2 : n ≤ 4096 := by omega
    have hmk := run_make (P := Try.prog) w 95 100 i0 (.agg (secC zeros)) Try.underlying95 hi hz0 .i64 .i64 (0 : Int) (0 : Int) (by omega) (by omega) (by rw [hz2]; omega) (by omega)
    rw [hz1, show ((0 : Int)).toNat = N from by omega, show (Value.agg (secC zeros)).cells = secC zeros from rfl] at hmk
    clear hi hz0 hz1 hz2 hmm hle
    generalize hC : madeCells (secC zeros) (N * 256) = C at hmk
    have HC := Lib.hid hC
    clear hC
    go_enter Try.func13, Try.ntmps13
    go_wp2_with fail
    go_ret
    rw [← HC.out]
    exact ⟨_, _, _, _, rfl, new_in n w N hN, (by omega), (by omega), (by omega), ((Kept.refl _ w).alloc _).alloc _ |>.alloc _⟩
  · by_cases h2 : n ≤ 4096
    · have hn1 : 0 < n := by omega
      have hmk := run_make (P := Try.prog) w 95 100 i0 (.agg (secC zeros)) Try.underlying95 hi hz0 .i64 .i64 (n : Int) (n : Int) (by omega) (by omega) (by rw [hz2]; omega) (by omega)
      rw [hz1, show ((n : Int)).toNat = N from by omega, show (Value.agg (secC zeros)).cells = secC zeros from rfl] at hmk
      clear hi hz0 hz1 hz2 hmm hle
      generalize hC : madeCells (secC zeros) (N * 256) = C at hmk
      have HC := Lib.hid hC
      clear hC
      go_enter Try.func13, Try.ntmps13
      go_wp2_with fail
      go_ret
      rw [← HC.out]
      exact ⟨_, _, _, _, rfl, new_in n w N hN, (by omega), (by omega), (by omega), ((Kept.refl _ w).alloc _).alloc _ |>.alloc _⟩
    · have hn1 : 4096 < n := by omega
      have hmk := run_make (P := Try.prog) w 95 100 i0 (.agg (secC zeros)) Try.underlying95 hi hz0 .i64 .i64 (4096 : Int) (4096 : Int) (by omega) (by omega) (by rw [hz2]; omega) (by omega)
      rw [hz1, show ((4096 : Int)).toNat = N from by omega, show (Value.agg (secC zeros)).cells = secC zeros from rfl] at hmk
      clear hi hz0 hz1 hz2 hmm hle
      generalize hC : madeCells (secC zeros) (N * 256) = C at hmk
      have HC := Lib.hid hC
      clear hC
      go_enter Try.func13, Try.ntmps13
      go_wp2_with fail
      go_ret
      rw [← HC.out]
      exact ⟨_, _, _, _, rfl, new_in n w N hN, (by omega), (by omega), (by omega), ((Kept.refl _ w).alloc _).alloc _ |>.alloc _⟩

/-- The fates that are left, in a variable. -/
def FatesAt (w : World) (b : Nat) (f : List Nat) : Prop := ∃ a l c, Blk w b #[.slice a l c] 24 ∧ l = f.length ∧ l ≤ c ∧ NatsAt w .u8 a f ∧ (f = [] ∨ ∀ x, a = some x → x.block < b)
theorem box1_none (a : Option Addr) (l c : Nat) : ∀ (i : Nat) (x : Int), (#[Value.slice a l c] : Array Value)[i]? ≠ some (.int .u8 x) := by
  intro i x
  rcases i with _ | i <;> simp
theorem nats_tail {w : World} {k : IntKind} {b o x : Nat} {r : List Nat} (h : NatsAt w k (some ⟨b, o, none⟩) (x :: r)) : NatsAt w k (some ⟨b, o + 1, none⟩) r := by
  rcases h with h | ⟨b', o', e, hlt, hc⟩
  · cases h
  · cases e
    refine .inr ⟨b, o + 1, rfl, hlt, fun i y hy => ?_⟩
    have := hc (i + 1) y (by simpa using hy)
    rw [show o + 1 + i = o + (i + 1) from by omega]
    exact this
theorem nats_lt {w : World} {k : IntKind} {a : Option Addr} {xs : List Nat} (h : NatsAt w k a xs) : xs = [] ∨ ∀ x, a = some x → x.block < w.heap.size := by
  rcases h with h | ⟨b, o, rfl, hlt, _⟩
  · exact .inl h
  · exact .inr (fun x hx => by cases hx; exact hlt)
theorem nats_ne_map {w : World} {k : IntKind} {a : Option Addr} {xs : List Nat} {m : Nat} {g : Nat → Option Value} (h : NatsAt w k a xs) (hm : MapI w m g) : xs = [] ∨ ∀ x, a = some x → ¬ x.block = m := by
  cases xs with
  | nil => exact .inl rfl
  | cons y r =>
    rcases h with h | ⟨b, o, rfl, _, hc⟩
    · exact .inl h
    · exact .inr (fun x hx => by cases hx; exact hm.ne_cell (hc 0 y rfl))
theorem FatesAt.same {w w' : World} {b : Nat} {f : List Nat} (h : FatesAt w b f) (k : Same w w') : FatesAt w' b f := by
  obtain ⟨a, l, c, h1, h2, h3, h4, h5⟩ := h
  exact ⟨a, l, c, h1.kept k (fun h => h), h2, h3, h4.same k, h5⟩
theorem FatesAt.new {w w' : World} {b X : Nat} {f : List Nat} (h : FatesAt w b f) (k : Kept (fun j => j = X) w w') (hX : b < X) : FatesAt w' b f := by
  obtain ⟨a, l, c, h1, h2, h3, h4, h5⟩ := h
  exact ⟨a, l, c, h1.kept k (by omega), h2, h3, h4.kept' k (h5.imp id (fun q x hx => by have := q x hx; omega)), h5⟩
theorem FatesAt.map {w w' : World} {b m : Nat} {f : List Nat} {g : Nat → Option Value} (h : FatesAt w b f) (hm : MapI w m g) (k : Kept (fun j => j = m) w w') : FatesAt w' b f := by
  obtain ⟨a, l, c, h1, h2, h3, h4, h5⟩ := h
  exact ⟨a, l, c, h1.kept k (hm.ne h1), h2, h3, h4.kept' k (nats_ne_map h4 hm), h5⟩
/-- The closure that hands out the fates. -/
theorem fates_next {w : World} {b : Nat} {f : List Nat} (h : FatesAt w b f) (hf : Bts f) :
    Calls Try.prog 59 #[.pointer (some ⟨b, 0, none⟩)] w fun e w' => e = .returned (.int .i64 ((take1 f).1 : Nat)) ∧ FatesAt w' b (take1 f).2 ∧ Kept (fun j => j = b) w w' := by
  have H := Lib.hid h
  obtain ⟨a, l, c, hb, hl, hc, hat, hfar⟩ := h
  have c0 : w.cell? ⟨b, 0, none⟩ = some (.slice a l c) := hb.cell 0 rfl
  have f0 := hb.free 0
  cases f with
  | nil =>
    simp at hl
    subst hl
    go_enter Try.func59, Try.ntmps59
    go_wp2_with fail
    go_ret
    exact ⟨rfl, H.out, Kept.refl _ _⟩
  | cons x r =>
    obtain ⟨pb, po, x', rfl, hpb, hxi, hcx⟩ := hat.at (i := 0) (by simp)
    simp at hxi
    subst hxi
    rw [Nat.add_zero] at hcx
    have hx := hf x (by simp)
    have hl0 : 0 < l := by rw [hl]; simp
    have hl1 : ¬ (l : Int) = 0 := by omega
    have hl2 : (0 : Int) < (l : Int) := by omega
    have hl3 : (1 : Int) ≤ (l : Int) := by omega
    have ex : IntKind.i64.wrap (x : Int) = (x : Int) := IntWalk.i64_in _ (by omega)
    have hpb2 : pb < b := by rcases hfar with q | q; cases q; exact q _ rfl
    have HB := Lib.hid hb; have HL := Lib.hid hl; have AT := Lib.hid hat
    clear hb hl hat hf H hfar
    go_enter Try.func59, Try.ntmps59
    go_wp2_with fail
    all_goals
      go_ret
      have hl' := HL.out
      rw [List.length_cons] at hl'
      refine ⟨rfl, ⟨_, _, _, HB.out.set 0 _, (show l - 1 = r.length from by omega), by omega, ?_, .inr (fun y hy => by cases hy; exact hpb2)⟩, (Kept.refl (fun j => j = b) w).setG 0 _⟩
      first
        | exact (nats_tail AT.out).apart HB.out ((Kept.refl (fun j => j = b) w).setG 0 _) (box1_none _ _ _)
        | exact .inl (List.eq_nil_of_length_eq_zero (show r.length = 0 from by omega))
end Go.Proofs.Ytlmpkonfclnceaa
