/- Dc0: bytes as numbers, as strings; the conversions. -/
import Derived.Test.YtnjmdldhgconmaaGreatDoorSecP
import Derived.Test.YtnjmdldhgconmaaGreatDoorSl
import Derived.Test.YtnjmdldhgconmaaGreatDoorAuto
import Derived.Test.YtnjmdldhgconmaaGreatDoorProg
import Derived.Laws.BytesArg
import Derived.Lib.Bytes
import Derived.Lib.ConvBytes
namespace Go.Proofs.YtnjmdldhgconmaaGreatDoor
open Go.RowKit

def strN (xs : List Nat) : ByteArray := ⟨(xs.map UInt8.ofNat).toArray⟩
theorem ofNat_inj {x y : Nat} (hx : x < 256) (hy : y < 256) (h : UInt8.ofNat x = UInt8.ofNat y) : x = y := by
  have := congrArg UInt8.toNat h
  simp at this
  omega
theorem map_inj {xs ys : List Nat} (hx : Bts xs) (hy : Bts ys) (h : xs.map UInt8.ofNat = ys.map UInt8.ofNat) : xs = ys := by
  induction xs generalizing ys with
  | nil => cases ys with
    | nil => rfl
    | cons y ys => simp at h
  | cons x xs ih =>
    cases ys with
    | nil => simp at h
    | cons y ys =>
      simp only [List.map_cons, List.cons.injEq] at h
      rw [ofNat_inj (hx x (by simp)) (hy y (by simp)) h.1, ih (fun z hz => hx z (by simp [hz])) (fun z hz => hy z (by simp [hz])) h.2]
theorem strN_inj {xs ys : List Nat} (hx : Bts xs) (hy : Bts ys) (h : strN xs = strN ys) : xs = ys := by
  unfold strN at h
  simp only [ByteArray.mk.injEq] at h
  have := congrArg Array.toList h
  exact map_inj hx hy (by simpa using this)
theorem strN_ints (xs : List Nat) : strOfNums (xs.map fun n : Nat => (n : Int)) = strN xs := by
  unfold strOfNums strN
  rw [List.map_map]
  congr 2

theorem strN_toList (xs : List Nat) : (strN xs).toList = xs.map UInt8.ofNat := by
  rw [← strN_ints, Lib.strOfNums_toList]
  unfold Lib.bytesOf
  rw [List.map_map]
  congr 1
theorem str_beq {xs ys : List Nat} (hx : Bts xs) (hy : Bts ys) : ((strN xs).toList == (strN ys).toList) = decide (xs = ys) := by
  rw [strN_toList, strN_toList, Bool.eq_iff_iff]
  simp only [beq_iff_eq, decide_eq_true_eq]
  exact ⟨fun h => map_inj hx hy h, fun h => by rw [h]⟩

theorem nats_cells {w : World} {k : IntKind} {b off : Nat} {xs : List Nat} (h : NatsAt w k (some ⟨b, off, none⟩) xs) (i : Nat) (hi : i < xs.length) : w.cell? ⟨b, off + i, none⟩ = some (.int k ((xs.map fun n : Nat => (n : Int)).getD i 0)) := by
  rcases h with rfl | ⟨b', off', e, _, hc⟩
  · simp at hi
  · simp only [Option.some.injEq, Addr.mk.injEq, and_true] at e
    obtain ⟨rfl, rfl⟩ := e
    have := hc i _ (List.getElem?_eq_getElem hi)
    have e2 : (xs.map fun n : Nat => (n : Int)).getD i 0 = ((xs[i] : Nat) : Int) := by simp [hi]
    rw [e2]; exact this
theorem conv_str (a : Option Addr) (l c : Nat) (xs : List Nat) (w : World) (hl : l = xs.length) (h : NatsAt w .u8 a xs) : (convert 25 9 (.slice a l c)).run Tryz.prog w = .ok (.string (strN xs)) w := by
  subst hl
  by_cases h0 : xs = []
  · subst h0
    rw [run_convert_bytes_string w _ _ _ _ _ _ Tryz.underlying25 Tryz.underlying5 Tryz.underlying9]
    cases a <;> simp [Conv.bytesToString, strN, loadCells, loadCellsFrom] <;> rfl
  · rcases h with h | ⟨b, off, rfl, hb, hc⟩
    · exact absurd h h0
    · rw [← strN_ints]
      exact run_convert_bytes_arg w _ _ Tryz.underlying25 Tryz.underlying5 b off _ c _ (by simp) (fun i hi => nats_cells (.inr ⟨b, off, rfl, hb, hc⟩) i hi) _ Tryz.underlying9
theorem strN_len (xs : List Nat) : (strN xs).size = xs.length := by simp [strN, ByteArray.size]
/-- A text's bytes, in a block of their own. -/
theorem conv_bytes (xs : List Nat) (hb : Bts xs) (w : World) : ∃ c w', (convert 9 25 (.string (strN xs))).run Tryz.prog w = .ok (.slice (some ⟨w.heap.size, 0, none⟩) xs.length c) w' ∧ NatsAt w' .u8 (some ⟨w.heap.size, 0, none⟩) xs ∧ xs.length ≤ c ∧ Same w w' := by
  have h := Lib.run_convert_string_bytes (P := Tryz.prog) w 9 25 5 (strN xs) Tryz.underlying9 Tryz.underlying25 Tryz.underlying5
  rw [strN_len] at h
  refine ⟨_, _, h, ?_, ?_, ?_⟩
  · refine .inr ⟨w.heap.size, 0, rfl, by rw [Lib.bytesWorld_size]; omega, fun i x hx => ?_⟩
    have hi : i < xs.length := (List.getElem?_eq_some_iff.1 hx).1
    rw [Nat.zero_add, Lib.bytesWorld_cell _ _ _ _ (by rw [strN_len]; exact hi)]
    have e : (strN xs).data.toList = xs.map UInt8.ofNat := by unfold strN; simp
    rw [e, List.getD_eq_getElem?_getD, List.getElem?_map, hx]
    have := hb x (List.mem_of_getElem? hx)
    simp [Nat.mod_eq_of_lt this]
  · exact grownCap_ge w xs.length 0 _
  · exact ⟨rfl, rfl, rfl, by rw [Lib.bytesWorld_size]; omega, fun k hk _ => Lib.bytesWorld_at_old w _ _ k hk⟩

/-- A string's bytes as numbers. -/
def natsU (l : List UInt8) : List Nat := l.map fun b => b.toNat
theorem strN_natsU (l : List UInt8) : strN (natsU l) = ⟨l.toArray⟩ := by
  unfold strN natsU
  rw [List.map_map]
  congr 1
  congr 1
  conv => rhs; rw [← List.map_id l]
  apply List.map_congr_left
  intro b _
  simp
theorem natsU_bts (l : List UInt8) : Bts (natsU l) := by
  intro x hx
  obtain ⟨b, _, rfl⟩ := List.mem_map.1 hx
  exact b.toNat_lt
theorem natsU_len (l : List UInt8) : (natsU l).length = l.length := by simp [natsU]
theorem natsU_inj {l m : List UInt8} (h : natsU l = natsU m) : l = m := by
  unfold natsU at h
  have := (List.map_inj_right (f := fun b : UInt8 => b.toNat) (fun a b e => UInt8.toNat_inj.1 e)).1 h
  exact this
end Go.Proofs.YtnjmdldhgconmaaGreatDoor
