/- Bytes as strings, for the disk. -/
import Derived.Test.YtlmpkonfclnceaaSec9
import Derived.Laws.BytesArg
namespace Go.Proofs.Ytlmpkonfclnceaa
open Go.RowKit

def strN (xs : List Nat) : ByteArray := ⟨(xs.map UInt8.ofNat).toArray⟩
theorem strN_ints (xs : List Nat) : strOfNums (xs.map fun n : Nat => (n : Int)) = strN xs := by
  unfold strOfNums strN
  rw [List.map_map]
  congr 2

theorem nats_cells {w : World} {k : IntKind} {b off : Nat} {xs : List Nat} (h : NatsAt w k (some ⟨b, off, none⟩) xs) (i : Nat) (hi : i < xs.length) : w.cell? ⟨b, off + i, none⟩ = some (.int k ((xs.map fun n : Nat => (n : Int)).getD i 0)) := by
  rcases h with rfl | ⟨b', off', e, _, hc⟩
  · simp at hi
  · simp only [Option.some.injEq, Addr.mk.injEq, and_true] at e
    obtain ⟨rfl, rfl⟩ := e
    have := hc i _ (List.getElem?_eq_getElem hi)
    have e2 : (xs.map fun n : Nat => (n : Int)).getD i 0 = ((xs[i] : Nat) : Int) := by simp [hi]
    rw [e2]; exact this
theorem conv_str (a : Option Addr) (l c : Nat) (xs : List Nat) (w : World) (hl : l = xs.length) (h : NatsAt w .u8 a xs) : (convert 24 9 (.slice a l c)).run Try.prog w = .ok (.string (strN xs)) w := by
  subst hl
  by_cases h0 : xs = []
  · subst h0
    rw [run_convert_bytes_string w _ _ _ _ _ _ Try.underlying24 Try.underlying5 Try.underlying9]
    cases a <;> simp [Conv.bytesToString, strN, loadCells, loadCellsFrom] <;> rfl
  · rcases h with h | ⟨b, off, rfl, hb, hc⟩
    · exact absurd h h0
    · rw [← strN_ints]
      exact run_convert_bytes_arg w _ _ Try.underlying24 Try.underlying5 b off _ c _ (by simp) (fun i hi => nats_cells (.inr ⟨b, off, rfl, hb, hc⟩) i hi) _ Try.underlying9

end Go.Proofs.Ytlmpkonfclnceaa
