/- Blocks of sectors, in plain words; no program in sight. -/
import Derived.Test.YtlmpkonfclnceaaCrc3
import Derived.Test.YtlmpkonfclnceaaSec8
namespace Go.Proofs.Ytlmpkonfclnceaa
open Go.RowKit

def mayB (f k : Int) : Bool := decide (0 ≤ f) && decide (f ≤ 4096) && decide (0 ≤ k) && decide (k ≤ 512)
def hasB (k n : Int) : Bool := decide (0 ≤ n) && decide (n < k)
theorem mayB_iff {f k : Int} : mayB f k = true ↔ 0 ≤ f ∧ f ≤ 4096 ∧ 0 ≤ k ∧ k ≤ 512 := by simp [mayB, and_assoc]
theorem hasB_iff {k n : Int} : hasB k n = true ↔ 0 ≤ n ∧ n < k := by simp [hasB]
/-- Errors of an area, and of a block's number. -/
def errA (N : Nat) (f k : Int) : Nat := if mayB f k = true ∧ f + 4 * k ≤ (N : Int) then 0 else 2
def atA (N : Nat) (f k n : Int) : Nat := if errA N f k = 0 then (if hasB k n = true then 0 else 9) else errA N f k
def secsA (f k n : Int) : List Nat := if mayB f k = true ∧ hasB k n = true then (List.range 4).map fun i => (f + 4 * n).toNat + i else []
theorem errA_two {N : Nat} {f k : Int} (h : errA N f k ≠ 0) : errA N f k = 2 := by unfold errA at h ⊢; split at h <;> simp_all
/-- What is known where there is no error. -/
theorem atA_zero {N : Nat} {f k n : Int} (h : atA N f k n = 0) : 0 ≤ f ∧ f ≤ 4096 ∧ 0 ≤ k ∧ k ≤ 512 ∧ f + 4 * k ≤ (N : Int) ∧ 0 ≤ n ∧ n < k := by
  unfold atA at h
  split at h
  · rename_i he
    split at h
    · rename_i hh
      unfold errA at he
      split at he
      · rename_i hm
        have h1 := mayB_iff.1 hm.1
        have h2 := hasB_iff.1 hh
        omega
      · cases he
    · cases h
  · rename_i he; exact absurd h he
theorem secsA_eq {N : Nat} {f k n : Int} (h : atA N f k n = 0) : ∃ F : Nat, secsA f k n = [F, F + 1, F + 2, F + 3] ∧ (F : Int) = f + 4 * n ∧ F + 4 ≤ N := by
  have h1 := atA_zero h
  refine ⟨(f + 4 * n).toNat, ?_, by omega, by omega⟩
  unfold secsA
  rw [if_pos ⟨mayB_iff.2 (by omega), hasB_iff.2 (by omega)⟩]
  rfl
/-- Sectors written, side by side, up to the first error. -/
def wrs (D : Dsk) (F : Nat) : List (List Nat) → Dsk × Nat
  | [] => (D, 0)
  | c :: cs => if (writeD D (F : Nat) c).2 = 0 then wrs (writeD D (F : Nat) c).1 (F + 1) cs else writeD D (F : Nat) c
def chunk (l : List Nat) (i : Nat) : List Nat := (l.drop (i * 256)).take 256
def chunks (l : List Nat) : List (List Nat) := [chunk l 0, chunk l 1, chunk l 2, chunk l 3]
def writeB (D : Dsk) (f k n : Int) (body : List Nat) : Dsk × Nat :=
  if atA D.s.length f k n = 0 then (if body.length ≤ 1016 then wrs D (f + 4 * n).toNat (chunks (sealC body)) else (D, 5)) else (D, atA D.s.length f k n)
def hasAt (D : Dsk) (F : Nat) : List Nat := (D.s.getD F sec0).has
def readB (D : Dsk) (f k n : Int) : List Nat × Nat :=
  if atA D.s.length f k n = 0 then (if D.off then ([], 8) else openP (hasAt D (f + 4 * n).toNat ++ hasAt D ((f + 4 * n).toNat + 1) ++ hasAt D ((f + 4 * n).toNat + 2) ++ hasAt D ((f + 4 * n).toNat + 3))) else ([], atA D.s.length f k n)
def soundB (D : Dsk) (f k : Int) : List Nat := if errA D.s.length f k = 0 then (List.range k.toNat).filter fun n => decide ((readB D f k (n : Nat)).2 = 0) else []
theorem chunk_len {l : List Nat} (h : l.length = 1024) {i : Nat} (hi : i < 4) : (chunk l i).length = 256 := by unfold chunk; rw [List.length_take, List.length_drop]; omega
theorem chunk_bts {l : List Nat} (h : Bts l) (i : Nat) : Bts (chunk l i) := (h.drop _).take _
end Go.Proofs.Ytlmpkonfclnceaa
