/- Dc3: the document's reader takes a text off. -/
import Derived.Test.YtnjmdldhgconmaaGreatDoorGDc
import Derived.Test.YtnjmdldhgconmaaGreatDoorOrdR2
import Derived.Lib.MinMax
namespace Go.Proofs.YtnjmdldhgconmaaGreatDoor
open Go.RowKit

theorem addT_ok {a : List Nat} {k : Nat} {r : List Nat × Nat × Nat} (h : (addT a k r).2.2 = 0) : r.2.2 = 0 ∧ (addT a k r).1 = a ++ r.1 ∧ (addT a k r).2.1 = k + r.2.1 := by
  unfold addT at h ⊢
  split at h
  · rename_i h0; rw [if_pos h0]; exact ⟨h0, rfl, rfl⟩
  · rename_i h0; exact absurd h h0
theorem gT_ok : ∀ (xs : List Nat), (gT xs).2.2 = 0 → 2 ≤ (gT xs).2.1 ∧ (gT xs).2.1 ≤ xs.length ∧ (gT xs).1.length ≤ xs.length
  | [], h => by simp [gT] at h
  | [_], h => by simp [gT] at h
  | c :: d :: m, h => by
    unfold gT at h ⊢
    by_cases hc : c = 0
    · rw [if_pos hc] at h ⊢
      by_cases h1 : d = 1
      · rw [if_pos h1]; simp
      · rw [if_neg h1] at h ⊢
        by_cases h2 : d = 255
        · rw [if_pos h2] at h ⊢
          obtain ⟨q0, q1, q2⟩ := addT_ok h
          obtain ⟨r1, r2, r3⟩ := gT_ok m q0
          rw [q1, q2]
          simp
          omega
        · rw [if_neg h2] at h; simp at h
    · rw [if_neg hc] at h ⊢
      obtain ⟨q0, q1, q2⟩ := addT_ok h
      obtain ⟨r1, r2, r3⟩ := gT_ok (d :: m) q0
      rw [q1, q2]
      simp at r2 r3 ⊢
      omega
/-- What a reader of bytes (er: its first error) tells of a text of at most so many bytes: what is left, the error, the text. -/
def rdText (xs : List Nat) (er most : Nat) : List Nat × Nat × List Nat :=
  if er ≠ 0 then (xs, er, []) else if (gT xs).2.2 ≠ 0 then (xs, (gT xs).2.2, []) else if most < (gT xs).1.length then (xs, 5, []) else (xs.drop (gT xs).2.1, 0, (gT xs).1)
end Go.Proofs.YtnjmdldhgconmaaGreatDoor
