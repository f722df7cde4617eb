/- Walks over the document's numbers (fascicleref01). -/
import Derived.Test.YtnjmdldhgconmaaGreatDoorGOrd
namespace Go.Proofs.YtnjmdldhgconmaaGreatDoor
open Go.RowKit

theorem div_pow_succ (n i : Nat) : n / 256 ^ i / 256 = n / 256 ^ (i + 1) := by rw [Nat.div_div_eq_div_mul, Nat.pow_succ]

theorem low_lt7 (xs : List Nat) (j : Nat) (hb : Bytes xs) (hj : j < xs.length) (hl : xs.length ≤ 8) : low (xs.take j) < 72057594037927936 := by
  have h1 := low_lt (xs.take j) (fun y hy => hb y (List.mem_of_mem_take hy))
  have h2 : (xs.take j).length ≤ 7 := by simp; omega
  exact Nat.lt_of_lt_of_le h1 (Nat.le_trans (Nat.pow_le_pow_right (by decide) h2) (by decide))

end Go.Proofs.YtnjmdldhgconmaaGreatDoor
