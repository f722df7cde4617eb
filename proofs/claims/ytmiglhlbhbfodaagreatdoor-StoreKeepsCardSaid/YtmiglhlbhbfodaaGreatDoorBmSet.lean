/- A number put in or taken out, as words; no program in sight. -/
import Derived.Test.YtmiglhlbhbfodaaGreatDoorBmBits
namespace Go.Proofs.YtmiglhlbhbfodaaGreatDoor
open Go.RowKit

/-- A bit turned on or off. -/
def putBit (x k : Nat) (on : Bool) : Nat := if x.testBit k = on then x else x ^^^ 2 ^ k
theorem putBit_test (x k : Nat) (on : Bool) (j : Nat) : (putBit x k on).testBit j = if j = k then on else x.testBit j := by
  unfold putBit
  by_cases hj : j = k
  · subst hj
    rw [if_pos rfl]
    split
    · assumption
    · rename_i h
      rw [Nat.testBit_xor, Nat.testBit_two_pow_self]
      cases on <;> cases hx : x.testBit j <;> simp_all
  · rw [if_neg hj]
    split
    · rfl
    · rw [Nat.testBit_xor, Nat.testBit_two_pow_of_ne (by omega)]; simp
theorem putBit_or (x k : Nat) : x ||| 2 ^ k = putBit x k true := by
  apply Nat.eq_of_testBit_eq
  intro j
  rw [putBit_test, Nat.testBit_or]
  by_cases hj : j = k
  · subst hj; rw [Nat.testBit_two_pow_self]; simp
  · rw [Nat.testBit_two_pow_of_ne (by omega)]; simp [hj]
theorem putBit_lt (x k : Nat) (on : Bool) (hk : k < 64) (hx : x < 18446744073709551616) : putBit x k on < 18446744073709551616 := by
  unfold putBit
  split
  · exact hx
  · have h1 : x < 2 ^ 64 := by simpa using hx
    have h2 : 2 ^ k < 2 ^ 64 := Nat.pow_lt_pow_right (by decide) hk
    have := Nat.xor_lt_two_pow h1 h2
    simpa using this
theorem putBit_andNot (x k : Nat) (hk : k < 64) (hx : x < 18446744073709551616) : x &&& (18446744073709551615 - 2 ^ k) = putBit x k false := by
  have h64 : (18446744073709551615 : Nat) = 2 ^ 64 - 1 := by decide
  apply Nat.eq_of_testBit_eq
  intro j
  rw [putBit_test, Nat.testBit_and]
  rcases Nat.lt_or_ge j 64 with h | h
  · have e : (18446744073709551615 - 2 ^ k).testBit j = !(2 ^ k).testBit j := by
      have hlt : 2 ^ k < 2 ^ 64 := Nat.pow_lt_pow_right (by decide) hk
      rw [h64, Nat.sub_sub, Nat.add_comm 1, Nat.testBit_two_pow_sub_succ hlt]
      simp [h]
    rw [e]
    by_cases hj : j = k
    · subst hj; rw [Nat.testBit_two_pow_self]; simp
    · rw [Nat.testBit_two_pow_of_ne (by omega)]; simp [hj]
  · have e : x.testBit j = false := Nat.testBit_lt_two_pow (Nat.lt_of_lt_of_le (show x < 2 ^ 64 from by simpa using hx) (Nat.pow_le_pow_right (by decide) h))
    rw [e]
    simp

/-- The words with a number put in or taken out. -/
def putN (ws : List Nat) (n : Nat) (on : Bool) : List Nat := ws.set (n / 64) (putBit (ws.getD (n / 64) 0) (n % 64) on)
theorem putN_length (ws : List Nat) (n : Nat) (on : Bool) : (putN ws n on).length = ws.length := by simp [putN]
theorem putN_words {ws : List Nat} (h : Words ws) (n : Nat) (on : Bool) : Words (putN ws n on) := by
  intro x hx
  unfold putN at hx
  rcases List.mem_or_eq_of_mem_set hx with h1 | h1
  · exact h x h1
  · rw [h1]; exact putBit_lt _ _ _ (Nat.mod_lt _ (by decide)) (getD_word h _)
theorem putN_bit (ws : List Nat) (n : Nat) (on : Bool) (hn : n / 64 < ws.length) (j : Nat) : bitN (putN ws n on) j = if j = n then on else bitN ws j := by
  unfold bitN putN
  by_cases h1 : j / 64 = n / 64
  · rw [h1, List.getD_eq_getElem?_getD, List.getElem?_set_self hn]
    simp only [Option.getD_some, putBit_test]
    by_cases h2 : j = n
    · subst h2; simp
    · rw [if_neg (by omega), if_neg h2]
  · rw [List.getD_eq_getElem?_getD, List.getElem?_set_ne (by omega), ← List.getD_eq_getElem?_getD, if_neg (by rintro rfl; exact h1 rfl)]

end Go.Proofs.YtmiglhlbhbfodaaGreatDoor
