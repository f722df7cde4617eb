/- Plain words on maps of bits; no program in sight. -/
import Derived.Test.YtlkgdpdnhnakoaaGreatDoorGNo
namespace Go.Proofs.YtlkgdpdnhnakoaaGreatDoor

/-- Words are words. -/
def Words (ws : List Nat) : Prop := ∀ x ∈ ws, x < 18446744073709551616

/-- The bit of a number. -/
def bitN (ws : List Nat) (n : Nat) : Bool := (ws.getD (n / 64) 0).testBit (n % 64)

/-- May a map be? -/
def mapOK (s : Int) (ws : List Nat) : Bool :=
  decide (0 ≤ s) && decide (s ≤ 4096) && decide (ws.length = (s.toNat + 63) / 64) && (decide (s.toNat % 64 = 0) || decide (ws.getD (ws.length - 1) 0 / 2 ^ (s.toNat % 64) = 0))

theorem testBit_div (x j : Nat) : (x / 2 ^ j % 2 = 1) ↔ x.testBit j = true := by
  rw [Nat.testBit_eq_decide_div_mod_eq]; simp
theorem high_zero (x k : Nat) (hx : x < 18446744073709551616) : x / 2 ^ k = 0 ↔ ∀ j, k ≤ j → j < 64 → x.testBit j = false := by
  constructor
  · intro h j hj _
    have : x < 2 ^ k := by
      rcases Nat.lt_or_ge x (2 ^ k) with h' | h'
      · exact h'
      · have := Nat.div_pos h' (Nat.two_pow_pos k); omega
    exact Nat.testBit_lt_two_pow (Nat.lt_of_lt_of_le this (Nat.pow_le_pow_right (by decide) hj))
  · intro h
    rw [← Nat.shiftRight_eq_div_pow]
    apply Nat.eq_of_testBit_eq
    intro i
    rw [Nat.testBit_shiftRight, Nat.zero_testBit]
    rcases Nat.lt_or_ge (k + i) 64 with h1 | h1
    · exact h (k + i) (by omega) h1
    · exact Nat.testBit_lt_two_pow (Nat.lt_of_lt_of_le (show x < 2 ^ 64 from by simpa using hx) (Nat.pow_le_pow_right (by decide) h1))

theorem getD_word {ws : List Nat} (h : Words ws) (i : Nat) : ws.getD i 0 < 18446744073709551616 := by
  rw [List.getD]
  cases hx : ws[i]? with
  | none => simp
  | some x => exact h x (List.mem_of_getElem? hx)

/-- A map that may be has no number at or behind its size. -/
theorem mapOK_iff {s : Nat} {ws : List Nat} (hw : Words ws) : mapOK (s : Int) ws = true ↔ s ≤ 4096 ∧ ws.length = (s + 63) / 64 ∧ ∀ n, s ≤ n → n < 64 * ws.length → bitN ws n = false := by
  unfold mapOK bitN
  simp only [Bool.and_eq_true, Bool.or_eq_true, decide_eq_true_eq, Int.toNat_natCast]
  constructor
  · rintro ⟨⟨⟨_, h1⟩, h2⟩, h3⟩
    refine ⟨by omega, h2, fun n hn hl => ?_⟩
    rcases h3 with h3 | h3
    · omega
    · have e : n / 64 = ws.length - 1 := by omega
      rw [e]
      exact (high_zero _ _ (getD_word hw _)).1 h3 (n % 64) (by omega) (Nat.mod_lt _ (by decide))
  · rintro ⟨h1, h2, h3⟩
    refine ⟨⟨⟨by omega, by omega⟩, h2⟩, ?_⟩
    rcases Nat.eq_zero_or_pos (s % 64) with h4 | h4
    · exact .inl h4
    · refine .inr ((high_zero _ _ (getD_word hw _)).2 fun j hj hj2 => ?_)
      have := h3 (64 * (ws.length - 1) + j) (by omega) (by omega)
      rw [show (64 * (ws.length - 1) + j) / 64 = ws.length - 1 from by omega, show (64 * (ws.length - 1) + j) % 64 = j from by omega] at this
      exact this
theorem mapOK_pos {s : Int} {ws : List Nat} (h : mapOK s ws = true) : 0 ≤ s ∧ s ≤ 4096 := by
  unfold mapOK at h
  simp only [Bool.and_eq_true, decide_eq_true_eq] at h
  exact h.1.1
theorem mapOK_len {s : Int} {ws : List Nat} (h : mapOK s ws = true) : ws.length = (s.toNat + 63) / 64 := by
  unfold mapOK at h
  simp only [Bool.and_eq_true, decide_eq_true_eq] at h
  exact h.1.2

end Go.Proofs.YtlkgdpdnhnakoaaGreatDoor
