/- What Next, Rank and Select tell, in plain words; no program in sight. -/
import Derived.Test.YtmiglhlbhbfodaaGreatDoorBmSet
import Derived.Test.YtmiglhlbhbfodaaGreatDoorPop
import Derived.Shelf.Spec.TrailingZeros
namespace Go.Proofs.YtmiglhlbhbfodaaGreatDoor

theorem pop_snoc (k x : Nat) : pop (k + 1) x = pop k x + (x.testBit k).toNat := by
  rw [pop_add]
  have h : pop 1 (x / 2 ^ k) = x / 2 ^ k % 2 := by simp [pop]
  have t := testBit_div x k
  rw [h]
  cases hb : x.testBit k
  · have : ¬ x / 2 ^ k % 2 = 1 := fun e => by rw [t.1 e] at hb; cases hb
    simp; omega
  · rw [t.2 hb]; rfl

/-- How many of the numbers below n are in. -/
def cnt (ws : List Nat) : Nat → Nat
  | 0 => 0
  | n + 1 => cnt ws n + (bitN ws n).toNat

theorem cnt_mono (ws : List Nat) {a b : Nat} (h : a ≤ b) : cnt ws a ≤ cnt ws b := by
  induction h with
  | refl => exact Nat.le_refl _
  | step _ ih => exact Nat.le_trans ih (by simp [cnt])

theorem bitN_at (ws : List Nat) (i j : Nat) (hj : j < 64) : bitN ws (64 * i + j) = (ws.getD i 0).testBit j := by
  unfold bitN
  rw [show (64 * i + j) / 64 = i from by omega, show (64 * i + j) % 64 = j from by omega]

theorem cnt_part (ws : List Nat) (i j : Nat) (hj : j ≤ 64) : cnt ws (64 * i + j) = cnt ws (64 * i) + pop j (ws.getD i 0) := by
  induction j with
  | zero => simp [pop]
  | succ j ih =>
    rw [show 64 * i + (j + 1) = (64 * i + j) + 1 from by omega, cnt, ih (by omega), pop_snoc, bitN_at ws i j (by omega), Nat.add_assoc]

theorem cnt_word (ws : List Nat) (i : Nat) : cnt ws (64 * (i + 1)) = cnt ws (64 * i) + pop 64 (ws.getD i 0) := cnt_part ws i 64 (Nat.le_refl _)

theorem pop_ext (k x y : Nat) (h : ∀ j, j < k → x.testBit j = y.testBit j) : pop k x = pop k y := by
  induction k with
  | zero => rfl
  | succ k ih => rw [pop_snoc, pop_snoc, ih (fun j hj => h j (by omega)), h k (by omega)]
theorem pop_zero (k x : Nat) (h : ∀ j, j < k → x.testBit j = false) : pop k x = 0 := by
  induction k with
  | zero => rfl
  | succ k ih => rw [pop_snoc, ih (fun j hj => h j (by omega)), h k (by omega)]; rfl
/-- A word, shifted so far that its k lowest bits are left. -/
theorem pop_shl (x k : Nat) (hk : k ≤ 64) : pop 64 (x * 2 ^ (64 - k) % 18446744073709551616) = pop k x := by
  have e : ∀ j, (x * 2 ^ (64 - k) % 18446744073709551616).testBit j = (decide (j < 64) && (decide (64 - k ≤ j) && x.testBit (j - (64 - k)))) := by
    intro j
    rw [show (18446744073709551616 : Nat) = 2 ^ 64 from rfl, Nat.testBit_mod_two_pow, Nat.testBit_mul_two_pow]
  have s := pop_add (64 - k) k (x * 2 ^ (64 - k) % 18446744073709551616)
  rw [show 64 - k + k = 64 from by omega] at s
  rw [s, pop_zero (64 - k), Nat.zero_add]
  · apply pop_ext
    intro j hj
    rw [Nat.testBit_div_two_pow, e]
    simp
    intro; omega
  · intro j hj
    rw [e]
    have : ¬ 64 - k ≤ j := by omega
    simp [this]

/-- The lowest bit of a word that is not zero. -/
theorem ctz_low (x : Nat) (h0 : x ≠ 0) (h : x < 18446744073709551616) : Lib.ctz 64 x < 64 ∧ x.testBit (Lib.ctz 64 x) = true ∧ (∀ j, j < Lib.ctz 64 x → x.testBit j = false) ∧
    ∀ j, (x &&& (x - 1)).testBit j = (x.testBit j && decide (j ≠ Lib.ctz 64 x)) := by
  obtain ⟨m, hm, hk⟩ := Lib.ctzFrom_spec 64 x (by omega) h
  have e : Lib.ctz 64 x = Lib.ctzFrom 64 x := by simp [Lib.ctz, h0]
  rw [e]
  generalize Lib.ctzFrom 64 x = c at *
  have t : ∀ j, x.testBit j = (decide (c ≤ j) && (2 * m + 1).testBit (j - c)) := fun j => by rw [hm, Nat.mul_comm, Nat.testBit_mul_two_pow]
  have hp : 0 < 2 ^ c := Nat.two_pow_pos c
  have s : x - 1 = 2 ^ c * (2 * m) + (2 ^ c - 1) := by rw [hm, Nat.mul_add]; omega
  refine ⟨hk, by rw [t]; simp [Nat.testBit_zero], fun j hj => by rw [t]; simp; omega, ?_⟩
  intro j
  rw [Nat.testBit_and, s, Nat.testBit_two_pow_mul_add _ (by omega), t j]
  by_cases hj : j < c
  · have : ¬ c ≤ j := by omega
    simp [this]
  · rw [if_neg hj]
    have hc : c ≤ j := by omega
    by_cases hjc : j = c
    · subst hjc; simp [Nat.testBit_zero]
    · obtain ⟨d, rfl⟩ : ∃ d, j = c + (d + 1) := ⟨j - c - 1, by omega⟩
      have e3 : c + (d + 1) - c = d + 1 := by omega
      rw [e3, Nat.testBit_succ, Nat.testBit_succ, show (2 * m + 1) / 2 = m from by omega, show 2 * m / 2 = m from by omega]
      simp

/-- What Next may tell. -/
def NextSpec (s : Int) (ws : List Nat) (f : Int) (on : Bool) : Option Nat → Prop
  | some n => mapOK s ws = true ∧ f ≤ n ∧ (n : Int) < s ∧ bitN ws n = on ∧ ∀ j : Nat, f ≤ j → j < n → bitN ws j = !on
  | none => mapOK s ws = true → ∀ j : Nat, f ≤ j → (j : Int) < s → bitN ws j = !on
theorem next_one {s : Int} {ws : List Nat} {f : Int} {on : Bool} {a b : Option Nat} (ha : NextSpec s ws f on a) (hb : NextSpec s ws f on b) : a = b := by
  cases a with
  | none => cases b with
    | none => rfl
    | some n => obtain ⟨h0, h1, h2, h3, _⟩ := hb; have := ha h0 n h1 h2; rw [h3] at this; cases on <;> cases this
  | some m => cases b with
    | none => obtain ⟨h0, h1, h2, h3, _⟩ := ha; have := hb h0 m h1 h2; rw [h3] at this; cases on <;> cases this
    | some n =>
      obtain ⟨_, h1, h2, h3, h4⟩ := ha
      obtain ⟨_, k1, k2, k3, k4⟩ := hb
      by_cases h : m < n
      · have := k4 m h1 h; rw [h3] at this; cases on <;> cases this
      · by_cases h' : n < m
        · have := h4 n k1 h'; rw [k3] at this; cases on <;> cases this
        · rw [show m = n from by omega]

/-- What Rank tells. -/
def rankN (s : Int) (ws : List Nat) (n : Int) : Nat := if mapOK s ws then cnt ws (min n s).toNat else 0

/-- What Select may tell. -/
def SelSpec (s : Int) (ws : List Nat) (k : Int) : Option Nat → Prop
  | some n => mapOK s ws = true ∧ (n : Int) < s ∧ bitN ws n = true ∧ (cnt ws n : Int) = k
  | none => mapOK s ws = true → 0 ≤ k → (cnt ws s.toNat : Int) ≤ k
theorem cnt_lt {ws : List Nat} {a b : Nat} (h : a < b) (ha : bitN ws a = true) : cnt ws a < cnt ws b := by
  have : cnt ws (a + 1) ≤ cnt ws b := cnt_mono ws h
  simp [cnt, ha] at this
  omega
theorem sel_one {s : Int} {ws : List Nat} {k : Int} {a b : Option Nat} (ha : SelSpec s ws k a) (hb : SelSpec s ws k b) : a = b := by
  cases a with
  | none => cases b with
    | none => rfl
    | some n => obtain ⟨h0, h1, h2, h3⟩ := hb; have := ha h0 (by omega); have := cnt_lt (b := s.toNat) (by omega) h2; omega
  | some m => cases b with
    | none => obtain ⟨h0, h1, h2, h3⟩ := ha; have := hb h0 (by omega); have := cnt_lt (b := s.toNat) (by omega) h2; omega
    | some n =>
      obtain ⟨_, h1, h2, h3⟩ := ha
      obtain ⟨_, k1, k2, k3⟩ := hb
      by_cases h : m < n
      · have := cnt_lt h h2; omega
      · by_cases h' : n < m
        · have := cnt_lt h' k2; omega
        · rw [show m = n from by omega]

end Go.Proofs.YtmiglhlbhbfodaaGreatDoor
