/- A word whose lowest bits are taken out, one by one; no program in sight. -/
import Derived.Test.YtmiglhlbhbfodaaGreatDoorFind
namespace Go.Proofs.YtmiglhlbhbfodaaGreatDoor

/-- The word y is x without its j lowest bits. -/
def Cleared (x j y : Nat) : Prop := y < 18446744073709551616 ∧ ∀ b, b < 64 → y.testBit b = (x.testBit b && decide (j ≤ pop b x))

theorem pop_few (x j m : Nat) (h : ∀ b, b < m → x.testBit b = true → pop b x < j) : pop m x ≤ j := by
  induction m with
  | zero => simp [pop]
  | succ m ih =>
    have i := ih (fun b hb => h b (by omega))
    rw [pop_snoc]
    cases hx : x.testBit m
    · simpa using i
    · have := h m (by omega) hx
      simp; omega

theorem pop_mono (x : Nat) {a b : Nat} (h : a ≤ b) : pop a x ≤ pop b x := by
  induction h with
  | refl => exact Nat.le_refl _
  | step _ ih => rw [pop_snoc]; omega

theorem cleared_zero (x : Nat) (hx : x < 18446744073709551616) : Cleared x 0 x := ⟨hx, fun b _ => by simp⟩

/-- What the lowest bit then is. -/
theorem cleared_low {x j y : Nat} (h : Cleared x j y) (hj : j < pop 64 x) : y ≠ 0 ∧ Lib.ctz 64 y < 64 ∧ x.testBit (Lib.ctz 64 y) = true ∧ pop (Lib.ctz 64 y) x = j := by
  have h0 : y ≠ 0 := by
    intro e
    subst e
    have := pop_few x j 64 (fun b hb hx => by have := h.2 b hb; rw [hx] at this; simp at this; omega)
    omega
  obtain ⟨c1, c2, c3, _⟩ := ctz_low y h0 h.1
  generalize Lib.ctz 64 y = c at *
  have t := h.2 c c1
  rw [c2] at t
  have t' := t.symm
  rw [Bool.and_eq_true, decide_eq_true_eq] at t'
  refine ⟨h0, c1, t'.1, ?_⟩
  have := pop_few x j c (fun b hb hx => by have u := h.2 b (by omega); rw [c3 b hb, hx] at u; simp at u; omega)
  omega

theorem cleared_step {x j y : Nat} (h : Cleared x j y) (hj : j < pop 64 x) : Cleared x (j + 1) (y &&& (y - 1)) := by
  obtain ⟨h0, c1, cx, cp⟩ := cleared_low h hj
  obtain ⟨_, c2, c3, c4⟩ := ctz_low y h0 h.1
  generalize Lib.ctz 64 y = c at *
  refine ⟨Nat.lt_of_le_of_lt Nat.and_le_left h.1, fun b hb => ?_⟩
  rw [c4 b, h.2 b hb]
  cases hx : x.testBit b
  · rfl
  · simp only [Bool.true_and]
    rw [Bool.eq_iff_iff]
    simp only [Bool.and_eq_true, decide_eq_true_eq]
    constructor
    · rintro ⟨h1, h2⟩
      have hcb : c < b := by
        apply Nat.lt_of_le_of_ne _ (fun e => h2 e.symm)
        apply Nat.le_of_not_lt
        intro hlt
        have := h.2 b hb
        rw [c3 b hlt, hx] at this
        simp at this
        omega
      have m := pop_mono x (show c + 1 ≤ b from hcb)
      rw [pop_snoc, cx, cp] at m
      exact m
    · intro h1
      exact ⟨by omega, fun e => by subst e; omega⟩

/-- The number that Select tells. -/
theorem sel_some {s : Nat} {ws : List Nat} (hw : Words ws) (hm : mapOK s ws = true) {i c k : Nat} (hi : i < ws.length) (hc : c < 64) (hb : (ws.getD i 0).testBit c = true) (hk : cnt ws (64 * i) + pop c (ws.getD i 0) = k) :
    SelSpec s ws k (some (64 * i + c)) := by
  have hbit : bitN ws (64 * i + c) = true := by rw [bitN_at ws i c hc]; exact hb
  refine ⟨hm, ?_, hbit, ?_⟩
  · have := (mapOK_iff hw).1 hm
    by_cases hlt : 64 * i + c < s
    · omega
    · rw [this.2.2 (64 * i + c) (by omega) (by omega)] at hbit
      cases hbit
  · rw [cnt_part ws i c (by omega)]; omega
theorem sel_none {s : Nat} {ws : List Nat} (hm : mapOK s ws = true) {k : Nat} (hk : cnt ws (64 * ws.length) ≤ k) : SelSpec s ws k none := by
  intro _ _
  have h2 := mapOK_len hm
  have : cnt ws s ≤ cnt ws (64 * ws.length) := cnt_mono ws (by rw [Int.toNat_natCast] at h2; omega)
  rw [Int.toNat_natCast]
  omega

end Go.Proofs.YtmiglhlbhbfodaaGreatDoor
