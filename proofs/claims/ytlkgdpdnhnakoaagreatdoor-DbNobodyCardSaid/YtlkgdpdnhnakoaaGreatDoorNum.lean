/- Plain words on numbers laid as bytes; no program in sight. -/
import Derived.WalkKit
namespace Go.Proofs.YtlkgdpdnhnakoaaGreatDoor

theorem snoc_ind {α : Type} {P : List α → Prop} (h0 : P []) (h1 : ∀ l a, P l → P (l ++ [a])) (l : List α) : P l := by
  have key : ∀ r : List α, P r.reverse := by
    intro r
    induction r with
    | nil => exact h0
    | cons a r ih => rw [List.reverse_cons]; exact h1 _ _ ih
  have := key l.reverse
  rwa [List.reverse_reverse] at this

/-- How many bytes a number below 256^f has. -/
def widF : Nat → Nat → Nat
  | 0, _ => 0
  | f + 1, n => if n = 0 then 0 else widF f (n / 256) + 1
def wid (n : Nat) : Nat := widF 8 n

theorem widF_le (f n : Nat) : widF f n ≤ f := by
  induction f generalizing n with
  | zero => simp [widF]
  | succ f ih => unfold widF; split; omega; have := ih (n / 256); omega

theorem widF_more (f n : Nat) (h : n < 256 ^ f) : widF (f + 1) n = widF f n := by
  induction f generalizing n with
  | zero => have : n = 0 := by simpa using h
            subst this; simp [widF]
  | succ f ih =>
    have h' : n / 256 < 256 ^ f := by rw [Nat.pow_succ] at h; omega
    conv => lhs; unfold widF
    conv => rhs; unfold widF
    split
    · rfl
    · rw [ih _ h']

theorem wid_zero : wid 0 = 0 := rfl
theorem wid_pos {n : Nat} (h : n < 18446744073709551616) (h0 : n ≠ 0) : wid n = wid (n / 256) + 1 := by
  show widF 8 n = widF 8 (n / 256) + 1
  rw [widF_more 7 (n / 256) (by simp; omega)]
  conv => lhs; unfold widF
  rw [if_neg h0]
theorem wid_le (n : Nat) : wid n ≤ 8 := widF_le 8 n

/-- The lowest k bytes of a number, the highest first. -/
def be : Nat → Nat → List Nat
  | 0, _ => []
  | k + 1, n => be k (n / 256) ++ [n % 256]
theorem be_length (k n : Nat) : (be k n).length = k := by
  induction k generalizing n with
  | zero => rfl
  | succ k ih => simp [be, ih]
theorem be_byte (k n : Nat) : ∀ x ∈ be k n, x < 256 := by
  induction k generalizing n with
  | zero => simp [be]
  | succ k ih =>
    intro x hx
    simp only [be, List.mem_append, List.mem_singleton] at hx
    rcases hx with h | rfl
    · exact ih _ x h
    · omega
/-- One byte more at the head. -/
theorem be_head (k n : Nat) : be (k + 1) n = (n / 256 ^ k % 256) :: be k n := by
  induction k generalizing n with
  | zero => simp [be]
  | succ k ih =>
    rw [show be (k + 1 + 1) n = be (k + 1) (n / 256) ++ [n % 256] from rfl, ih (n / 256)]
    rw [Nat.div_div_eq_div_mul, show 256 * 256 ^ k = 256 ^ (k + 1) from by rw [Nat.pow_succ, Nat.mul_comm]]
    rfl

/-- The number of bytes. -/
def low (l : List Nat) : Nat := l.foldl (fun n c => 256 * n + c) 0
theorem low_snoc (l : List Nat) (c : Nat) : low (l ++ [c]) = 256 * low l + c := by simp [low]
theorem low_lt (l : List Nat) (h : ∀ x ∈ l, x < 256) : low l < 256 ^ l.length := by
  revert h
  induction l using snoc_ind with
  | h0 => intro _; simp [low]
  | h1 l c ih =>
    intro h
    have h1 := ih (fun x hx => h x (by simp [hx]))
    have h2 := h c (by simp)
    rw [low_snoc, List.length_append, List.length_singleton, Nat.pow_succ]
    omega
theorem low_be (k n : Nat) (h : n < 256 ^ k) : low (be k n) = n := by
  induction k generalizing n with
  | zero => have : n = 0 := by simpa using h
            subst this; rfl
  | succ k ih =>
    rw [be, low_snoc, ih (n / 256) (by rw [Nat.pow_succ] at h; omega)]
    omega
theorem be_low (l : List Nat) (h : ∀ x ∈ l, x < 256) : be l.length (low l) = l := by
  revert h
  induction l using snoc_ind with
  | h0 => intro _; rfl
  | h1 l c ih =>
    intro h
    have h1 := ih (fun x hx => h x (by simp [hx]))
    have h2 := h c (by simp)
    rw [List.length_append, List.length_singleton, low_snoc, be]
    rw [show (256 * low l + c) / 256 = low l from by omega, show (256 * low l + c) % 256 = c from by omega, h1]

/-- A number in few bytes. -/
def putSmall (n : Nat) : List Nat := wid n :: be (wid n) n

/-- How many, and the error: what GetSmall tells of bytes. -/
def getSmall : List Nat → Nat × Nat × Nat
  | [] => (0, 0, 3)
  | k :: r => if 8 < k then (0, 0, 4) else if r.length < k then (0, 0, 3) else if 0 < k ∧ r[0]? = some 0 then (0, 0, 4) else (low (r.take k), k + 1, 0)

theorem getSmall_lt (xs : List Nat) (h : ∀ x ∈ xs, x < 256) : (getSmall xs).1 < 18446744073709551616 := by
  cases xs with
  | nil => simp [getSmall]
  | cons k r =>
    simp only [getSmall]
    split
    · simp
    · rename_i h8
      split
      · simp
      · split
        · simp
        · have h1 := low_lt (r.take k) (fun y hy => h y (by simp [List.mem_of_mem_take hy]))
          have h2 : (r.take k).length ≤ 8 := by simp; omega
          exact Nat.lt_of_lt_of_le h1 (Nat.le_trans (Nat.pow_le_pow_right (by decide) h2) (by decide))

theorem lt_pow_wid (n : Nat) (h : n < 18446744073709551616) : n < 256 ^ wid n := by
  have key : ∀ f n, n < 256 ^ f → n < 256 ^ widF f n := by
    intro f
    induction f with
    | zero => intro n h; simpa [widF] using h
    | succ f ih =>
      intro n h
      unfold widF
      split
      · rename_i h0; subst h0; simp
      · have := ih (n / 256) (by rw [Nat.pow_succ] at h; omega)
        rw [Nat.pow_succ]; omega
  exact key 8 n (by simpa using h)
theorem pow_wid_le (n : Nat) (h : n < 18446744073709551616) (h0 : n ≠ 0) : 256 ^ (wid n - 1) ≤ n := by
  have key : ∀ f n, n < 256 ^ f → n ≠ 0 → 256 ^ (widF f n - 1) ≤ n := by
    intro f
    induction f with
    | zero => intro n h h0; simp at h; omega
    | succ f ih =>
      intro n h h0
      unfold widF
      rw [if_neg h0]
      by_cases h1 : n / 256 = 0
      · rw [h1]
        have : widF f 0 = 0 := by cases f <;> simp [widF]
        rw [this]; simp; omega
      · have h2 := ih (n / 256) (by rw [Nat.pow_succ] at h; omega) h1
        have h3 : widF f (n / 256) ≠ 0 := by
          cases f with
          | zero => simp at h; omega
          | succ f => unfold widF; rw [if_neg h1]; omega
        rw [Nat.add_sub_cancel]
        obtain ⟨m, hm⟩ : ∃ m, widF f (n / 256) = m + 1 := ⟨widF f (n / 256) - 1, by omega⟩
        rw [hm] at h2 ⊢
        rw [Nat.add_sub_cancel] at h2
        rw [Nat.pow_succ]; omega
  exact key 8 n (by simpa using h) h0

/-- What is put is got, whatever stands behind it. -/
theorem getSmall_put (n : Nat) (h : n < 18446744073709551616) (t : List Nat) : getSmall (putSmall n ++ t) = (n, wid n + 1, 0) := by
  have hw := wid_le n
  have hl := be_length (wid n) n
  simp only [putSmall, List.cons_append, getSmall]
  rw [if_neg (by omega), if_neg (by rw [List.length_append, hl]; omega), if_neg, List.take_append_of_le_length (by omega), List.take_of_length_le (by omega), low_be _ _ (lt_pow_wid n h)]
  rintro ⟨h1, h2⟩
  have h0 : n ≠ 0 := by rintro rfl; simp [wid_zero] at h1
  obtain ⟨m, hm⟩ : ∃ m, wid n = m + 1 := ⟨wid n - 1, by omega⟩
  rw [hm, be_head] at h2
  simp at h2
  have h3 := pow_wid_le n h h0
  have h4 := lt_pow_wid n h
  rw [hm, Nat.add_sub_cancel] at h3
  rw [hm, Nat.pow_succ] at h4
  have h5 : n / 256 ^ m < 256 := by rw [Nat.div_lt_iff_lt_mul (by exact Nat.pos_of_ne_zero (by simp))]; rw [Nat.mul_comm]; exact h4
  have h6 : 0 < n / 256 ^ m := Nat.div_pos h3 (Nat.pos_of_ne_zero (by simp))
  omega

end Go.Proofs.YtlkgdpdnhnakoaaGreatDoor
