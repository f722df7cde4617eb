/- Runs of what is not in and what is in, in turns; a map's bytes; no program in sight. -/
import Derived.Test.YtmiglhlbhbfodaaGreatDoorMix
import Derived.Test.YtmiglhlbhbfodaaGreatDoorNum
namespace Go.Proofs.YtmiglhlbhbfodaaGreatDoor

/-- The runs' lengths, r of them counted already. -/
def rle (on : Bool) (r : Nat) : List Bool → List Nat
  | [] => if r = 0 then [] else [r]
  | b :: bs => if b = on then rle on (r + 1) bs else r :: rle (!on) 1 bs
def bitsL (s : Nat) (ws : List Nat) : List Bool := (List.range s).map (bitN ws)
theorem bitsL_len (s : Nat) (ws : List Nat) : (bitsL s ws).length = s := by simp [bitsL]
theorem bitsL_at (s : Nat) (ws : List Nat) (j : Nat) (h : j < s) : (bitsL s ws)[j]? = some (bitN ws j) := by simp [bitsL, h]
theorem bitsL_drop (s : Nat) (ws : List Nat) (j : Nat) (h : j < s) : (bitsL s ws).drop j = bitN ws j :: (bitsL s ws).drop (j + 1) := by
  rw [List.drop_eq_getElem_cons (by rw [bitsL_len]; exact h)]
  congr 1
  have := bitsL_at s ws j h
  rw [List.getElem?_eq_getElem (by rw [bitsL_len]; exact h)] at this
  exact Option.some.inj this

/-- A map's runs. -/
def runsL (s : Nat) (ws : List Nat) : List Nat := rle false 0 (bitsL s ws)
def putRuns (l : List Nat) : List Nat := l.flatMap putSmall
def putMap (s : Nat) (ws : List Nat) : List Nat := putSmall s ++ putRuns (runsL s ws)

theorem rle_run (on : Bool) (r : Nat) (s : Nat) (ws : List Nat) (f T : Nat) (hf : f ≤ T) (hT : T ≤ s) (h : ∀ j, f ≤ j → j < T → bitN ws j = on) :
    rle on r ((bitsL s ws).drop f) = rle on (r + (T - f)) ((bitsL s ws).drop T) := by
  induction hd : T - f generalizing f r with
  | zero =>
    have : f = T := by omega
    subst this
    rfl
  | succ d ih =>
    rw [bitsL_drop s ws f (by omega), rle, if_pos (h f (Nat.le_refl _) (by omega)), ih (r + 1) (f + 1) (by omega) (fun j h1 h2 => h j (by omega) h2) (by omega)]
    congr 1
    omega

theorem rle_step (on : Bool) (s : Nat) (ws : List Nat) (f T : Nat) (hf : f ≤ T) (hT : T ≤ s) (hfs : f < s) (h : ∀ j, f ≤ j → j < T → bitN ws j = on) (hb : T < s → bitN ws T = !on) :
    rle on 0 ((bitsL s ws).drop f) = (T - f) :: rle (!on) 0 ((bitsL s ws).drop T) := by
  rw [rle_run on 0 s ws f T hf hT h, Nat.zero_add]
  by_cases hs : T < s
  · have e : ¬ (!on) = on := by cases on <;> decide
    rw [bitsL_drop s ws T hs, hb hs, rle, if_neg e, rle, if_pos rfl]
  · have : T = s := by omega
    subst this
    rw [List.drop_of_length_le (by rw [bitsL_len]; exact Nat.le_refl _), rle, if_neg (by omega)]
    rfl

theorem rle_le (on : Bool) (r : Nat) (l : List Bool) : ∀ x ∈ rle on r l, x ≤ r + l.length := by
  induction l generalizing on r with
  | nil =>
    intro x hx
    unfold rle at hx
    split at hx
    · simp at hx
    · simp at hx; simp; omega
  | cons b bs ih =>
    intro x hx
    unfold rle at hx
    split at hx
    · have := ih _ _ x hx; simp; omega
    · rcases List.mem_cons.1 hx with h | h
      · subst h; simp
      · have := ih _ _ x h; simp; omega
theorem rle_length (on : Bool) (r : Nat) (l : List Bool) : (rle on r l).length ≤ l.length + 1 := by
  induction l generalizing on r with
  | nil => unfold rle; split <;> simp
  | cons b bs ih =>
    unfold rle
    split
    · have := ih on (r + 1); simp; omega
    · have := ih (!on) 1; simp; omega
theorem runsL_le (s : Nat) (ws : List Nat) : ∀ x ∈ runsL s ws, x ≤ s := by
  intro x hx
  have := rle_le _ _ _ x hx
  rw [bitsL_len] at this
  omega
theorem runsL_len (s : Nat) (ws : List Nat) : (runsL s ws).length ≤ s + 1 := by
  have := rle_length false 0 (bitsL s ws)
  rw [bitsL_len] at this
  exact this
theorem putSmall_len (n : Nat) : (putSmall n).length ≤ 9 := by
  have := wid_le n
  simp [putSmall, be_length]; omega
theorem putSmall_pos (n : Nat) : 1 ≤ (putSmall n).length := by simp [putSmall]
theorem putSmall_bytes (n : Nat) : ∀ x ∈ putSmall n, x < 256 := by
  intro x hx
  rcases List.mem_cons.1 hx with h | h
  · have := wid_le n; omega
  · exact be_byte _ _ x h
theorem putRuns_len (l : List Nat) : (putRuns l).length ≤ 9 * l.length := by
  induction l with
  | nil => simp [putRuns]
  | cons a l ih =>
    have := putSmall_len a
    simp only [putRuns, List.flatMap_cons, List.length_append, List.length_cons] at ih ⊢
    omega
theorem putRuns_snoc (l : List Nat) (x : Nat) : putRuns (l ++ [x]) = putRuns l ++ putSmall x := by simp [putRuns]
theorem putRuns_cons (l : List Nat) (x : Nat) : putRuns (x :: l) = putSmall x ++ putRuns l := by simp [putRuns]
theorem putRuns_bytes (l : List Nat) : ∀ x ∈ putRuns l, x < 256 := by
  intro x hx
  obtain ⟨a, _, h⟩ := List.mem_flatMap.1 hx
  exact putSmall_bytes a x h

end Go.Proofs.YtmiglhlbhbfodaaGreatDoor
