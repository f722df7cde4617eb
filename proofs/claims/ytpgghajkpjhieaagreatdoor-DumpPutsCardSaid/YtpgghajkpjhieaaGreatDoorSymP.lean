/- The stable sort: merges, insertion, in plain Lean; no program in sight. -/
import Derived.Test.YtpgghajkpjhieaaGreatDoorBase
import Derived.Sort.WalkA
namespace Go.Proofs.YtpgghajkpjhieaaGreatDoor
open Go.Sort
variable {α : Type}

/-- The stable merge: of equals the left one first. -/
def mrg (lt : α → α → Bool) : List α → List α → List α
  | [], ys => ys
  | xs, [] => xs
  | x :: xs, y :: ys => if lt y x then y :: mrg lt (x :: xs) ys else x :: mrg lt xs (y :: ys)
termination_by xs ys => xs.length + ys.length

theorem mrg_nil (lt : α → α → Bool) (xs : List α) : mrg lt xs [] = xs := by cases xs <;> simp [mrg]
theorem nil_mrg (lt : α → α → Bool) (xs : List α) : mrg lt [] xs = xs := by simp [mrg]

/-- Sorted: none stands ahead of one that is less. -/
def Srt (lt : α → α → Bool) (l : List α) : Prop := l.Pairwise fun x y => lt y x = false

structure Wk (lt : α → α → Bool) : Prop where
  asym : ∀ x y, lt x y = true → lt y x = false
  neg : ∀ x y z, lt x y = false → lt y z = false → lt x z = false

theorem Wk.lt_le {lt : α → α → Bool} (W : Wk lt) {x y z : α} (h1 : lt x y = true) (h2 : lt z y = false) : lt x z = true := by
  cases h : lt x z
  · have := W.neg x z y h h2; rw [h1] at this; cases this
  · rfl
theorem Wk.le_lt {lt : α → α → Bool} (W : Wk lt) {x y z : α} (h1 : lt y x = false) (h2 : lt y z = true) : lt x z = true := by
  cases h : lt x z
  · have := W.neg y x z h1 h; rw [h2] at this; cases this
  · rfl

/-- A1 is ahead of B2, and B1 of A2: the merge goes in two parts. -/
theorem mrg_parts {lt : α → α → Bool} : ∀ (n : Nat) (A1 B1 A2 B2 : List α), A1.length + B1.length ≤ n →
    (∀ x ∈ A1, ∀ y ∈ B2, lt y x = false) → (∀ y ∈ B1, ∀ x ∈ A2, lt y x = true) → mrg lt (A1 ++ A2) (B1 ++ B2) = mrg lt A1 B1 ++ mrg lt A2 B2 := by
  intro n
  induction n with
  | zero =>
    intro A1 B1 A2 B2 h _ _
    have h1 : A1 = [] := List.eq_nil_of_length_eq_zero (by omega)
    have h2 : B1 = [] := List.eq_nil_of_length_eq_zero (by omega)
    subst h1 h2
    simp [mrg]
  | succ n ih =>
    intro A1 B1 A2 B2 h hA hB
    match A1, B1 with
    | [], [] => simp [mrg]
    | [], y :: B1 =>
      have r := ih [] B1 A2 B2 (by simp at h ⊢; omega) hA (fun z hz => hB z (List.mem_cons_of_mem _ hz))
      simp only [List.nil_append, nil_mrg] at r ⊢
      match A2 with
      | [] => simp [nil_mrg]
      | x :: A2 =>
        have := hB y (by simp) x (by simp)
        rw [List.cons_append, mrg, if_pos this, r]; rfl
    | x :: A1, [] =>
      have r := ih A1 [] A2 B2 (by simp at h ⊢; omega) (fun z hz => hA z (List.mem_cons_of_mem _ hz)) hB
      simp only [List.nil_append, mrg_nil] at r ⊢
      match B2 with
      | [] => simp [mrg_nil]
      | y :: B2 =>
        have := hA x (by simp) y (by simp)
        rw [List.cons_append, mrg, if_neg (by rw [this]; decide), r]; rfl
    | x :: A1, y :: B1 =>
      rw [List.cons_append, List.cons_append, mrg, mrg]
      by_cases q : lt y x = true
      · have r := ih (x :: A1) B1 A2 B2 (by simp at h ⊢; omega) hA (fun z hz => hB z (List.mem_cons_of_mem _ hz))
        rw [if_pos q, if_pos q, ← List.cons_append, r]; rfl
      · have r := ih A1 (y :: B1) A2 B2 (by simp at h ⊢; omega) (fun z hz => hA z (List.mem_cons_of_mem _ hz)) hB
        rw [if_neg q, if_neg q, ← List.cons_append, r]; rfl
theorem mrg_one_left {lt : α → α → Bool} (x : α) (B1 B2 : List α) (h1 : ∀ y ∈ B1, lt y x = true) (h2 : ∀ y ∈ B2, lt y x = false) : mrg lt [x] (B1 ++ B2) = B1 ++ x :: B2 := by
  have := mrg_parts (lt := lt) (B1.length) [] B1 [x] B2 (by simp) (by simp) (by simpa using h1)
  simp only [List.nil_append, nil_mrg] at this
  rw [this]
  match B2 with
  | [] => simp [mrg_nil]
  | y :: B2 => rw [mrg, if_neg (by rw [h2 y (by simp)]; decide), nil_mrg]
theorem mrg_one_right {lt : α → α → Bool} (y : α) (A1 A2 : List α) (h1 : ∀ x ∈ A1, lt y x = false) (h2 : ∀ x ∈ A2, lt y x = true) : mrg lt (A1 ++ A2) [y] = A1 ++ y :: A2 := by
  have := mrg_parts (lt := lt) (A1.length) A1 [] A2 [y] (by simp) (by simpa using h1) (by simp)
  simp only [List.nil_append, mrg_nil] at this
  rw [this]
  match A2 with
  | [] => simp [nil_mrg]
  | x :: A2 => rw [mrg, if_pos (h2 x (by simp)), mrg_nil]
theorem mem_mrg {lt : α → α → Bool} (z : α) : ∀ (n : Nat) (A B : List α), A.length + B.length ≤ n → (z ∈ mrg lt A B ↔ z ∈ A ∨ z ∈ B)
  | n, [], B, _ => by simp [nil_mrg]
  | n, x :: A, [], _ => by simp [mrg_nil]
  | 0, x :: A, y :: B, h => by simp at h
  | n + 1, x :: A, y :: B, h => by
    rw [mrg]
    split
    · rw [List.mem_cons, mem_mrg z n (x :: A) B (by simp at h ⊢; omega)]; simp only [List.mem_cons]; grind
    · rw [List.mem_cons, mem_mrg z n A (y :: B) (by simp at h ⊢; omega)]; simp only [List.mem_cons]; grind
theorem len_mrg {lt : α → α → Bool} : ∀ (n : Nat) (A B : List α), A.length + B.length ≤ n → (mrg lt A B).length = A.length + B.length
  | n, [], B, _ => by simp [nil_mrg]
  | n, x :: A, [], _ => by simp [mrg_nil]
  | 0, x :: A, y :: B, h => by simp at h
  | n + 1, x :: A, y :: B, h => by
    rw [mrg]
    split
    · rw [List.length_cons, len_mrg n (x :: A) B (by simp at h ⊢; omega)]; simp; omega
    · rw [List.length_cons, len_mrg n A (y :: B) (by simp at h ⊢; omega)]; simp; omega
theorem srt_mrg {lt : α → α → Bool} (W : Wk lt) : ∀ (n : Nat) (A B : List α), A.length + B.length ≤ n → Srt lt A → Srt lt B → Srt lt (mrg lt A B)
  | n, [], B, _, _, hB => by rw [nil_mrg]; exact hB
  | n, x :: A, [], _, hA, _ => by rw [mrg_nil]; exact hA
  | 0, x :: A, y :: B, h, _, _ => by simp at h
  | n + 1, x :: A, y :: B, h, hA, hB => by
    have hA' := List.pairwise_cons.1 hA
    have hB' := List.pairwise_cons.1 hB
    rw [mrg]
    by_cases q : lt y x = true
    · rw [if_pos q]
      refine List.pairwise_cons.2 ⟨fun z hz => ?_, srt_mrg W n (x :: A) B (by simp at h ⊢; omega) hA hB'.2⟩
      rcases (mem_mrg z _ _ _ (Nat.le_refl _)).1 hz with hz | hz
      · rcases List.mem_cons.1 hz with rfl | hz
        · exact W.asym _ _ q
        · exact W.neg _ _ _ (hA'.1 z hz) (W.asym _ _ q)
      · exact hB'.1 z hz
    · rw [if_neg q]
      have q' : lt y x = false := by simpa using q
      refine List.pairwise_cons.2 ⟨fun z hz => ?_, srt_mrg W n A (y :: B) (by simp at h ⊢; omega) hA'.2 hB⟩
      rcases (mem_mrg z _ _ _ (Nat.le_refl _)).1 hz with hz | hz
      · exact hA'.1 z hz
      · rcases List.mem_cons.1 hz with rfl | hz
        · exact q'
        · exact W.neg _ _ _ (hB'.1 z hz) q'
/-- Sorted, and of equals the first one first. -/
def stb (lt : α → α → Bool) : List α → List α
  | [] => []
  | x :: l => mrg lt [x] (stb lt l)
theorem mrg_assoc {lt : α → α → Bool} (W : Wk lt) : ∀ (n : Nat) (A B C : List α), A.length + B.length + C.length ≤ n → Srt lt A → Srt lt B → Srt lt C → mrg lt (mrg lt A B) C = mrg lt A (mrg lt B C)
  | n, [], B, C, _, _, _, _ => by simp [nil_mrg]
  | n, x :: A, [], C, _, _, _, _ => by simp [nil_mrg, mrg_nil]
  | n, x :: A, y :: B, [], _, _, _, _ => by simp [mrg_nil]
  | 0, x :: A, y :: B, z :: C, h, _, _, _ => by simp at h
  | n + 1, x :: A, y :: B, z :: C, h, hA, hB, hC => by
    have hA' := List.pairwise_cons.1 hA
    have hB' := List.pairwise_cons.1 hB
    have hC' := List.pairwise_cons.1 hC
    simp only [List.length_cons] at h
    by_cases q1 : lt y x = true
    · -- y ahead of x
      rw [show mrg lt (x :: A) (y :: B) = y :: mrg lt (x :: A) B by rw [mrg, if_pos q1]]
      by_cases q2 : lt z y = true
      · have r := mrg_assoc W n (x :: A) (y :: B) C (by simp; omega) hA hB hC'.2
        rw [mrg, if_pos q2, show mrg lt (y :: B) (z :: C) = z :: mrg lt (y :: B) C by rw [mrg, if_pos q2]]
        have q3 : lt z x = true := W.le_lt (W.asym _ _ q2) q1 |> fun _ => by
          cases h3 : lt z x
          · have := W.neg z x y h3 (W.asym _ _ q1); rw [q2] at this; cases this
          · rfl
        rw [mrg, if_pos q3, ← r, show mrg lt (x :: A) (y :: B) = y :: mrg lt (x :: A) B by rw [mrg, if_pos q1]]
      · have r := mrg_assoc W n (x :: A) B (z :: C) (by simp; omega) hA hB'.2 hC
        rw [mrg, if_neg q2, r, show mrg lt (y :: B) (z :: C) = y :: mrg lt B (z :: C) by rw [mrg, if_neg q2], show mrg lt (x :: A) (y :: mrg lt B (z :: C)) = y :: mrg lt (x :: A) (mrg lt B (z :: C)) by rw [mrg, if_pos q1]]
    · rw [show mrg lt (x :: A) (y :: B) = x :: mrg lt A (y :: B) by rw [mrg, if_neg q1]]
      have q1' : lt y x = false := by simpa using q1
      by_cases q3 : lt z x = true
      · have q2 : lt z y = true := by
          cases h3 : lt z y
          · have := W.neg z y x h3 q1'; rw [q3] at this; cases this
          · rfl
        have r := mrg_assoc W n (x :: A) (y :: B) C (by simp; omega) hA hB hC'.2
        rw [mrg, if_pos q3, show mrg lt (y :: B) (z :: C) = z :: mrg lt (y :: B) C by rw [mrg, if_pos q2], show mrg lt (x :: A) (z :: mrg lt (y :: B) C) = z :: mrg lt (x :: A) (mrg lt (y :: B) C) by rw [mrg, if_pos q3], ← r, show mrg lt (x :: A) (y :: B) = x :: mrg lt A (y :: B) by rw [mrg, if_neg q1]]
      · have r := mrg_assoc W n A (y :: B) (z :: C) (by simp; omega) hA'.2 hB hC
        rw [mrg, if_neg q3, r]
        by_cases q2 : lt z y = true
        · rw [show mrg lt (y :: B) (z :: C) = z :: mrg lt (y :: B) C by rw [mrg, if_pos q2], show mrg lt (x :: A) (z :: mrg lt (y :: B) C) = x :: mrg lt A (z :: mrg lt (y :: B) C) by rw [mrg, if_neg q3]]
        · rw [show mrg lt (y :: B) (z :: C) = y :: mrg lt B (z :: C) by rw [mrg, if_neg q2], show mrg lt (x :: A) (y :: mrg lt B (z :: C)) = x :: mrg lt A (y :: mrg lt B (z :: C)) by rw [mrg, if_neg q1]]
theorem srt_stb {lt : α → α → Bool} (W : Wk lt) : ∀ l : List α, Srt lt (stb lt l)
  | [] => List.Pairwise.nil
  | _ :: l => srt_mrg W _ _ _ (Nat.le_refl _) (List.pairwise_singleton _ _) (srt_stb W l)
theorem stb_app {lt : α → α → Bool} (W : Wk lt) : ∀ A B : List α, stb lt (A ++ B) = mrg lt (stb lt A) (stb lt B)
  | [], B => by simp [stb, nil_mrg]
  | x :: A, B => by rw [List.cons_append, stb, stb_app W A B, stb, mrg_assoc W _ _ _ _ (Nat.le_refl _) (List.pairwise_singleton _ _) (srt_stb W A) (srt_stb W B)]
theorem stb_one (lt : α → α → Bool) (x : α) : stb lt [x] = [x] := by simp [stb, mrg_nil]

theorem mrg_left {lt : α → α → Bool} (A B : List α) (h : ∀ x ∈ A, ∀ y ∈ B, lt y x = false) : mrg lt A B = A ++ B := by
  have := mrg_parts (lt := lt) A.length A [] [] B (by simp) h (by simp)
  simpa [mrg_nil, nil_mrg] using this
section
variable [Inhabited α]
theorem get_at {d : Array α} {L1 L2 : List α} {x : α} {i : Nat} (h : d.toList = L1 ++ x :: L2) (hi : L1.length = i) : i < d.size ∧ d[i]! = x := by
  have h2 : d.toList[i]? = some x := by rw [h, List.getElem?_append_right (by omega), hi]; simp
  rw [Array.getElem?_toList] at h2
  obtain ⟨hlt, e⟩ := Array.getElem?_eq_some_iff.1 h2
  exact ⟨hlt, by rw [getElem!_pos d i hlt]; exact e⟩
theorem swp_list {d : Array α} {L1 L2 L3 : List α} {x y : α} {i j : Nat} (h : d.toList = L1 ++ x :: (L2 ++ y :: L3)) (hi : L1.length = i) (hj : L1.length + 1 + L2.length = j) : (swp d i j).toList = L1 ++ y :: (L2 ++ x :: L3) := by
  obtain ⟨_, e1⟩ := get_at h hi
  obtain ⟨_, e2⟩ := get_at (L1 := L1 ++ x :: L2) (L2 := L3) (x := y) (i := j) (by rw [h]; simp) (by simp; omega)
  unfold swp
  rw [e1, e2]
  simp only [Array.toList_setIfInBounds]
  rw [h, List.set_append_right _ _ (by omega), show i - L1.length = 0 by omega, List.set_cons_zero, List.set_append_right _ _ (by omega), show j - L1.length = L2.length + 1 by omega, List.set_cons_succ, List.set_append_right _ _ (by omega), show L2.length - L2.length = 0 by omega, List.set_cons_zero]
theorem swp_list' {d : Array α} {L1 L2 L3 : List α} {x y : α} {i j : Nat} (h : d.toList = L1 ++ x :: (L2 ++ y :: L3)) (hi : L1.length = i) (hj : L1.length + 1 + L2.length = j) : (swp d j i).toList = L1 ++ y :: (L2 ++ x :: L3) := by
  obtain ⟨_, e1⟩ := get_at h hi
  obtain ⟨_, e2⟩ := get_at (L1 := L1 ++ x :: L2) (L2 := L3) (x := y) (i := j) (by rw [h]; simp) (by simp; omega)
  unfold swp
  rw [e1, e2]
  simp only [Array.toList_setIfInBounds]
  rw [h, List.set_append_right _ _ (by omega), show j - L1.length = L2.length + 1 by omega, List.set_cons_succ, List.set_append_right _ _ (by omega), show i - L1.length = 0 by omega, List.set_cons_zero, List.set_append_right _ _ (by omega), show L2.length - L2.length = 0 by omega, List.set_cons_zero]
theorem insInner_list {lt : α → α → Bool} (W : Wk lt) (P : List α) : ∀ (n : Nat) (M : List α) (x : α) (S : List α) (d : Array α), M.length = n → Srt lt M → d.toList = P ++ (M ++ x :: S) →
    (insInner lt P.length (P.length + n) d).toList = P ++ (mrg lt M [x] ++ S) := by
  intro n
  induction n with
  | zero =>
    intro M x S d hM _ hd
    have : M = [] := List.eq_nil_of_length_eq_zero hM
    subst this
    rw [insInner_stop _ _ _ _ (.inl (by omega)), hd]; simp [nil_mrg]
  | succ n ih =>
    intro M x S d hM hs hd
    obtain ⟨M', y, rfl⟩ : ∃ M' y, M = M' ++ [y] := ⟨M.dropLast, M.getLast (by intro q; rw [q] at hM; cases hM), (List.dropLast_concat_getLast _).symm⟩
    simp at hM
    have hs' := List.pairwise_append.1 hs
    have hd1 : d.toList = (P ++ M') ++ y :: ([] ++ x :: S) := by rw [hd]; simp
    obtain ⟨_, e1⟩ := get_at hd1 (i := P.length + n) (by simp; omega)
    obtain ⟨_, e2⟩ := get_at (d := d) (L1 := P ++ M' ++ [y]) (L2 := S) (x := x) (i := P.length + (n + 1)) (by rw [hd]; simp) (by simp; omega)
    by_cases q : lt x y = true
    · rw [insInner_go _ _ _ _ (by omega) (by rw [e2, show P.length + (n + 1) - 1 = P.length + n by omega, e1]; exact q), show P.length + (n + 1) - 1 = P.length + n by omega]
      have hd2 := swp_list' hd1 (i := P.length + n) (j := P.length + (n + 1)) (by simp; omega) (by simp; omega)
      rw [ih M' x (y :: S) _ (by omega) hs'.1 (by rw [hd2]; simp)]
      have := mrg_parts (lt := lt) _ M' [x] [y] [] (Nat.le_refl _) (by simp) (by intro a ha b hb; simp at ha hb; subst ha hb; exact q)
      simp only [List.append_nil, mrg_nil] at this
      rw [this]; simp
    · rw [insInner_stop _ _ _ _ (.inr (by rw [e2, show P.length + (n + 1) - 1 = P.length + n by omega, e1]; simpa using q)), hd]
      rw [mrg_left _ _ (by
        intro z hz b hb
        simp at hb; subst hb
        rcases List.mem_append.1 hz with hz | hz
        · exact W.neg _ _ _ (by simpa using q) (hs'.2.2 z hz y (by simp))
        · simp at hz; subst hz; simpa using q)]
      simp
theorem insOuter_list {lt : α → α → Bool} (W : Wk lt) (P S : List α) (b : Nat) : ∀ (n : Nat) (M1 M2 : List α) (d : Array α), M2.length = n → b = P.length + M1.length + n → d.toList = P ++ (stb lt M1 ++ (M2 ++ S)) → (stb lt M1).length = M1.length →
    (insOuter lt P.length b (P.length + M1.length) d).toList = P ++ (stb lt (M1 ++ M2) ++ S) := by
  intro n
  induction n with
  | zero =>
    intro M1 M2 d hM hb hd _
    have : M2 = [] := List.eq_nil_of_length_eq_zero hM
    subst this
    rw [insOuter_stop _ _ _ _ _ (by omega), hd]; simp
  | succ n ih =>
    intro M1 M2 d hM hb hd hl
    match M2 with
    | x :: M2 =>
      simp at hM
      rw [insOuter_go _ _ _ _ _ (by omega)]
      have hi := insInner_list W P (M1.length) (stb lt M1) x (M2 ++ S) d hl (srt_stb W _) (by rw [hd]; simp)
      have e : stb lt (M1 ++ [x]) = mrg lt (stb lt M1) [x] := by rw [stb_app W, stb_one]
      have := ih (M1 ++ [x]) M2 _ hM (by simp; omega) (by rw [hi, e]) (by rw [e, len_mrg _ _ _ (Nat.le_refl _)]; simp [hl])
      simp at this
      rw [show P.length + M1.length + 1 = P.length + (M1.length + 1) by omega, this]
omit [Inhabited α] in
theorem len_stb (lt : α → α → Bool) : ∀ l : List α, (stb lt l).length = l.length
  | [] => rfl
  | x :: l => by rw [stb, len_mrg _ _ _ (Nat.le_refl _), len_stb lt l]; simp; omega
theorem insertion_list {lt : α → α → Bool} (W : Wk lt) (P M S : List α) (d : Array α) (hd : d.toList = P ++ (M ++ S)) :
    (insertionSort lt d P.length (P.length + M.length)).toList = P ++ (stb lt M ++ S) := by
  unfold insertionSort
  match M with
  | [] => rw [insOuter_stop _ _ _ _ _ (by simp)]; simpa [stb] using hd
  | x :: M =>
    have := insOuter_list W P S (P.length + (x :: M).length) M.length [x] M d rfl (by simp; omega) (by rw [hd, stb_one]; simp) (by rw [stb_one])
    simpa using this
omit [Inhabited α] in
theorem mem_stb {lt : α → α → Bool} (z : α) : ∀ l : List α, z ∈ stb lt l ↔ z ∈ l
  | [] => by simp [stb]
  | x :: l => by rw [stb, mem_mrg z _ _ _ (Nat.le_refl _), mem_stb z l]; simp
end
end Go.Proofs.YtpgghajkpjhieaaGreatDoor
