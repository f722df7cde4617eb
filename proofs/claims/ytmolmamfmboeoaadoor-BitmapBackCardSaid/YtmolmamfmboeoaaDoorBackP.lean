/- Bytes more, or less, than a map's are none; what is in a mix; no program in sight. -/
import Derived.Test.YtmolmamfmboeoaaDoorGetP
import Derived.Test.YtmolmamfmboeoaaDoorBm10
import Derived.Test.YtmolmamfmboeoaaDoorFind
namespace Go.Proofs.YtmolmamfmboeoaaDoor

theorem rle_sum (o : Bool) (r : Nat) (l : List Bool) : (rle o r l).sum = r + l.length := by
  induction l generalizing o r with
  | nil => unfold rle; split <;> simp; omega
  | cons b bs ih =>
    unfold rle
    split
    · rw [ih]; simp; omega
    · rw [List.sum_cons, ih]; simp; omega
theorem rle_pos (bs : List Bool) : ∀ (o : Bool) (r : Nat), 0 < r → rle o r bs ≠ [] := by
  induction bs with
  | nil => intro o r hr; unfold rle; rw [if_neg (by omega)]; simp
  | cons b bs ih => intro o r hr; unfold rle; split; exact ih _ _ (by omega); simp
theorem rle_last (o : Bool) (r : Nat) (l : List Bool) (x : List Nat) : rle o r l ≠ x ++ [0] := by
  induction l generalizing o r x with
  | nil =>
    unfold rle
    split
    · simp
    · cases x with
      | nil => simp; omega
      | cons y x => simp
  | cons b bs ih =>
    unfold rle
    split
    · exact ih _ _ _
    · cases x with
      | nil =>
        intro h
        simp only [List.nil_append, List.cons.injEq] at h
        exact rle_pos bs _ 1 (by omega) h.2
      | cons y x =>
        intro h
        simp only [List.cons_append, List.cons.injEq] at h
        exact ih _ _ _ h.2

/-- What begins with runs. -/
theorem putRuns_pre (l2 : List Nat) : ∀ (l1 r : List Nat), (∀ x ∈ l1, x ≤ 4096) → (∀ x ∈ l2, x ≤ 4096) → putRuns l1 = putRuns l2 ++ r → ∃ l3, l1 = l2 ++ l3 ∧ putRuns l3 = r := by
  induction l2 with
  | nil => intro l1 r _ _ h; exact ⟨l1, rfl, by simpa [putRuns] using h⟩
  | cons a l2 ih =>
    intro l1 r h1 h2 h
    cases l1 with
    | nil =>
      have := congrArg List.length h
      rw [putRuns_cons] at this
      have hp := putSmall_pos a
      simp [putRuns] at this
      omega
    | cons b l1 =>
      rw [putRuns_cons, putRuns_cons, List.append_assoc] at h
      have e1 := rdSmall_put b (by have := h1 b (by simp); omega) (putRuns l1)
      have e2 := rdSmall_put a (by have := h2 a (by simp); omega) (putRuns l2 ++ r)
      rw [h, e2] at e1
      simp only [Prod.mk.injEq, true_and] at e1
      obtain ⟨l3, e3, e4⟩ := ih l1 r (fun x hx => h1 x (by simp [hx])) (fun x hx => h2 x (by simp [hx])) e1.1.symm
      exact ⟨l3, by rw [e1.2, e3]; rfl, e4⟩

theorem runs_le4 {s : Nat} {ws : List Nat} (hm : mapOK (s : Nat) ws = true) : ∀ x ∈ runsL s ws, x ≤ 4096 := by
  intro x hx
  have := runsL_le s ws x hx
  have := mapOK_pos hm
  omega
theorem putMap_pre {s t : Nat} {ws us r : List Nat} (h1 : mapOK (s : Nat) ws = true) (h2 : mapOK (t : Nat) us = true) (h : putMap s ws = putMap t us ++ r) : s = t ∧ ∃ l3, runsL s ws = runsL t us ++ l3 ∧ putRuns l3 = r ∧ l3.sum = 0 := by
  have p1 := mapOK_pos h1
  have p2 := mapOK_pos h2
  unfold putMap at h
  rw [List.append_assoc] at h
  have e1 := rdSmall_put s (by omega) (putRuns (runsL s ws))
  have e2 := rdSmall_put t (by omega) (putRuns (runsL t us) ++ r)
  rw [h, e2] at e1
  simp only [Prod.mk.injEq, true_and] at e1
  obtain ⟨l3, e3, e4⟩ := putRuns_pre (runsL t us) (runsL s ws) r (runs_le4 h1) (runs_le4 h2) e1.1.symm
  have es := congrArg List.sum e3
  rw [List.sum_append] at es
  unfold runsL at es
  rw [rle_sum, rle_sum, bitsL_len, bitsL_len] at es
  have e12 := e1.2
  exact ⟨e12.symm, l3, e3, e4, by omega⟩

theorem got_more {s : Nat} {ws : List Nat} (hm : mapOK (s : Nat) ws = true) : GetSpec (putMap s ws ++ [1, 1]) none := by
  intro s0 ws0 _ hm0 e
  obtain ⟨_, l3, _, e4, e5⟩ := putMap_pre hm0 hm e
  cases l3 with
  | nil => simp [putRuns] at e4
  | cons a l3 =>
    have ha : a = 0 := by rw [List.sum_cons] at e5; omega
    subst ha
    rw [putRuns_cons, show putSmall 0 = [0] from by decide] at e4
    simp at e4
theorem got_less {s : Nat} {ws : List Nat} (hm : mapOK (s : Nat) ws = true) : GetSpec ((putMap s ws).take ((putMap s ws).length - 1)) none := by
  intro s0 ws0 _ hm0 e
  have hp : 1 ≤ (putMap s ws).length := by unfold putMap; have := putSmall_pos s; rw [List.length_append]; omega
  have hd : putMap s ws = putMap s0 ws0 ++ (putMap s ws).drop ((putMap s ws).length - 1) := by rw [e]; exact (List.take_append_drop _ _).symm
  have hl : ((putMap s ws).drop ((putMap s ws).length - 1)).length = 1 := by rw [List.length_drop]; omega
  generalize (putMap s ws).drop ((putMap s ws).length - 1) = r at hd hl
  obtain ⟨_, l3, e3, e4, e5⟩ := putMap_pre hm hm0 hd
  cases l3 with
  | nil => rw [← e4] at hl; simp [putRuns] at hl
  | cons a l3 =>
    have ha : a = 0 := by rw [List.sum_cons] at e5; omega
    subst ha
    rw [← e4, putRuns_cons, List.length_append] at hl
    have := putSmall_pos 0
    have h3 : l3 = [] := putRuns_nil (List.eq_nil_of_length_eq_zero (by omega))
    subst h3
    exact rle_last _ _ _ _ e3

/-- Mixes of two maps of one size. -/
theorem mixS_one {s : Nat} {xs ys : List Nat} (h1 : mapOK (s : Nat) xs = true) (h2 : mapOK (s : Nat) ys = true) : mixS s s xs ys = s := by simp [mixS, h1, h2]
theorem mixW_one (op : Nat → Nat → Nat) {s : Nat} {xs ys : List Nat} (h1 : mapOK (s : Nat) xs = true) (h2 : mapOK (s : Nat) ys = true) : mixW op s s xs ys = mixK op xs ys ((s + 63) / 64) ((s + 63) / 64) := by simp [mixW, h1, h2]

theorem mor_bit (xs ys : List Nat) (L j : Nat) (hj : j < 64 * L) : bitN (mixK (· ||| ·) xs ys L L) j = (bitN xs j || bitN ys j) := by
  rw [mixK_bit _ _ _ _ _ hj, Nat.testBit_or]; rfl
theorem mand_bit (xs ys : List Nat) (L j : Nat) (hj : j < 64 * L) : bitN (mixK (· &&& ·) xs ys L L) j = (bitN xs j && bitN ys j) := by
  rw [mixK_bit _ _ _ _ _ hj, Nat.testBit_and]; rfl
theorem or_words {xs ys : List Nat} (hx : Words xs) (hy : Words ys) (L : Nat) : Words (mixK (· ||| ·) xs ys L L) := by
  rw [← combN_false]; exact mixK_words false hx hy L
theorem and_words {xs ys : List Nat} (hx : Words xs) (hy : Words ys) (L : Nat) : Words (mixK (· &&& ·) xs ys L L) := by
  rw [← combN_true]; exact mixK_words true hx hy L
theorem or_ok {s : Nat} {xs ys : List Nat} (hx : Words xs) (hy : Words ys) (h1 : mapOK (s : Nat) xs = true) (h2 : mapOK (s : Nat) ys = true) : mapOK (s : Nat) (mixK (· ||| ·) xs ys ((s + 63) / 64) ((s + 63) / 64)) = true := by
  have k1 := (mapOK_iff hx).1 h1
  have k2 := (mapOK_iff hy).1 h2
  refine (mapOK_iff (or_words hx hy _)).2 ⟨k1.1, mixK_len _ _ _ _ _, fun n h3 h4 => ?_⟩
  rw [mixK_len] at h4
  rw [mor_bit _ _ _ _ h4, k1.2.2 n h3 (by rw [k1.2.1]; exact h4), k2.2.2 n h3 (by rw [k2.2.1]; exact h4)]; rfl
theorem and_ok {s : Nat} {xs ys : List Nat} (hx : Words xs) (hy : Words ys) (h1 : mapOK (s : Nat) xs = true) (h2 : mapOK (s : Nat) ys = true) : mapOK (s : Nat) (mixK (· &&& ·) xs ys ((s + 63) / 64) ((s + 63) / 64)) = true := by
  have k1 := (mapOK_iff hx).1 h1
  have k2 := (mapOK_iff hy).1 h2
  refine (mapOK_iff (and_words hx hy _)).2 ⟨k1.1, mixK_len _ _ _ _ _, fun n h3 h4 => ?_⟩
  rw [mixK_len] at h4
  rw [mand_bit _ _ _ _ h4, k1.2.2 n h3 (by rw [k1.2.1]; exact h4)]; rfl
theorem and_or {s : Nat} {xs ys : List Nat} (hx : Words xs) (hy : Words ys) (h1 : mapOK (s : Nat) xs = true) : mixK (· &&& ·) (mixK (· ||| ·) xs ys ((s + 63) / 64) ((s + 63) / 64)) xs ((s + 63) / 64) ((s + 63) / 64) = xs := by
  have k1 := (mapOK_iff hx).1 h1
  apply words_ext (and_words (or_words hx hy _) hx _) hx (by rw [mixK_len, k1.2.1])
  intro j hj
  rw [mixK_len] at hj
  rw [mand_bit _ _ _ _ hj, mor_bit _ _ _ _ hj]
  cases bitN xs j <;> cases bitN ys j <;> rfl
theorem or_and {s : Nat} {xs ys : List Nat} (hx : Words xs) (hy : Words ys) (h1 : mapOK (s : Nat) xs = true) : mixK (· ||| ·) (mixK (· &&& ·) xs ys ((s + 63) / 64) ((s + 63) / 64)) xs ((s + 63) / 64) ((s + 63) / 64) = xs := by
  have k1 := (mapOK_iff hx).1 h1
  apply words_ext (or_words (and_words hx hy _) hx _) hx (by rw [mixK_len, k1.2.1])
  intro j hj
  rw [mixK_len] at hj
  rw [mor_bit _ _ _ _ hj, mand_bit _ _ _ _ hj]
  cases bitN xs j <;> cases bitN ys j <;> rfl
theorem cnt_mix (xs ys : List Nat) (L n : Nat) (hn : n ≤ 64 * L) : cnt (mixK (· ||| ·) xs ys L L) n + cnt (mixK (· &&& ·) xs ys L L) n = cnt xs n + cnt ys n := by
  induction n with
  | zero => rfl
  | succ n ih =>
    have := ih (by omega)
    simp only [cnt]
    rw [mor_bit _ _ _ _ (by omega), mand_bit _ _ _ _ (by omega)]
    cases bitN xs n <;> cases bitN ys n <;> simp <;> omega

end Go.Proofs.YtmolmamfmboeoaaDoor
