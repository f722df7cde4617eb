/- The document's disk: with. -/
import Derived.Test.YtlmpkonfclnceaaRef3a
namespace Go.Proofs.Ytlmpkonfclnceaa
open Go.RowKit

theorem cells3_len (s : List Sec) : (cells3 s).length = s.length * 3 := by
  unfold cells3
  induction s with
  | nil => rfl
  | cons x s ih => rw [List.flatMap_cons, List.length_append, ih, List.length_cons]; simp; omega
theorem cells3_get (s : List Sec) : ∀ (n : Nat) (x : Sec), s[n]? = some x → ∀ j, j < 3 → (cells3 s)[n * 3 + j]? = ([.string (strN x.has), .string (strN x.safe), .bool x.waits] : List Value)[j]? := by
  induction s with
  | nil => intro n x hx; simp at hx
  | cons y s ih =>
    intro n x hx j hj
    unfold cells3
    rw [List.flatMap_cons]
    cases n with
    | zero =>
      simp at hx
      subst hx
      rw [Nat.zero_mul, Nat.zero_add, List.getElem?_append_left (by simpa using hj)]
    | succ n =>
      rw [List.getElem?_append_right (by simp; omega)]
      have := ih n x (by simpa using hx) j hj
      simp only [List.length_cons, List.length_nil]
      rw [show (n + 1) * 3 + j - (0 + 1 + 1 + 1) = n * 3 + j from by omega]
      exact this
theorem cells3_one (s : List Sec) : ∀ v ∈ cells3 s, v.oneCell' = true := by
  intro v hv
  obtain ⟨x, _, hx⟩ := List.mem_flatMap.1 hv
  simp at hx
  rcases hx with rfl | rfl | rfl <;> rfl
theorem secsAt_cells {w : World} {b off : Nat} {s : List Sec} (h : SecsAt w (some ⟨b, off, none⟩) s) : ∀ j u, (cells3 s)[j]? = some u → w.cell? ⟨b, off + j, none⟩ = some u := by
  intro j u hu
  have hj : j < s.length * 3 := by rw [← cells3_len]; exact (List.getElem?_eq_some_iff.1 hu).1
  rcases h with h | ⟨b', off', e, _, hc⟩
  · subst h; simp at hj
  · cases e
    have hn : j / 3 < s.length := by omega
    have hx := get_of hn
    have h3 := hc _ _ hx
    have e : j / 3 * 3 + j % 3 = j := by omega
    have hg := cells3_get s (j / 3) _ hx (j % 3) (by omega)
    rw [e, hu] at hg
    have hm : j % 3 = 0 ∨ j % 3 = 1 ∨ j % 3 = 2 := by omega
    rcases hm with q | q | q
    · rw [q] at hg
      rw [show off + j = off + j / 3 * 3 from by omega, h3.1]; exact hg.symm
    · rw [q] at hg
      rw [show off + j = off + j / 3 * 3 + 1 from by omega, h3.2.1]; exact hg.symm
    · rw [q] at hg
      rw [show off + j = off + j / 3 * 3 + 2 from by omega, h3.2.2]; exact hg.symm
theorem secsAt_of {w : World} {g : Nat} {cur : Array Value} {t : TypeId} {s : List Sec} (hb : Blk w g cur t) (h : cur.toList.take (s.length * 3) = cells3 s) : SecsAt w (some ⟨g, 0, none⟩) s := by
  refine .inr ⟨g, 0, rfl, hb.lt, fun i x hx => ?_⟩
  have hi := (List.getElem?_eq_some_iff.1 hx).1
  have key : ∀ j, j < 3 → w.cell? ⟨g, 0 + i * 3 + j, none⟩ = ([.string (strN x.has), .string (strN x.safe), .bool x.waits] : List Value)[j]? := by
    intro j hj
    rw [cell_blk hb, ← cells3_get s i x hx j hj, ← h, List.getElem?_take, if_pos (by omega), Nat.zero_add, Array.getElem?_toList]
  exact ⟨key 0 (by decide), key 1 (by decide), key 2 (by decide)⟩
/-- A sector laid into its three cells. -/
theorem cells3_set {cur : Array Value} {s : List Sec} {k : Nat} (hk : k < s.length) (x : Sec) (h : cur.toList.take (s.length * 3) = cells3 s) (hc : s.length * 3 ≤ cur.size) :
    (((cur.setIfInBounds (k * 3) (.string (strN x.has))).setIfInBounds (k * 3 + 1) (.string (strN x.safe))).setIfInBounds (k * 3 + 2) (.bool x.waits)).toList.take ((s.set k x).length * 3) = cells3 (s.set k x) := by
  apply List.ext_getElem?
  intro j
  rw [List.length_set, List.getElem?_take]
  by_cases hj : j < s.length * 3
  · rw [if_pos hj]
    have hn : j / 3 < s.length := by omega
    have e : j / 3 * 3 + j % 3 = j := by omega
    have hold := cells3_get s (j / 3) _ (get_of hn) (j % 3) (by omega)
    rw [e, ← h, List.getElem?_take, if_pos hj] at hold
    have hx2 : (s.set k x)[j / 3]? = some (if k = j / 3 then x else s.getD (j / 3) sec0) := by
      rw [List.getElem?_set]
      by_cases q : k = j / 3
      · rw [if_pos q, if_pos (by omega), if_pos q]
      · rw [if_neg q, if_neg q]; exact get_of hn
    have hnew := cells3_get (s.set k x) (j / 3) _ hx2 (j % 3) (by omega)
    rw [e] at hnew
    rw [hnew, Array.getElem?_toList]
    have hm : j % 3 = 0 ∨ j % 3 = 1 ∨ j % 3 = 2 := by omega
    by_cases q : k = j / 3
    · rw [if_pos q]
      rcases hm with m | m | m
      · rw [m, show j = k * 3 from by omega]
        simp [show k * 3 < cur.size from by omega]
      · rw [m, show j = k * 3 + 1 from by omega]
        simp [show k * 3 + 1 < cur.size from by omega]
      · rw [m, show j = k * 3 + 2 from by omega]
        simp [show k * 3 + 2 < cur.size from by omega]
    · rw [if_neg q, ← hold]
      rw [Array.getElem?_setIfInBounds, if_neg (by omega), Array.getElem?_setIfInBounds, if_neg (by omega), Array.getElem?_setIfInBounds, if_neg (by omega), Array.getElem?_toList]
  · rw [if_neg hj, List.getElem?_eq_none (by rw [cells3_len, List.length_set]; omega)]
end Go.Proofs.Ytlmpkonfclnceaa
