/- Commits that are picked one by one, the first of the least times: the stable sort; no program in sight. -/
import Derived.Test.YtaeiajodbpgbbaaHv11
namespace Go.Proofs.Ytaeiajodbpgbbaa
open Go.RowKit Go.Sort

theorem stb_min {lt : HEv → HEv → Bool} (W : Wk lt) (R1 R2 : List HEv) (x : HEv) (h1 : ∀ y ∈ R1, lt x y = true) (h2 : ∀ y ∈ R2, lt y x = false) : stb lt (R1 ++ x :: R2) = x :: stb lt (R1 ++ R2) := by
  rw [stb_app W, stb_app W, stb]
  have e : mrg lt [x] (stb lt R2) = x :: stb lt R2 := by
    have := mrg_one_left (lt := lt) x [] (stb lt R2) (by simp) (fun y hy => h2 y ((mem_stb y R2).1 hy))
    simpa using this
  rw [e]
  have := mrg_parts (lt := lt) 1 [] [x] (stb lt R1) (stb lt R2) (by simp) (by simp) (by
    intro y hy z hz
    simp at hy; subst hy
    exact h1 z ((mem_stb z R1).1 hz))
  simpa [nil_mrg] using this
/-- What is not done yet. -/
def remS (at_ : Int) : List HEv → List Bool → List HEv
  | x :: l, b :: d => if cmf at_ x = true ∧ b = false then x :: remS at_ l d else remS at_ l d
  | _, _ => []
theorem remS_start (at_ : Int) : ∀ l : List HEv, remS at_ l (List.replicate l.length false) = l.filter (cmf at_)
  | [] => rfl
  | x :: l => by
    rw [List.length_cons, List.replicate_succ, remS, remS_start at_ l, List.filter_cons]
    simp
/-- Is a place's commit still to be done? -/
def candS (at_ : Int) (l : List HEv) (d : List Bool) (j : Nat) : Prop := ∃ x, l[j]? = some x ∧ d[j]? = some false ∧ cmf at_ x = true
theorem remS_split (at_ : Int) : ∀ (l : List HEv) (d : List Bool) (k : Nat) (x : HEv), l[k]? = some x → d[k]? = some false → cmf at_ x = true →
    ∃ R1 R2, remS at_ l d = R1 ++ x :: R2 ∧ remS at_ l (d.set k true) = R1 ++ R2 ∧ (∀ y ∈ R1, ∃ j, j < k ∧ l[j]? = some y ∧ candS at_ l d j) ∧ (∀ y ∈ R2, ∃ j, k < j ∧ l[j]? = some y ∧ candS at_ l d j)
  | [], d, k, x, h, _, _ => by simp at h
  | y :: l, [], k, x, _, h, _ => by simp at h
  | y :: l, b :: d, 0, x, h1, h2, h3 => by
    simp at h1 h2
    subst h1 h2
    refine ⟨[], remS at_ l d, ?_, ?_, by simp, fun z hz => ?_⟩
    · rw [remS, if_pos ⟨h3, rfl⟩]; rfl
    · rw [List.set_cons_zero, remS, if_neg (by simp)]; rfl
    · have : ∀ (l : List HEv) (d : List Bool) (z : HEv), z ∈ remS at_ l d → ∃ j, l[j]? = some z ∧ candS at_ l d j := by
        intro l
        induction l with
        | nil => intro d z hz; simp [remS] at hz
        | cons u l ih =>
          intro d z hz
          cases d with
          | nil => simp [remS] at hz
          | cons c d =>
            rw [remS] at hz
            split at hz
            · rename_i q
              rcases List.mem_cons.1 hz with rfl | hz
              · exact ⟨0, rfl, z, rfl, by simp [q.2], q.1⟩
              · obtain ⟨j, e, x', f1, f2, f3⟩ := ih d z hz
                exact ⟨j + 1, by simpa using e, x', by simpa using f1, by simpa using f2, f3⟩
            · obtain ⟨j, e, x', f1, f2, f3⟩ := ih d z hz
              exact ⟨j + 1, by simpa using e, x', by simpa using f1, by simpa using f2, f3⟩
      obtain ⟨j, e, x', f1, f2, f3⟩ := this l d z hz
      exact ⟨j + 1, by omega, by simpa using e, x', by simpa using f1, by simpa using f2, f3⟩
  | y :: l, b :: d, k + 1, x, h1, h2, h3 => by
    obtain ⟨R1, R2, e1, e2, p1, p2⟩ := remS_split at_ l d k x (by simpa using h1) (by simpa using h2) h3
    have sh : ∀ z j, l[j]? = some z → candS at_ l d j → (y :: l)[j + 1]? = some z ∧ candS at_ (y :: l) (b :: d) (j + 1) := fun z j e ⟨x', f1, f2, f3⟩ => ⟨by simpa using e, x', by simpa using f1, by simpa using f2, f3⟩
    rw [List.set_cons_succ]
    by_cases q : cmf at_ y = true ∧ b = false
    · refine ⟨y :: R1, R2, ?_, ?_, fun z hz => ?_, fun z hz => ?_⟩
      · rw [remS, if_pos q, e1]; rfl
      · rw [remS, if_pos q, e2]; rfl
      · rcases List.mem_cons.1 hz with rfl | hz
        · exact ⟨0, by omega, rfl, z, rfl, by simp [q.2], q.1⟩
        · obtain ⟨j, hj, e, c⟩ := p1 z hz
          obtain ⟨f, g⟩ := sh z j e c
          exact ⟨j + 1, by omega, f, g⟩
      · obtain ⟨j, hj, e, c⟩ := p2 z hz
        obtain ⟨f, g⟩ := sh z j e c
        exact ⟨j + 1, by omega, f, g⟩
    · refine ⟨R1, R2, ?_, ?_, fun z hz => ?_, fun z hz => ?_⟩
      · rw [remS, if_neg q, e1]
      · rw [remS, if_neg q, e2]
      · obtain ⟨j, hj, e, c⟩ := p1 z hz
        obtain ⟨f, g⟩ := sh z j e c
        exact ⟨j + 1, by omega, f, g⟩
      · obtain ⟨j, hj, e, c⟩ := p2 z hz
        obtain ⟨f, g⟩ := sh z j e c
        exact ⟨j + 1, by omega, f, g⟩
theorem remS_nil (at_ : Int) : ∀ (l : List HEv) (d : List Bool), (∀ j, ¬ candS at_ l d j) → remS at_ l d = []
  | [], _, _ => by simp [remS]
  | _ :: _, [], _ => by simp [remS]
  | x :: l, b :: d, h => by
    rw [remS, if_neg (fun q => h 0 ⟨x, rfl, by simp [q.2], q.1⟩)]
    exact remS_nil at_ l d (fun j ⟨x', f1, f2, f3⟩ => h (j + 1) ⟨x', by simpa using f1, by simpa using f2, f3⟩)
/-- The first of the least times among the first ones; -1. -/
def minAt (at_ : Int) (l : List HEv) (d : List Bool) (i : Nat) (z : Int) : Prop :=
  (z = -1 ∧ ∀ j, j < i → ¬ candS at_ l d j) ∨ ∃ (k : Nat) (x : HEv), z = (k : Int) ∧ k < i ∧ l[k]? = some x ∧ candS at_ l d k ∧ (∀ j y, j < k → l[j]? = some y → candS at_ l d j → x.t < y.t) ∧ (∀ j y, k < j → j < i → l[j]? = some y → candS at_ l d j → ¬ y.t < x.t)
theorem minAt_pick {at_ : Int} {l : List HEv} {d : List Bool} {k : Nat} {x : HEv} (hx : l[k]? = some x) (h : minAt at_ l d l.length (k : Int)) :
    stb ltT (remS at_ l d) = x :: stb ltT (remS at_ l (d.set k true)) ∧ candS at_ l d k := by
  rcases h with ⟨h, _⟩ | ⟨k', x', hk, h1, h2, ⟨y, c1, c2, c3⟩, h4, h5⟩
  · omega
  · obtain rfl : k = k' := by omega
    rw [hx] at h2
    cases h2
    rw [hx] at c1
    cases c1
    obtain ⟨R1, R2, e1, e2, p1, p2⟩ := remS_split at_ l d k x hx c2 c3
    refine ⟨?_, x, hx, c2, c3⟩
    rw [e1, e2]
    refine stb_min wkT _ _ _ (fun y hy => ?_) (fun y hy => ?_)
    · obtain ⟨j, hj, e, c⟩ := p1 y hy
      simpa [ltT] using h4 j y hj e c
    · obtain ⟨j, hj, e, c⟩ := p2 y hy
      have hjl : j < l.length := (List.getElem?_eq_some_iff.1 e).1
      simpa [ltT] using h5 j y hj hjl e c
theorem minAt_next {at_ : Int} {l : List HEv} {d : List Bool} {i : Nat} {z : Int} {x : HEv} {b : Bool} (h : minAt at_ l d i z) (hx : l[i]? = some x) (hb : d[i]? = some b) :
    (¬ (cmf at_ x = true ∧ b = false) → minAt at_ l d (i + 1) z) ∧ (cmf at_ x = true ∧ b = false → (z = -1 → minAt at_ l d (i + 1) (i : Int)) ∧ ∀ (k : Nat) (y : HEv), z = (k : Int) → l[k]? = some y → (x.t < y.t → minAt at_ l d (i + 1) (i : Int)) ∧ (¬ x.t < y.t → minAt at_ l d (i + 1) z)) := by
  constructor
  · intro q
    have nc : ¬ candS at_ l d i := by
      rintro ⟨x', f1, f2, f3⟩
      rw [hx] at f1; cases f1
      rw [hb] at f2; cases f2
      exact q ⟨f3, rfl⟩
    rcases h with ⟨h1, h2⟩ | ⟨k, y, h1, h2, h3, h4, h5, h6⟩
    · exact .inl ⟨h1, fun j hj => by
        rcases Nat.lt_or_ge j i with w | w
        · exact h2 j w
        · obtain rfl : j = i := by omega
          exact nc⟩
    · exact .inr ⟨k, y, h1, by omega, h3, h4, h5, fun j u hj hji e c => by
        rcases Nat.lt_or_ge j i with w | w
        · exact h6 j u hj w e c
        · obtain rfl : j = i := by omega
          exact absurd c nc⟩
  · intro q
    have ci : candS at_ l d i := ⟨x, hx, by rw [hb, q.2], q.1⟩
    constructor
    · intro hz
      rcases h with ⟨_, h2⟩ | ⟨k, y, h1, _⟩
      · exact .inr ⟨i, x, rfl, by omega, hx, ci, fun j u hj e c => absurd c (h2 j hj), fun j u hj hji e c => by omega⟩
      · omega
    · intro k y hz hy
      rcases h with ⟨h1, _⟩ | ⟨k', y', h1, h2, h3, h4, h5, h6⟩
      · omega
      · obtain rfl : k = k' := by omega
        rw [hy] at h3; cases h3
        constructor
        · intro hlt
          refine .inr ⟨i, x, rfl, by omega, hx, ci, fun j u hj e c => ?_, fun j u hj hji e c => by omega⟩
          rcases Nat.lt_trichotomy j k with w | w | w
          · have := h5 j u w e c; omega
          · subst w; rw [hy] at e; cases e; exact hlt
          · have := h6 j u w hj e c; omega
        · intro hlt
          refine .inr ⟨k, y, h1, by omega, hy, h4, h5, fun j u hj hji e c => ?_⟩
          rcases Nat.lt_or_ge j i with w | w
          · exact h6 j u hj w e c
          · obtain rfl : j = i := by omega
            rw [hx] at e; cases e
            exact hlt
/-- How many are not done. -/
def cntS (d : List Bool) : Nat := (d.filter fun b => !b).length
theorem cntS_set : ∀ (d : List Bool) (k : Nat), d[k]? = some false → cntS (d.set k true) < cntS d
  | [], k, h => by simp at h
  | b :: d, 0, h => by simp at h; subst h; simp [cntS]
  | b :: d, k + 1, h => by
    have := cntS_set d k (by simpa using h)
    unfold cntS at this ⊢
    rw [List.set_cons_succ, List.filter_cons, List.filter_cons]
    cases b
    · simpa using this
    · simpa using this
end Go.Proofs.Ytaeiajodbpgbbaa
