/- The document's pairs, changed by what a transaction wrote. -/
import Derived.Test.YtaeiajodbpgbbaaHv9
namespace Go.Proofs.Ytaeiajodbpgbbaa
open Go.RowKit Go.Sort Go.Shelf

theorem lt_irr (x : List UInt8) : ¬ x < x := List.lt_irrefl x
/-- What with tells of pairs that are sorted. -/
theorem wfo_srt (key val : List UInt8) (put : Bool) : ∀ (n : Nat) (L : List HPr), L.length = n → (L.Pairwise fun p q => p.1 < q.1) →
    (wfo key val put L).1 = L.filter (fun p => decide (p.1 < key)) ++ ((if put = false ∧ (∃ p ∈ L, key ≤ p.1) then [(key, val)] else []) ++ L.filter (fun p => decide (key < p.1))) ∧ ((wfo key val put L).2 = true ↔ put = true ∨ ∃ p ∈ L, key ≤ p.1)
  | 0, L, h, _ => by rw [List.eq_nil_of_length_eq_zero h]; simp [wfo]
  | n + 1, L, h, hs => by
    obtain ⟨M, x, rfl⟩ : ∃ M x, L = M ++ [x] := ⟨L.dropLast, L.getLast (by intro q; rw [q] at h; cases h), (List.dropLast_concat_getLast _).symm⟩
    have hs' := List.pairwise_append.1 hs
    obtain ⟨h1, h2⟩ := wfo_srt key val put n M (by simpa using h) hs'.1
    have hx : ∀ p ∈ M, p.1 < x.1 := fun p hp => hs'.2.2 p hp x (by simp)
    rw [wfo_snoc]
    have ex : (∃ p ∈ M ++ [x], key ≤ p.1) ↔ (∃ p ∈ M, key ≤ p.1) ∨ key ≤ x.1 := by
      constructor
      · rintro ⟨p, hp, q⟩
        rcases List.mem_append.1 hp with hp | hp
        · exact .inl ⟨p, hp, q⟩
        · simp at hp; subst hp; exact .inr q
      · rintro (⟨p, hp, q⟩ | q)
        · exact ⟨p, List.mem_append_left _ hp, q⟩
        · exact ⟨x, by simp, q⟩
    rcases Classical.em (∃ p ∈ M, key ≤ p.1) with e | e
    · -- one that is not below was there
      have h2' : (wfo key val put M).2 = true := h2.2 (.inr e)
      obtain ⟨p, hp, hk⟩ := e
      have hkx : key < x.1 := List.lt_of_le_of_lt hk (hx p hp)
      have hne : ¬ x.1 = key := fun q => by rw [q] at hkx; exact lt_irr _ hkx
      have hnl : ¬ x.1 < key := fun q => lt_irr _ (List.lt_trans hkx q)
      have e' : ∃ p ∈ M, key ≤ p.1 := ⟨p, hp, hk⟩
      unfold wst
      rw [if_neg (by rw [h2']; simp), if_neg hne]
      refine ⟨?_, ?_⟩
      · show (wfo key val put M).1 ++ [x] = _
        rw [h1, List.filter_append, List.filter_append]
        have fx1 : [x].filter (fun p => decide (p.1 < key)) = [] := by simp [hnl]
        have fx2 : [x].filter (fun p => decide (key < p.1)) = [x] := by simp [hkx]
        rw [fx1, fx2]
        by_cases hp0 : put = false
        · rw [if_pos ⟨hp0, e'⟩, if_pos ⟨hp0, ex.2 (.inl e')⟩]; simp
        · rw [if_neg (fun q => hp0 q.1), if_neg (fun q => hp0 q.1)]; simp
      · show (wfo key val put M).2 = true ↔ _
        rw [h2', ex]; simp [e']
    · have hlt : ∀ p ∈ M, p.1 < key := fun p hp => Classical.byContradiction fun q => e ⟨p, hp, q⟩
      have hf : M.filter (fun p => decide (key < p.1)) = [] := List.filter_eq_nil_iff.2 (fun p hp => by simpa using fun q => lt_irr _ (List.lt_trans (hlt p hp) q))
      have hpx : (wfo key val put M).2 = put := by
        cases hpp : put
        · cases hw : (wfo key val put M).2
          · rw [hpp] at hw; exact hw
          · rcases h2.1 hw with q | q
            · rw [hpp] at q; cases q
            · exact absurd q e
        · have := h2.2 (.inl hpp); rw [hpp] at this; exact this
      rw [if_neg (fun q => e q.2), hf] at h1
      simp only [List.append_nil] at h1
      rcases Classical.em (key ≤ x.1) with q | q
      · have hnl : ¬ x.1 < key := q
        by_cases hxe : x.1 = key
        · have hnk : ¬ key < x.1 := fun z => by rw [hxe] at z; exact lt_irr _ z
          unfold wst
          rw [hpx]
          cases put
          · rw [if_pos ⟨q, rfl⟩, if_pos hxe]
            refine ⟨?_, by simp [q]⟩
            show (wfo key val false M).1 ++ [(key, val)] = _
            rw [h1, List.filter_append, List.filter_append, hf, if_pos ⟨rfl, ex.2 (.inr q)⟩]
            simp [hnl, hnk]
          · rw [if_neg (by simp), if_pos hxe]
            refine ⟨?_, by simp⟩
            show (wfo key val true M).1 = _
            rw [h1, List.filter_append, List.filter_append, hf, if_neg (by simp)]
            simp [hnl, hnk]
        · have hkx : key < x.1 := Classical.byContradiction fun z => hxe (List.le_antisymm z q)
          unfold wst
          rw [hpx]
          cases put
          · rw [if_pos ⟨q, rfl⟩, if_neg hxe]
            refine ⟨?_, by simp [q]⟩
            show (wfo key val false M).1 ++ [(key, val)] ++ [x] = _
            rw [h1, List.filter_append, List.filter_append, hf, if_pos ⟨rfl, ex.2 (.inr q)⟩]
            simp [hnl, hkx]
          · rw [if_neg (by simp), if_neg hxe]
            refine ⟨?_, by simp⟩
            show (wfo key val true M).1 ++ [x] = _
            rw [h1, List.filter_append, List.filter_append, hf, if_neg (by simp)]
            simp [hnl, hkx]
      · have hxl : x.1 < key := Classical.byContradiction fun z => q z
        have hxe : ¬ x.1 = key := fun z => by rw [z] at hxl; exact lt_irr _ hxl
        have hnk : ¬ key < x.1 := fun z => lt_irr _ (List.lt_trans hxl z)
        unfold wst
        rw [if_neg (fun z => q z.1), if_neg hxe]
        refine ⟨?_, ?_⟩
        · show (wfo key val put M).1 ++ [x] = _
          rw [h1, List.filter_append, List.filter_append, hf, if_neg (fun z => (ex.1 z.2).elim e q)]
          simp [hxl, hnk]
        · show (wfo key val put M).2 = true ↔ _
          rw [h2, ex]; simp [q]
theorem wth_srt (key val : List UInt8) (is : Bool) (L : List HPr) (hs : L.Pairwise fun p q => p.1 < q.1) :
    wth key val is L = L.filter (fun p => decide (p.1 < key)) ++ ((if is = true then [(key, val)] else []) ++ L.filter (fun p => decide (key < p.1))) := by
  obtain ⟨h1, h2⟩ := wfo_srt key val (!is) _ L rfl hs
  unfold wth
  rw [h1]
  cases is
  · have : (wfo key val (!false) L).2 = true := h2.2 (.inl rfl)
    rw [this]; simp
  · rcases Classical.em (∃ p ∈ L, key ≤ p.1) with e | e
    · have : (wfo key val (!true) L).2 = true := h2.2 (.inr e)
      rw [this, if_neg (by decide), if_pos ⟨rfl, e⟩]; simp
    · have : (wfo key val (!true) L).2 = false := by
        cases hw : (wfo key val (!true) L).2
        · rfl
        · exact absurd (h2.1 hw) (by simp; exact fun a b hab => Classical.byContradiction fun q => e ⟨(a, b), hab, q⟩)
      have hf : L.filter (fun p => decide (key < p.1)) = [] := List.filter_eq_nil_iff.2 (fun p hp => by simpa using fun q => e ⟨p, hp, fun z => lt_irr _ (List.lt_trans z q)⟩)
      rw [this, if_pos rfl, if_neg (fun q => e q.2), hf]; simp
theorem wth_of {g : SMap} {L : List HPr} (h : PrsOf g L) (key val : List UInt8) (is : Bool) : PrsOf (fun k => if k = key then (if is = true then some val else none) else g k) (wth key val is L) := by
  rw [wth_srt _ _ _ _ h.srt]
  have f1 : ∀ p ∈ L.filter (fun p => decide (p.1 < key)), p.1 < key := fun p hp => by simpa using (List.mem_filter.1 hp).2
  have f2 : ∀ p ∈ L.filter (fun p => decide (key < p.1)), key < p.1 := fun p hp => by simpa using (List.mem_filter.1 hp).2
  constructor
  · rw [List.pairwise_append]
    refine ⟨h.srt.filter _, ?_, ?_⟩
    · cases is
      · simpa using h.srt.filter _
      · rw [if_pos rfl]
        refine List.pairwise_append.2 ⟨List.pairwise_singleton _ _, h.srt.filter _, fun p hp q hq => ?_⟩
        simp at hp; subst hp; exact f2 q hq
    · intro p hp q hq
      have hp := f1 p hp
      rcases List.mem_append.1 hq with hq | hq
      · cases is
        · simp at hq
        · simp at hq; subst hq; exact hp
      · exact List.lt_trans hp (f2 q hq)
  · intro k v
    simp only [List.mem_append, List.mem_filter, decide_eq_true_eq]
    by_cases hk : k = key
    · subst hk
      rw [if_pos rfl]
      cases is
      · simp [lt_irr]
      · simp [lt_irr, eq_comm]
    · rw [if_neg hk]
      have hn : ¬ ((k, v) ∈ (if is = true then [(key, val)] else [])) := by
        cases is
        · simp
        · simp [hk]
      constructor
      · rintro (⟨h1, _⟩ | h1 | ⟨h1, _⟩)
        · exact (h.mem k v).1 h1
        · exact absurd h1 hn
        · exact (h.mem k v).1 h1
      · intro h1
        have h2 := (h.mem k v).2 h1
        rcases Classical.em (k < key) with z | z
        · exact .inl ⟨h2, z⟩
        · exact .inr (.inr ⟨h2, Classical.byContradiction fun y => hk (List.le_antisymm y z)⟩)
end Go.Proofs.Ytaeiajodbpgbbaa
