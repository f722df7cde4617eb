/- How the document reads a sector of texts, in plain words. -/
import Derived.Test.YtlmpkonfclnceaaGreatRp3
namespace Go.Proofs.YtlmpkonfclnceaaGreat

/-- Texts read off a sector, whatever it is. -/
def dps : Nat → List Nat → Nat → Nat → List (List Nat)
  | 0, _, _, _ => []
  | f + 1, b, i, e => if i < e then ((b.drop (i + 1)).take (min 248 (i + 1 + b.getD i 0) - (i + 1))) :: dps f b (i + 1 + b.getD i 0) e else []
theorem dps_end (f : Nat) (b : List Nat) (i e : Nat) (h : e ≤ i) : dps f b i e = [] := by
  cases f with
  | zero => rfl
  | succ f => simp only [dps]; rw [if_neg (by omega)]
theorem dps_short (f : Nat) : ∀ (b : List Nat) (i e : Nat), 9 ≤ i → ∀ s ∈ dps f b i e, s.length ≤ 238 := by
  induction f with
  | zero => intro b i e _ s hs; cases hs
  | succ f ih =>
    intro b i e hi s hs
    simp only [dps] at hs
    split at hs
    · rcases List.mem_cons.1 hs with rfl | hs
      · rw [List.length_take]; omega
      · exact ih b _ e (by omega) s hs
    · cases hs
theorem dps_bts (f : Nat) : ∀ (b : List Nat) (i e : Nat), Bts b → TBts (dps f b i e) := by
  induction f with
  | zero => intro b i e _ s hs; cases hs
  | succ f ih =>
    intro b i e hb s hs
    simp only [dps] at hs
    split at hs
    · rcases List.mem_cons.1 hs with rfl | hs
      · exact (hb.drop _).take _
      · exact ih b _ e hb s hs
    · cases hs
theorem dps_len (f : Nat) : ∀ (b : List Nat) (i e : Nat), (dps f b i e).length ≤ e - i := by
  induction f with
  | zero => intro b i e; exact Nat.zero_le _
  | succ f ih =>
    intro b i e
    simp only [dps]
    split
    · have := ih b (i + 1 + b.getD i 0) e
      rw [List.length_cons]
      omega
    · exact Nat.zero_le _
/-- More fuel turns nothing. -/
theorem dps_fuel (f : Nat) : ∀ (g : Nat) (b : List Nat) (i e : Nat), e - i ≤ f → e - i ≤ g → dps f b i e = dps g b i e := by
  induction f with
  | zero => intro g b i e h1 _; rw [dps_end 0 b i e (by omega), dps_end g b i e (by omega)]
  | succ f ih =>
    intro g b i e h1 h2
    cases g with
    | zero => rw [dps_end (f + 1) b i e (by omega), dps_end 0 b i e (by omega)]
    | succ g =>
      simp only [dps]
      split
      · rw [ih g b _ e (by omega) (by omega)]
      · rfl
theorem dps_step {f : Nat} {b : List Nat} {i e : Nat} (hf : e - i ≤ f) (hi : i < e) : dps f b i e = ((b.drop (i + 1)).take (min 248 (i + 1 + b.getD i 0) - (i + 1))) :: dps f b (i + 1 + b.getD i 0) e := by
  cases f with
  | zero => omega
  | succ f =>
    rw [dps_fuel (f + 1) f b (i + 1 + b.getD i 0) e (by omega) (by omega)]
    simp only [dps]
    rw [if_pos hi]
theorem dps_bdy (l : List (List Nat)) : ∀ (f : Nat) (pre post : List Nat), pre.length + (bdy l).length ≤ 248 → (bdy l).length ≤ f → dps f (pre ++ bdy l ++ post) pre.length (pre.length + (bdy l).length) = l := by
  induction l with
  | nil => intro f pre post _ _; rw [dps_end _ _ _ _ (by simp [bdy])]
  | cons s l ih =>
    intro f pre post h1 h2
    have e0 : (bdy (s :: l)).length = s.length + 1 + (bdy l).length := by rw [bdy_cons]; simp; omega
    have e1 : pre ++ bdy (s :: l) ++ post = pre ++ (s.length :: (s ++ (bdy l ++ post))) := by rw [bdy_cons]; simp
    have eg : (pre ++ bdy (s :: l) ++ post).getD pre.length 0 = s.length := by
      rw [e1, List.getD_eq_getElem?_getD, List.getElem?_append_right (Nat.le_refl _), Nat.sub_self]
      rfl
    have ed : (pre ++ bdy (s :: l) ++ post).drop (pre.length + 1) = s ++ (bdy l ++ post) := by
      rw [e1, List.drop_append, List.drop_eq_nil_of_le (by omega), Nat.add_sub_cancel_left]
      rfl
    rw [dps_step (by omega) (by omega), eg, ed]
    have em : min 248 (pre.length + 1 + s.length) - (pre.length + 1) = s.length := by omega
    rw [em, List.take_left]
    congr 1
    have e2 : pre ++ bdy (s :: l) ++ post = (pre ++ (s.length :: s)) ++ bdy l ++ post := by rw [bdy_cons]; simp
    have e3 : pre.length + 1 + s.length = (pre ++ (s.length :: s)).length := by simp; omega
    rw [e2, e3, e0, show pre.length + (s.length + 1 + (bdy l).length) = (pre ++ (s.length :: s)).length + (bdy l).length from by simp; omega]
    exact ih f (pre ++ (s.length :: s)) post (by rw [← e3]; omega) (by omega)
theorem grp_all (l : List (List Nat)) : ∀ u, u + (bdy l).length ≤ 239 → grp u l = l.length := by
  induction l with
  | nil => intro u _; rfl
  | cons s l ih =>
    intro u h
    have e0 : (bdy (s :: l)).length = s.length + 1 + (bdy l).length := by rw [bdy_cons]; simp; omega
    have hn : need s ≤ 1 + s.length := by unfold need; omega
    simp only [grp]
    rw [if_pos (by omega), ih _ (by omega)]
    rfl
theorem prt_one {l : List (List Nat)} (hl : l ≠ []) (hb : (bdy l).length ≤ 239) : prt l = 1 := by
  rw [prt_cons l hl, grp_all l 0 (by omega), List.drop_length]
  rfl
theorem one_bdy {l : List (List Nat)} (h : prt l = 1) (hs : ∀ s ∈ l, s.length ≤ 238) : (bdy l).length ≤ 239 := by
  have hl : l ≠ [] := by intro q; rw [q] at h; cases h
  rw [prt_cons l hl] at h
  have h1 : l.drop (grp 0 l) = [] := by
    by_cases q : l.drop (grp 0 l) = []
    · exact q
    · have := prt_cons _ q; omega
  have h2 : l.take (grp 0 l) = l := by
    have := List.take_append_drop (grp 0 l) l
    rw [h1, List.append_nil] at this
    exact this
  have := grp_bdy 0 l hs (by omega)
  rw [h2] at this
  omega
/-- What the document reads off a sector. -/
def docL (b : List Nat) : List (List Nat) := dps 256 b 9 (9 + min (b.getD 8 0) 239)
theorem docL_lay (e a : Nat) {l : List (List Nat)} (h : (bdy l).length ≤ 239) : docL (layS e a l) = l := by
  have h8 : (layS e a l).getD 8 0 = (bdy l).length := by
    unfold layS
    rw [List.getD_eq_getElem?_getD, List.append_assoc, List.append_assoc, List.append_assoc, List.getElem?_append_right (by rw [stm_len]; exact Nat.le_refl _), stm_len]
    rfl
  unfold docL
  rw [h8, Nat.min_eq_left h]
  have h9 : (stm e a ++ [(bdy l).length]).length = 9 := by simp [stm_len]
  have := dps_bdy l 256 (stm e a ++ [(bdy l).length]) (List.replicate (239 - (bdy l).length) 0 ++ stm e a) (by rw [h9]; omega) (by omega)
  rw [h9] at this
  unfold layS
  rw [List.append_assoc (stm e a ++ [(bdy l).length] ++ bdy l)]
  exact this
/-- What is read, is read as the document says. -/
theorem readS_doc {b : List Nat} {e a : Int} (he : okE e a = true) :
    readS b e a = if docL b ≠ [] ∧ prt (docL b) = 1 ∧ layS e.toNat a.toNat (docL b) = b then some (docL b) else none := by
  cases hr : readS b e a with
  | some l =>
    obtain ⟨_, h2, h3, h4⟩ := readS_some hr
    have h5 : docL b = l := by rw [← h4]; exact docL_lay _ _ h3
    rw [h5, if_pos ⟨h2, prt_one h2 h3, h4⟩]
  | none =>
    by_cases h : docL b ≠ [] ∧ prt (docL b) = 1 ∧ layS e.toNat a.toNat (docL b) = b
    · obtain ⟨h1, h2, h3⟩ := h
      have := readS_lay he h1 (one_bdy h2 (dps_short _ _ _ _ (Nat.le_refl _)))
      rw [h3, hr] at this
      cases this
    · rw [if_neg h]
end Go.Proofs.YtlmpkonfclnceaaGreat
