/- Texts in sectors, in plain words; no program in sight. -/
import Derived.Test.YtlmpkonfclnceaaGreatSecP
namespace Go.Proofs.YtlmpkonfclnceaaGreat

def need (s : List Nat) : Nat := 1 + min s.length 238
/-- How many texts go behind what is used of a sector. -/
def grp : Nat → List (List Nat) → Nat
  | _, [] => 0
  | u, s :: l => if u + need s ≤ 239 then grp (u + need s) l + 1 else 0
/-- The texts that go behind what is used, and the further sectors' ones. -/
def gsp : Nat → List (List Nat) → List (List Nat) × List (List (List Nat))
  | _, [] => ([], [])
  | u, s :: l => if u + need s ≤ 239 then (s :: (gsp (u + need s) l).1, (gsp (u + need s) l).2) else ([], (s :: (gsp (need s) l).1) :: (gsp (need s) l).2)
def gs (l : List (List Nat)) : List (List (List Nat)) := (gsp 239 l).2
def prt (l : List (List Nat)) : Nat := (gs l).length
theorem need_le (s : List Nat) : 1 ≤ need s ∧ need s ≤ 239 := by unfold need; omega
theorem grp_le (u : Nat) (l : List (List Nat)) : grp u l ≤ l.length := by
  induction l generalizing u with
  | nil => simp [grp]
  | cons s l ih =>
    simp only [grp]
    split
    · have := ih (u + need s); simp; omega
    · simp
theorem grp_full (s : List Nat) (l : List (List Nat)) : grp 239 (s :: l) = 0 := by
  have := need_le s
  simp only [grp]
  rw [if_neg (by omega)]
theorem gsp_grp (u : Nat) (l : List (List Nat)) : gsp u l = (l.take (grp u l), gs (l.drop (grp u l))) := by
  induction l generalizing u with
  | nil => simp [gsp, grp, gs]
  | cons s l ih =>
    simp only [gsp, grp]
    split
    · rw [ih]; simp
    · unfold gs
      have := need_le s
      simp only [List.take_zero, List.drop_zero, gsp]
      rw [if_neg (by omega)]
/-- Texts go into sectors one sector after the other. -/
theorem gs_cons (l : List (List Nat)) (h : l ≠ []) : gs l = l.take (grp 0 l) :: gs (l.drop (grp 0 l)) ∧ 0 < grp 0 l := by
  cases l with
  | nil => exact absurd rfl h
  | cons s l =>
    have := need_le s
    have e : grp 0 (s :: l) = grp (need s) l + 1 := by
      simp only [grp]
      rw [if_pos (by omega), Nat.zero_add]
    refine ⟨?_, by omega⟩
    rw [e]
    have h1 : gs (s :: l) = (s :: (gsp (need s) l).1) :: (gsp (need s) l).2 := by
      unfold gs
      simp only [gsp]
      rw [if_neg (by omega)]
    rw [h1, gsp_grp (need s) l]
    rfl
theorem prt_cons (l : List (List Nat)) (h : l ≠ []) : prt l = prt (l.drop (grp 0 l)) + 1 := by
  unfold prt
  rw [(gs_cons l h).1]
  rfl
theorem prt_nil : prt [] = 0 := rfl
theorem prt_le (l : List (List Nat)) : prt l ≤ l.length := by
  suffices h : ∀ n l, List.length l ≤ n → prt l ≤ l.length from h _ l (Nat.le_refl _)
  intro n
  induction n with
  | zero => intro l hl; rw [show l = [] from List.eq_nil_of_length_eq_zero (by omega)]; simp [prt_nil]
  | succ n ih =>
    intro l hl
    by_cases h : l = []
    · subst h; simp [prt_nil]
    · have h1 := (gs_cons l h).2
      have h2 := ih (l.drop (grp 0 l)) (by rw [List.length_drop]; omega)
      rw [prt_cons l h]
      rw [List.length_drop] at h2
      have := grp_le 0 l
      omega
/-- One text more: it goes into the last sector, or into one of its own. -/
def usd : Nat → List (List Nat) → Nat
  | u, [] => u
  | u, s :: l => if u + need s ≤ 239 then usd (u + need s) l else usd (need s) l
def addG (o : List (List (List Nat))) (s : List Nat) : List (List (List Nat)) := o.dropLast ++ [o.getLastD [] ++ [s]]
theorem usd_snoc (u : Nat) (l : List (List Nat)) (s : List Nat) : usd u (l ++ [s]) = if usd u l + need s ≤ 239 then usd u l + need s else need s := by
  induction l generalizing u with
  | nil => rfl
  | cons x l ih =>
    simp only [List.cons_append, usd]
    split
    · rw [ih]
    · rw [ih]
theorem gsp_snoc (u : Nat) (l : List (List Nat)) (s : List Nat) :
    gsp u (l ++ [s]) = if usd u l + need s ≤ 239 then (if (gsp u l).2 = [] then ((gsp u l).1 ++ [s], []) else ((gsp u l).1, addG (gsp u l).2 s)) else ((gsp u l).1, (gsp u l).2 ++ [[s]]) := by
  induction l generalizing u with
  | nil =>
    simp only [List.nil_append, gsp, usd]
    split <;> simp
  | cons x l ih =>
    simp only [List.cons_append, gsp, usd]
    split
    · rw [ih]
      split
      · split <;> rfl
      · rfl
    · rw [ih]
      split
      · split
        · rename_i h
          simp [addG, h]
        · rename_i h
          rw [if_neg (by simp)]
          congr 1
          unfold addG
          obtain ⟨y, ys, hy⟩ : ∃ y ys, (gsp (need x) l).2 = y :: ys := by
            cases h2 : (gsp (need x) l).2 with
            | nil => exact absurd h2 h
            | cons y ys => exact ⟨y, ys, rfl⟩
          rw [hy]
          simp [List.getLastD]
      · rfl
theorem gs_snoc (l : List (List Nat)) (s : List Nat) : gs (l ++ [s]) = if usd 239 l + need s ≤ 239 then addG (gs l) s else gs l ++ [[s]] := by
  unfold gs
  rw [gsp_snoc]
  split
  · split
    · rename_i h1 h2
      exfalso
      have : usd 239 l = 239 := by
        cases l with
        | nil => rfl
        | cons x l =>
          have := need_le x
          simp only [gsp] at h2
          rw [if_neg (by omega)] at h2
          cases h2
      have := need_le s
      omega
    · rfl
  · rfl
theorem gs_nil : gs [] = [] := rfl
theorem usd_nil : usd 239 [] = 239 := rfl
theorem usd_ne (l : List (List Nat)) (s : List Nat) (h : usd 239 l + need s ≤ 239) : gs l ≠ [] := by
  intro q
  cases l with
  | nil => have := need_le s; rw [usd_nil] at h; omega
  | cons x l =>
    have := need_le x
    unfold gs at q
    simp only [gsp] at q
    rw [if_neg (by omega)] at q
    cases q

/-- What a sector has. -/
def stm (e a : Nat) : List Nat := (List.range 8).map fun i => (256 * e + a) / 256 ^ (7 - i) % 256
def bdy (l : List (List Nat)) : List Nat := l.flatMap fun s => s.length :: s
def layS (e a : Nat) (l : List (List Nat)) : List Nat := stm e a ++ [(bdy l).length] ++ bdy l ++ List.replicate (239 - (bdy l).length) 0 ++ stm e a
theorem stm_len (e a : Nat) : (stm e a).length = 8 := by simp [stm]
theorem stm_bts (e a : Nat) : Bts (stm e a) := by
  intro x hx
  obtain ⟨i, _, rfl⟩ := List.mem_map.1 hx
  omega
theorem layS_len (e a : Nat) {l : List (List Nat)} (h : (bdy l).length ≤ 239) : (layS e a l).length = 256 := by
  simp [layS, stm_len]; omega
theorem bdy_cons (s : List Nat) (l : List (List Nat)) : bdy (s :: l) = s.length :: s ++ bdy l := by simp [bdy]
theorem bdy_append (l m : List (List Nat)) : bdy (l ++ m) = bdy l ++ bdy m := by simp [bdy]
theorem bdy_len_ge (l : List (List Nat)) (s : List Nat) (h : s ∈ l) : s.length + 1 ≤ (bdy l).length := by
  induction l with
  | nil => cases h
  | cons x l ih =>
    rw [bdy_cons]
    rcases List.mem_cons.1 h with rfl | h
    · simp
    · have := ih h; simp; omega
def TBts (l : List (List Nat)) : Prop := ∀ s ∈ l, Bts s
theorem bdy_bts {l : List (List Nat)} (h : TBts l) (hl : (bdy l).length ≤ 256) : Bts (bdy l) := by
  intro x hx
  obtain ⟨s, hs, hx⟩ := List.mem_flatMap.1 hx
  rcases List.mem_cons.1 hx with rfl | hx
  · have := bdy_len_ge l s hs; omega
  · exact h s hs x hx
theorem layS_bts (e a : Nat) {l : List (List Nat)} (h : TBts l) (hl : (bdy l).length ≤ 239) : Bts (layS e a l) := by
  intro x hx
  simp only [layS, List.mem_append, List.mem_singleton] at hx
  rcases hx with (((hx | rfl) | hx) | hx) | hx
  · exact stm_bts _ _ x hx
  · omega
  · exact bdy_bts h (by omega) x hx
  · have := List.eq_of_mem_replicate hx; omega
  · exact stm_bts _ _ x hx
/-- Texts of one sector have room. -/
theorem grp_bdy (u : Nat) (l : List (List Nat)) (hs : ∀ s ∈ l, s.length ≤ 238) (hu : u ≤ 239) : u + (bdy (l.take (grp u l))).length ≤ 239 := by
  induction l generalizing u with
  | nil => simp [grp, bdy]; exact hu
  | cons s l ih =>
    have h1 := hs s (by simp)
    simp only [grp]
    split
    · rename_i h
      have e : need s = 1 + s.length := by unfold need; omega
      rw [List.take_succ_cons, bdy_cons]
      have := ih (u + need s) (fun x hx => hs x (by simp [hx])) h
      simp only [List.cons_append, List.length_cons, List.length_append]
      omega
    · simp [bdy]; exact hu

/-- Texts read off a part. -/
def prs : Nat → List Nat → Option (List (List Nat))
  | _, [] => some []
  | 0, _ :: _ => none
  | f + 1, n :: r => if n ≤ r.length then (prs f (r.drop n)).map fun l => r.take n :: l else none
theorem prs_bdy (f : Nat) : ∀ (p : List Nat) (l : List (List Nat)), prs f p = some l → bdy l = p := by
  induction f with
  | zero =>
    intro p l h
    cases p with
    | nil => simp [prs] at h; subst h; rfl
    | cons n r => simp [prs] at h
  | succ f ih =>
    intro p l h
    cases p with
    | nil => simp [prs] at h; subst h; rfl
    | cons n r =>
      simp only [prs] at h
      split at h
      · rename_i hn
        obtain ⟨l', h1, rfl⟩ := Option.map_eq_some_iff.1 h
        rw [bdy_cons, ih _ _ h1, List.length_take, Nat.min_eq_left hn, List.cons_append, List.take_append_drop]
      · cases h
theorem prs_of_bdy (l : List (List Nat)) : ∀ f, (bdy l).length ≤ f → prs f (bdy l) = some l := by
  induction l with
  | nil => intro f _; cases f <;> rfl
  | cons s l ih =>
    intro f hf
    rw [bdy_cons] at hf ⊢
    simp only [List.cons_append, List.length_cons, List.length_append] at hf
    cases f with
    | zero => omega
    | succ f =>
      simp only [List.cons_append, prs]
      rw [if_pos (by simp), List.take_left, List.drop_left, ih f (by omega)]
      rfl
theorem bdy_inj {l m : List (List Nat)} (h : bdy l = bdy m) : l = m := by
  have h1 := prs_of_bdy l _ (Nat.le_refl _)
  have h2 := prs_of_bdy m (bdy l).length (by rw [h]; exact Nat.le_refl _)
  rw [h] at h1
  rw [h] at h2
  exact Option.some.inj (h1.symm.trans h2)
/-- The part of a sector that has texts. -/
def prtB (b : List Nat) : List Nat := (b.drop 9).take (min (b.getD 8 0) 239)
def okE (e a : Int) : Bool := decide (1 ≤ e) && decide (e ≤ 1099511627776) && decide (0 ≤ a) && decide (a < 256)
/-- What is read of a sector. -/
def readS (b : List Nat) (e a : Int) : Option (List (List Nat)) :=
  if b.length = 256 ∧ okE e a = true then
    match prs 239 (prtB b) with
    | some l => if l ≠ [] ∧ layS e.toNat a.toNat l = b then some l else none
    | none => none
  else none
theorem layS_part (e a : Nat) {l : List (List Nat)} (h : (bdy l).length ≤ 239) : prtB (layS e a l) = bdy l := by
  have h8 : (layS e a l).getD 8 0 = (bdy l).length := by
    unfold layS
    rw [List.getD_eq_getElem?_getD, List.append_assoc, List.append_assoc, List.append_assoc, List.getElem?_append_right (by rw [stm_len]; exact Nat.le_refl _), stm_len]
    rfl
  unfold prtB
  rw [h8, Nat.min_eq_left h]
  unfold layS
  rw [List.append_assoc, List.append_assoc, List.append_assoc, ← List.append_assoc (stm e a), List.drop_append, List.drop_eq_nil_of_le (by simp [stm_len]), List.nil_append]
  rw [show 9 - (stm e a ++ [(bdy l).length]).length = 0 from by simp [stm_len], List.drop_zero]
  exact List.take_left
/-- What was laid is read. -/
theorem readS_lay {e a : Int} {l : List (List Nat)} (h : okE e a = true) (hl : l ≠ []) (hb : (bdy l).length ≤ 239) : readS (layS e.toNat a.toNat l) e a = some l := by
  unfold readS
  rw [if_pos ⟨layS_len _ _ hb, h⟩, layS_part _ _ hb, prs_of_bdy _ _ hb]
  simp [hl]
theorem readS_some {b : List Nat} {e a : Int} {l : List (List Nat)} (h : readS b e a = some l) : okE e a = true ∧ l ≠ [] ∧ (bdy l).length ≤ 239 ∧ layS e.toNat a.toNat l = b := by
  unfold readS at h
  split at h
  · rename_i hc
    split at h
    · rename_i l' hp
      split at h
      · rename_i hq
        obtain rfl := Option.some.inj h
        refine ⟨hc.2, hq.1, ?_, hq.2⟩
        rw [prs_bdy _ _ _ hp]
        unfold prtB
        rw [List.length_take]
        omega
      · cases h
    · cases h
  · cases h
/-- Sectors read one after the other, up to the first that has no texts. -/
def scanS (e : Int) : Nat → List (List Nat) → List (List Nat) × Nat
  | i, [] => ([], i)
  | i, b :: l => match readS b e i with
    | some x => (x ++ (scanS e (i + 1) l).1, (scanS e (i + 1) l).2)
    | none => ([], i)
end Go.Proofs.YtlmpkonfclnceaaGreat
