/- A log upon sectors, in plain words; no program in sight. -/
import Derived.Test.YtlmpkonfclnceaaGreatWs6
namespace Go.Proofs.YtlmpkonfclnceaaGreat

/-- A log. -/
structure Lg where
  first : Nat
  count : Nat
  epoch : Nat
  at_ : Nat
  has : List (List Nat)
  wait : List (List Nat)
  closed : Bool
  bad : Bool
def leftL (L : Lg) : Nat := if L.closed then 0 else L.count - L.at_
/-- Errors of a new log. -/
def newE (D : Dsk) (f c e : Int) : Nat :=
  if D.off then 8 else if c < 0 ∨ 256 < c ∨ f < 0 ∨ (D.s.length : Int) - c < f then 2 else if e < 1 ∨ 1099511627776 < e then 9 else 0
def newL (f c e : Int) : Lg := ⟨f.toNat, c.toNat, e.toNat, 0, [], [], false, false⟩
def aliveE (L : Lg) : Nat := if L.bad || L.closed then 11 else 0
def addE (L : Lg) (s : List Nat) : Nat :=
  if aliveE L ≠ 0 then 11 else if 238 < s.length then 5 else if leftL L < prt (L.wait ++ [s]) then 7 else 0
def addL (L : Lg) (s : List Nat) : Lg := if addE L s = 0 then { L with wait := L.wait ++ [s] } else L
/-- Sectors written side by side, up to the first error. -/
def wrW (D : Dsk) (F : Nat) : List (List Nat) → Dsk × Nat
  | [] => (D, 0)
  | c :: cs => if (writeD D (F : Nat) c).2 = 0 then wrW (writeD D (F : Nat) c).1 (F + 1) cs else writeD D (F : Nat) c
/-- All is written, and made safe. -/
def wrSync (D : Dsk) (F : Nat) (cs : List (List Nat)) : Dsk × Nat := if (wrW D F cs).2 = 0 then syncD (wrW D F cs).1 else wrW D F cs
def syncL (L : Lg) (D : Dsk) : Lg × Dsk × Nat :=
  if aliveE L ≠ 0 then (L, D, 11) else if L.wait = [] then (L, D, 0)
  else if (wrSync D (L.first + L.at_) (packS L.epoch L.at_ L.wait)).2 = 0 then
    ({ L with at_ := L.at_ + prt L.wait, has := L.has ++ L.wait, wait := [] }, (wrSync D (L.first + L.at_) (packS L.epoch L.at_ L.wait)).1, 0)
  else ({ L with bad := true }, wrSync D (L.first + L.at_) (packS L.epoch L.at_ L.wait))
def restartE (L : Lg) (e : Int) : Nat := if L.bad then 11 else if e ≤ L.epoch then 12 else if 1099511627776 < e then 9 else 0
def restartL (L : Lg) (e : Int) : Lg := if restartE L e = 0 then ⟨L.first, L.count, e.toNat, 0, [], [], false, false⟩ else L
/-- The sectors of a ring, as they are read. -/
def ringS (D : Dsk) (f c : Nat) : List (List Nat) := (List.range c).map fun i => (readD D ((f + i : Nat) : Int)).1
def openL (D : Dsk) (f c e : Int) : Lg := { newL f c e with has := (scanS e 0 (ringS D f.toNat c.toNat)).1, closed := true }
/-- What holds of a log upon a disk of so many sectors. -/
structure LOK (L : Lg) (N : Nat) : Prop where
  ring : L.first + L.count ≤ N
  cnt : L.count ≤ 256
  ep : 1 ≤ L.epoch ∧ L.epoch ≤ 1099511627776
  room : L.closed = false → L.at_ + prt L.wait ≤ L.count
  atc : L.at_ ≤ L.count
  short : ∀ s ∈ L.wait, s.length ≤ 238
  wb : TBts L.wait
  hb : TBts L.has
  hl : L.has.length ≤ 239 * (if L.closed then L.count else L.at_)
  wl : L.wait.length ≤ 61184
theorem len_prt (l : List (List Nat)) : l.length ≤ 239 * prt l := by
  suffices h : ∀ n l, List.length l ≤ n → l.length ≤ 239 * prt l from h _ l (Nat.le_refl _)
  intro n
  induction n with
  | zero => intro l hl; omega
  | succ n ih =>
    intro l hl
    by_cases h : l = []
    · subst h; simp
    · have h1 := (gs_cons l h).2
      have h2 := ih (l.drop (grp 0 l)) (by rw [List.length_drop]; omega)
      rw [prt_cons l h]
      rw [List.length_drop] at h2
      have h3 : ∀ (u : Nat) (l : List (List Nat)), u ≤ 239 → grp u l + u ≤ 239 := by
        intro u l
        induction l generalizing u with
        | nil => intro hu; simp [grp]; exact hu
        | cons s l ih2 =>
          intro hu
          simp only [grp]
          split
          · rename_i hq
            have := need_le s
            have := ih2 (u + need s) hq
            omega
          · omega
      have := h3 0 l (by omega)
      omega
theorem writeD_l (D : Dsk) (n : Int) (b : List Nat) : (writeD D n b).1.s.length = D.s.length := by
  unfold writeD
  split
  · split
    · unfold callD
      simp only
      split
      · rfl
      · simp [putS]
    · rfl
  · rfl
theorem wrW_snoc_ok (D : Dsk) (F : Nat) (cs : List (List Nat)) (c : List Nat) (h : (wrW D F cs).2 = 0) : wrW D F (cs ++ [c]) = writeD (wrW D F cs).1 ((F + cs.length : Nat) : Int) c := by
  induction cs generalizing D F with
  | nil =>
    simp only [List.nil_append, wrW, List.length_nil, Nat.add_zero]
    split
    · rename_i he; rw [Prod.ext_iff]; exact ⟨rfl, he.symm⟩
    · rfl
  | cons x cs ih =>
    simp only [List.cons_append, wrW] at h ⊢
    split at h
    · rename_i he
      rw [if_pos he, if_pos he, ih _ _ h, List.length_cons, show F + 1 + cs.length = F + (cs.length + 1) from by omega]
    · rename_i he; exact absurd h he
theorem wrW_err (D : Dsk) (F : Nat) (cs ds : List (List Nat)) (h : (wrW D F cs).2 ≠ 0) : wrW D F (cs ++ ds) = wrW D F cs := by
  induction cs generalizing D F with
  | nil => exact absurd rfl h
  | cons x cs ih =>
    simp only [List.cons_append, wrW] at h ⊢
    split
    · rename_i he
      rw [if_pos he] at h
      exact ih _ _ h
    · rfl
theorem wrW_len (D : Dsk) (F : Nat) (cs : List (List Nat)) : (wrW D F cs).1.s.length = D.s.length := by
  induction cs generalizing D F with
  | nil => rfl
  | cons x cs ih =>
    simp only [wrW]
    split
    · rw [ih, writeD_l]
    · exact writeD_l _ _ _
theorem newL_ok {D : Dsk} {f c e : Int} (h : newE D f c e = 0) : LOK (newL f c e) D.s.length := by
  unfold newE at h
  split at h
  · cases h
  · split at h
    · cases h
    · rename_i h2
      split at h
      · cases h
      · rename_i h3
        exact ⟨by simp [newL]; omega, by simp [newL]; omega, by simp [newL]; omega, by simp [newL, prt_nil], by simp [newL], by simp [newL], fun s hs => by simp [newL] at hs, fun s hs => by simp [newL] at hs, by simp [newL], by simp [newL]⟩
theorem LOK.hasl {L : Lg} {N : Nat} (h : LOK L N) : L.has.length ≤ 61184 := by
  have h1 := h.hl
  have h2 := h.cnt
  have h3 := h.atc
  split at h1 <;> omega
theorem addL_ok {L : Lg} {N : Nat} (h : LOK L N) {s : List Nat} (hs : Bts s) : LOK (addL L s) N := by
  unfold addL
  split
  · rename_i he
    unfold addE at he
    split at he
    · cases he
    · rename_i ha
      split at he
      · cases he
      · rename_i hs8
        split at he
        · cases he
        · rename_i hr
          have hcl : L.closed = false := by
            unfold aliveE at ha
            cases hb : L.bad <;> cases hc : L.closed <;> simp [hb, hc] at ha ⊢
          have hroom : L.at_ + prt (L.wait ++ [s]) ≤ L.count := by
            unfold leftL at hr
            rw [hcl] at hr
            simp at hr
            have := h.atc
            omega
          refine ⟨h.ring, h.cnt, h.ep, fun _ => hroom, h.atc, fun x hx => ?_, fun x hx => ?_, h.hb, h.hl, ?_⟩
          · rcases List.mem_append.1 hx with q | q
            · exact h.short x q
            · simp at q; subst q; omega
          · rcases List.mem_append.1 hx with q | q
            · exact h.wb x q
            · simp at q; subst q; exact hs
          · have := len_prt (L.wait ++ [s])
            have := h.cnt
            show (L.wait ++ [s]).length ≤ 61184
            omega
  · exact h
theorem restartL_ok {L : Lg} {N : Nat} (h : LOK L N) (e : Int) : LOK (restartL L e) N := by
  unfold restartL
  split
  · rename_i he
    unfold restartE at he
    split at he
    · cases he
    · split at he
      · cases he
      · rename_i h2
        split at he
        · cases he
        · have := h.ep
          exact ⟨h.ring, h.cnt, by simp; omega, by simp [prt_nil], by simp, by simp, fun s hs => by simp at hs, fun s hs => by simp at hs, by simp, by simp⟩
  · exact h
end Go.Proofs.YtlmpkonfclnceaaGreat
