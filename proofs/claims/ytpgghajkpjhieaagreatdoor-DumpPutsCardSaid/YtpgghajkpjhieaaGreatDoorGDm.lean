/- GDm: Dm0, Dm3, Dm1. -/
import Derived.Test.YtpgghajkpjhieaaGreatDoorGDb
import Derived.Test.YtpgghajkpjhieaaGreatDoorHvP
namespace Go.Proofs.YtpgghajkpjhieaaGreatDoor

/-- A pair's texts. -/
def layQ (p : HPr) : List Nat := putT (natsU p.1) ++ putT (natsU p.2)
def layP (l : List HPr) : List Nat := l.flatMap layQ
/-- Pairs laid, ahead of being sealed. -/
def layT (l : List HPr) : List Nat := putSmall l.length ++ layP l
def Sml (l : List HPr) : Prop := ∀ p ∈ l, p.1.length ≤ 1000 ∧ p.2.length ≤ 1000
theorem putT_len (l : List Nat) : (putT l).length ≤ 2 * l.length + 2 := by
  have := escT_len l
  simp [putT]; omega
theorem putT_pos (l : List Nat) : 2 ≤ (putT l).length := by simp [putT]
theorem layQ_len {p : HPr} (h : p.1.length ≤ 1000 ∧ p.2.length ≤ 1000) : (layQ p).length ≤ 4004 := by
  have h1 := putT_len (natsU p.1)
  have h2 := putT_len (natsU p.2)
  rw [natsU_len] at h1 h2
  simp only [layQ, List.length_append]
  omega
theorem layQ_pos (p : HPr) : 4 ≤ (layQ p).length := by
  have h1 := putT_pos (natsU p.1)
  have h2 := putT_pos (natsU p.2)
  simp only [layQ, List.length_append]
  omega
theorem layP_cons (p : HPr) (l : List HPr) : layP (p :: l) = layQ p ++ layP l := rfl
theorem layP_snoc (l : List HPr) (p : HPr) : layP (l ++ [p]) = layP l ++ layQ p := by simp [layP]
theorem layP_len {l : List HPr} (h : Sml l) : (layP l).length ≤ 4004 * l.length := by
  induction l with
  | nil => simp [layP]
  | cons p l ih =>
    have h1 := layQ_len (h p (by simp))
    have h2 := ih (fun q hq => h q (by simp [hq]))
    rw [layP_cons, List.length_append, List.length_cons]
    omega
theorem layP_ge (l : List HPr) : 4 * l.length ≤ (layP l).length := by
  induction l with
  | nil => simp [layP]
  | cons p l ih =>
    have h1 := layQ_pos p
    rw [layP_cons, List.length_append, List.length_cons]
    omega
theorem putSmall_len (n : Nat) : (putSmall n).length ≤ 9 := by
  have := wid_le n
  simp [putSmall, be_length]; omega
theorem putSmall_pos (n : Nat) : 1 ≤ (putSmall n).length := by simp [putSmall]
theorem layT_len {l : List HPr} (h : Sml l) : (layT l).length ≤ 9 + 4004 * l.length := by
  have h1 := layP_len h
  have h2 := putSmall_len l.length
  simp only [layT, List.length_append]
  omega
theorem putT_bts {l : List Nat} (h : Bts l) : Bts (putT l) := by
  intro x hx
  simp only [putT, List.mem_append, List.mem_cons, List.not_mem_nil, or_false] at hx
  rcases hx with h1 | rfl | rfl
  · exact escT_bts h x h1
  · decide
  · decide
theorem layP_bts (l : List HPr) : Bts (layP l) := by
  induction l with
  | nil => intro x hx; simp [layP] at hx
  | cons p l ih =>
    intro x hx
    rw [layP_cons, List.mem_append, layQ, List.mem_append] at hx
    rcases hx with (h | h) | h
    · exact putT_bts (natsU_bts _) x h
    · exact putT_bts (natsU_bts _) x h
    · exact ih x h
theorem putSmall_bts (n : Nat) : Bts (putSmall n) := by
  intro x hx
  simp only [putSmall, List.mem_cons] at hx
  rcases hx with rfl | h
  · have := wid_le n; omega
  · exact be_byte _ _ x h
theorem layT_bts (l : List HPr) : Bts (layT l) := by
  intro x hx
  rw [layT, List.mem_append] at hx
  rcases hx with h | h
  · exact putSmall_bts _ x h
  · exact layP_bts l x h

/-- Pairs whose keys rise. -/
def Ordd (l : List HPr) : Prop := ∀ i, i < l.length → 1 ≤ i → (l.getD (i - 1) ([], [])).1 < (l.getD i ([], [])).1
instance (l : List HPr) : Decidable (Ordd l) := by unfold Ordd; infer_instance
def Fit1 (p : HPr) : Prop := p.1.length ≤ 16 ∧ p.2.length ≤ 24
instance (p : HPr) : Decidable (Fit1 p) := by unfold Fit1; infer_instance
def Fits (l : List HPr) : Prop := ∀ p ∈ l, Fit1 p
instance (l : List HPr) : Decidable (Fits l) := by unfold Fits; infer_instance
theorem Fits.sml {l : List HPr} (h : Fits l) : Sml l := fun p hp => ⟨by have := (h p hp).1; omega, by have := (h p hp).2; omega⟩
/-- Which error pairs have. -/
def chkD (l : List HPr) : Nat := if Ordd l then (if Fits l then (if 60000 < 8 + (layT l).length then 5 else 0) else 5) else 12
theorem chk_zero {l : List HPr} (h : chkD l = 0) : Ordd l ∧ Fits l ∧ 8 + (layT l).length ≤ 60000 := by
  unfold chkD at h
  split at h
  · split at h
    · split at h
      · cases h
      · exact ⟨by assumption, by assumption, by omega⟩
    · cases h
  · cases h
/-- What is put. -/
def putL (l : List HPr) : List Nat × Nat := if chkD l = 0 then (sealS (layT l) (layT l).length, 0) else ([], chkD l)
theorem put_ok {l : List HPr} {b : List Nat} (h : putL l = (b, 0)) : chkD l = 0 ∧ sealS (layT l) (layT l).length = b := by
  unfold putL at h
  split at h
  · simp only [Prod.mk.injEq, and_true] at h; exact ⟨by assumption, h⟩
  · rename_i q; simp only [Prod.mk.injEq] at h; exact absurd h.2 q

def bU (l : List Nat) : List UInt8 := l.map UInt8.ofNat
theorem enc_bU (l : List Nat) : encStr (bU l) = .string (strN l) := rfl
theorem bU_len (l : List Nat) : (bU l).length = l.length := by simp [bU]
theorem bU_natsU (l : List UInt8) : bU (natsU l) = l := by
  simp only [bU, natsU, List.map_map]
  conv => rhs; rw [← List.map_id l]
  refine List.map_congr_left fun x _ => ?_
  simp
/-- A pair is taken off. -/
def rd1 (s : List HPr × List Nat × Nat) : List HPr × List Nat × Nat :=
  (s.1 ++ [(bU (rdText s.2.1 s.2.2 16).2.2, bU (rdText (rdText s.2.1 s.2.2 16).1 (rdText s.2.1 s.2.2 16).2.1 24).2.2)],
    (rdText (rdText s.2.1 s.2.2 16).1 (rdText s.2.1 s.2.2 16).2.1 24).1, (rdText (rdText s.2.1 s.2.2 16).1 (rdText s.2.1 s.2.2 16).2.1 24).2.1)
def rdN : Nat → List Nat → Nat → List HPr × List Nat × Nat
  | 0, x, e => ([], x, e)
  | k + 1, x, e => rd1 (rdN k x e)
theorem rdText_put (k m : List Nat) (most : Nat) (h : k.length ≤ most) : rdText (putT k ++ m) 0 most = (m, 0, k) := by
  unfold rdText
  rw [if_neg (by simp), gT_put]
  simp only [ne_eq, not_true_eq_false, if_false]
  rw [if_neg (by omega), List.drop_left]
theorem rdText_le (x : List Nat) (e most : Nat) : (rdText x e most).2.2.length ≤ most := by
  unfold rdText
  split
  · simp
  · split
    · simp
    · split
      · simp
      · simp; omega
theorem rdText_len (x : List Nat) (e most : Nat) : (rdText x e most).1.length ≤ x.length := by
  unfold rdText
  split
  · simp
  · split
    · simp
    · split
      · simp
      · simp
theorem rdText_bts {x : List Nat} (h : Bts x) (e most : Nat) : Bts (rdText x e most).1 := by
  unfold rdText
  split
  · exact h
  · split
    · exact h
    · split
      · exact h
      · exact h.drop _
theorem rdText_none (x : List Nat) {e : Nat} (h : e ≠ 0) (most : Nat) : rdText x e most = (x, e, []) := by
  unfold rdText
  rw [if_pos h]
theorem rdN_facts (x : List Nat) (e : Nat) (hb : Bts x) : ∀ k, (rdN k x e).1.length = k ∧ Fits (rdN k x e).1 ∧ Bts (rdN k x e).2.1 ∧ (rdN k x e).2.1.length ≤ x.length
  | 0 => ⟨rfl, fun _ h => by simp [rdN] at h, hb, Nat.le_refl _⟩
  | k + 1 => by
    obtain ⟨h1, h2, h3, h4⟩ := rdN_facts x e hb k
    refine ⟨by simp [rdN, rd1, h1], ?_, rdText_bts (rdText_bts h3 _ _) _ _, Nat.le_trans (rdText_len _ _ _) (Nat.le_trans (rdText_len _ _ _) h4)⟩
    intro p hp
    simp only [rdN, rd1, List.mem_append, List.mem_singleton] at hp
    rcases hp with hp | rfl
    · exact h2 p hp
    · exact ⟨by rw [bU_len]; exact rdText_le _ _ _, by rw [bU_len]; exact rdText_le _ _ _⟩
theorem rdN_lay {l : List HPr} (h : Fits l) : ∀ k, k ≤ l.length → rdN k (layP l) 0 = (l.take k, layP (l.drop k), 0)
  | 0, _ => by simp [rdN]
  | k + 1, hk => by
    have hkl : k < l.length := hk
    rw [rdN, rdN_lay h k (by omega), List.drop_eq_getElem_cons hkl, layP_cons]
    have hf := h l[k] (List.getElem_mem hkl)
    have a1 : rdText (layQ l[k] ++ layP (l.drop (k + 1))) 0 16 = (putT (natsU l[k].2) ++ layP (l.drop (k + 1)), 0, natsU l[k].1) := by
      rw [layQ, List.append_assoc]
      exact rdText_put _ _ _ (by rw [natsU_len]; exact hf.1)
    have a2 : rdText (putT (natsU l[k].2) ++ layP (l.drop (k + 1))) 0 24 = (layP (l.drop (k + 1)), 0, natsU l[k].2) := rdText_put _ _ _ (by rw [natsU_len]; exact hf.2)
    unfold rd1
    simp only [a1, a2, bU_natsU]
    rw [List.take_append_getElem]
theorem rdSmall_lay {l : List HPr} (h : l.length ≤ 1099511627776) : rdSmall (layT l) 0 = (layP l, 0, l.length) := by
  have hg := getSmall_put l.length (by omega) (layP l)
  have hl : (putSmall l.length).length = wid l.length + 1 := by simp [putSmall, be_length]
  unfold rdSmall layT
  rw [hg]
  simp only [ne_eq, not_true_eq_false, if_false]
  rw [if_neg (by omega), ← hl, List.drop_left]

/-- The sum is another one. -/
def BadS (b : List Nat) : Prop := b.take 4 ≠ fourOf (crcOf (b.drop 4))
theorem seal_good (x : List Nat) (m : Nat) : ¬ BadS (sealS x m) := by
  intro h
  exact h rfl
theorem seal_inj {x y : List Nat} {m n : Nat} (hx : x.length ≤ m) (hy : y.length ≤ n) (h : sealS x m = sealS y n) : x = y ∧ m = n := by
  have hl := congrArg List.length h
  rw [sealS_len hx, sealS_len hy] at hl
  have hm : m = n := by omega
  subst hm
  have hi : innerS x m = innerS y m := by
    have : (sealS x m).drop 4 = (sealS y m).drop 4 := by rw [h]
    exact this
  unfold innerS at hi
  simp only [List.cons_append, List.nil_append, List.cons.injEq, true_and] at hi
  obtain ⟨h1, h2, h3⟩ := hi
  have hlen : x.length = y.length := by omega
  exact ⟨(List.append_inj h3 hlen).1, rfl⟩
/-- What taking the sum off tells: bytes that were sealed, or why not. -/
def OpenR (b : List Nat) (e : Nat) (x : List Nat) : Prop :=
  (e = 10 ∧ 8 ≤ b.length ∧ BadS b ∧ x = []) ∨ ((e = 4 ∨ e = 2) ∧ (8 ≤ b.length → ¬ BadS b) ∧ x = [] ∧ ∀ y m, y.length ≤ m → sealS y m ≠ b) ∨
    (e = 0 ∧ 8 ≤ b.length ∧ ∃ m, x.length ≤ m ∧ sealS x m = b ∧ Bts x)
/-- What reading a dump tells. -/
def GotD (b : List Nat) (e : Nat) (l : List HPr) : Prop :=
  (e = 10 ∧ 8 ≤ b.length ∧ BadS b ∧ l = []) ∨ (e = 4 ∧ (8 ≤ b.length → ¬ BadS b) ∧ l = [] ∧ ∀ q, putL q ≠ (b, 0)) ∨ (e = 0 ∧ putL l = (b, 0))
theorem put_facts {l : List HPr} {b : List Nat} (h : putL l = (b, 0)) : 8 ≤ b.length ∧ ¬ BadS b ∧ Fits l ∧ l.length ≤ 15000 ∧ b.length ≤ 60000 := by
  obtain ⟨h1, h2⟩ := put_ok h
  obtain ⟨-, hf, hlen⟩ := chk_zero h1
  have hge := layP_ge l
  have hl : (layT l).length = (putSmall l.length).length + (layP l).length := by simp [layT]
  have hs := sealS_len (b := layT l) (Nat.le_refl (layT l).length)
  rw [h2] at hs
  refine ⟨by omega, ?_, hf, by omega, by omega⟩
  rw [← h2]
  exact seal_good _ _
theorem put_inj {l k : List HPr} {b : List Nat} (h : putL l = (b, 0)) (q : putL k = (b, 0)) : l = k := by
  obtain ⟨h1, h2⟩ := put_ok h
  obtain ⟨q1, q2⟩ := put_ok q
  obtain ⟨-, -, fl, nl, -⟩ := put_facts h
  obtain ⟨-, -, fk, nk, -⟩ := put_facts q
  obtain ⟨e, -⟩ := seal_inj (Nat.le_refl _) (Nat.le_refl _) (h2.trans q2.symm)
  have r1 := rdSmall_lay (l := l) (by omega)
  have r2 := rdSmall_lay (l := k) (by omega)
  rw [e, r2] at r1
  simp only [Prod.mk.injEq, true_and] at r1
  have s1 := rdN_lay fl l.length (Nat.le_refl _)
  have s2 := rdN_lay fk k.length (Nat.le_refl _)
  rw [← r1.1, ← r1.2, s2] at s1
  simp only [Prod.mk.injEq, r1.2, List.take_length] at s1
  have s1 := s1.1
  rw [List.take_of_length_le (Nat.le_of_eq r1.2)] at s1
  exact s1.symm
theorem got_one {b : List Nat} {e f : Nat} {l k : List HPr} (h : GotD b e l) (q : GotD b f k) : e = f ∧ l = k := by
  rcases h with ⟨rfl, h8, hs, rfl⟩ | ⟨rfl, hs, rfl, hp⟩ | ⟨rfl, hp⟩
  · rcases q with ⟨rfl, -, -, rfl⟩ | ⟨rfl, qs, rfl, -⟩ | ⟨rfl, qp⟩
    · exact ⟨rfl, rfl⟩
    · exact absurd hs (qs h8)
    · exact absurd hs (put_facts qp).2.1
  · rcases q with ⟨rfl, q8, qs, rfl⟩ | ⟨rfl, qs, rfl, -⟩ | ⟨rfl, qp⟩
    · exact absurd qs (hs q8)
    · exact ⟨rfl, rfl⟩
    · exact absurd qp (hp _)
  · rcases q with ⟨rfl, q8, qs, rfl⟩ | ⟨rfl, qs, rfl, qp⟩ | ⟨rfl, qp⟩
    · exact absurd qs (put_facts hp).2.1
    · exact absurd hp (qp _)
    · exact ⟨rfl, put_inj hp qp⟩
/-- Of bytes that were sealed as a dump's, all pairs are told, without an error. -/
theorem dump_read {b x : List Nat} {m : Nat} (hx : x.length ≤ m) (hs : sealS x m = b) {q : List HPr} (hq : putL q = (b, 0)) :
    rdSmall x 0 = (layP q, 0, q.length) ∧ q.length ≤ x.length ∧ ∀ k, k ≤ q.length → rdN k (layP q) 0 = (q.take k, layP (q.drop k), 0) := by
  obtain ⟨h1, h2⟩ := put_ok hq
  obtain ⟨-, -, fl, nl, -⟩ := put_facts hq
  obtain ⟨e, -⟩ := seal_inj hx (Nat.le_refl _) (hs.trans h2.symm)
  subst e
  refine ⟨rdSmall_lay (by omega), ?_, rdN_lay fl⟩
  have := layP_ge q
  simp only [layT, List.length_append]
  omega
/-- What is read by any rounds, so many as are told or till an error comes, and laid again: these bytes, or there is no dump of these bytes. -/
theorem got_by {b x : List Nat} (h : OpenR b 0 x) (j : Nat) (hj : j = (rdSmall x 0).2.2 ∨ j = min (rdSmall x 0).2.2 x.length ∨ (j ≤ (rdSmall x 0).2.2 ∧ (rdN j (rdSmall x 0).1 (rdSmall x 0).2.1).2.2 ≠ 0)) :
    (putL (rdN j (rdSmall x 0).1 (rdSmall x 0).2.1).1 = (b, 0) → GotD b 0 (rdN j (rdSmall x 0).1 (rdSmall x 0).2.1).1) ∧ (putL (rdN j (rdSmall x 0).1 (rdSmall x 0).2.1).1 ≠ (b, 0) → GotD b 4 []) := by
  refine ⟨fun hp => .inr (.inr ⟨rfl, hp⟩), fun hp => .inr (.inl ⟨rfl, ?_, rfl, fun q hq => hp ?_⟩)⟩
  · rcases h with ⟨e, -⟩ | ⟨e, -⟩ | ⟨-, -, m, -, hs, -⟩
    · cases e
    · rcases e with e | e <;> cases e
    · intro _; rw [← hs]; exact seal_good _ _
  · rcases h with ⟨e, -⟩ | ⟨e, -⟩ | ⟨-, -, m, hm, hs, -⟩
    · cases e
    · rcases e with e | e <;> cases e
    · obtain ⟨r1, r2, r3⟩ := dump_read hm hs hq
      rw [r1] at hj ⊢
      simp only at hj ⊢
      have hjq : j = q.length := by
        rcases hj with h | h | ⟨h1, h2⟩
        · exact h
        · omega
        · rw [r3 j h1] at h2
          exact absurd rfl h2
      rw [hjq, r3 _ (Nat.le_refl _), List.take_length]
      exact hq
theorem got_sum {b x : List Nat} (h : OpenR b 10 x) : GotD b 10 [] := by
  rcases h with ⟨-, h8, hb, -⟩ | ⟨e, -⟩ | ⟨e, -⟩
  · exact .inl ⟨rfl, h8, hb, rfl⟩
  · rcases e with e | e <;> cases e
  · cases e
theorem got_form {b x : List Nat} {e : Nat} (h : OpenR b e x) (h1 : e ≠ 0) (h2 : e ≠ 10) : GotD b 4 [] := by
  rcases h with ⟨e, -⟩ | ⟨-, hb, -, hn⟩ | ⟨e, -⟩
  · exact absurd e h2
  · refine .inr (.inl ⟨rfl, hb, rfl, fun q hq => ?_⟩)
    obtain ⟨q1, q2⟩ := put_ok hq
    exact hn _ _ (Nat.le_refl _) q2
  · exact absurd e h1
end Go.Proofs.YtpgghajkpjhieaaGreatDoor

namespace Go.Proofs.YtpgghajkpjhieaaGreatDoor

/-- How many bytes are told. -/
def tldN (b : List Nat) : Nat := 256 * b.getD 4 0 + b.getD 5 0
/-- The form of what is sealed. -/
def formOK (b : List Nat) : Prop := b.getD 6 0 = 0 ∧ b.getD 7 0 = 0 ∧ ∀ x ∈ b.drop (8 + tldN b), x = 0
instance (b : List Nat) : Decidable (formOK b) := inferInstanceAs (Decidable (_ ∧ _ ∧ _))
/-- What Open tells of 8 + m bytes. -/
def openM (b : List Nat) (m : Nat) : List Nat × Nat :=
  if b.take 4 = fourOf (crcOf (b.drop 4)) then (if tldN b ≤ m then (if formOK b then ((b.drop 8).take (tldN b), 0) else ([], 4)) else ([], 4)) else ([], 10)
theorem drop_four {b : List Nat} {m : Nat} (h : b.length = 8 + m) : b.drop 4 = [b.getD 4 0, b.getD 5 0, b.getD 6 0, b.getD 7 0] ++ b.drop 8 := by
  match b, h with
  | x0 :: x1 :: x2 :: x3 :: x4 :: x5 :: x6 :: x7 :: b, _ => rfl
  | [], h | [_], h | [_, _], h | [_, _, _], h | [_, _, _, _], h | [_, _, _, _, _], h | [_, _, _, _, _, _], h | [_, _, _, _, _, _, _], h => simp at h; try omega
theorem take_four {b : List Nat} {m : Nat} (h : b.length = 8 + m) : b.take 4 = [b.getD 0 0, b.getD 1 0, b.getD 2 0, b.getD 3 0] := by
  match b, h with
  | x0 :: x1 :: x2 :: x3 :: b, _ => rfl
  | [], h | [_], h | [_, _], h | [_, _, _], h => simp at h; try omega
theorem getD_lt {b : List Nat} (h : Bts b) (i : Nat) : b.getD i 0 < 256 := by
  rw [List.getD_eq_getElem?_getD]
  cases e : b[i]? with
  | none => simp
  | some x => exact h x (List.mem_of_getElem? e)
/-- What was sealed has the form. -/
theorem seal_form {b y : List Nat} {m : Nat} (hs : sealS y m = b) : tldN b = y.length ∧ formOK b ∧ (b.drop 8).take y.length = y := by
  subst hs
  have e : sealS y m = fourOf (crcOf (innerS y m)) ++ ([y.length / 256, y.length % 256, 0, 0] ++ (y ++ List.replicate (m - y.length) 0)) := by simp [sealS, innerS]
  rw [e]
  have ht : tldN (fourOf (crcOf (innerS y m)) ++ ([y.length / 256, y.length % 256, 0, 0] ++ (y ++ List.replicate (m - y.length) 0))) = y.length := by
    show 256 * (y.length / 256) + y.length % 256 = y.length
    omega
  refine ⟨ht, ⟨rfl, rfl, ?_⟩, ?_⟩
  · rw [ht]
    have : (fourOf (crcOf (innerS y m)) ++ ([y.length / 256, y.length % 256, 0, 0] ++ (y ++ List.replicate (m - y.length) 0))).drop (8 + y.length) = List.replicate (m - y.length) 0 := by
      rw [← List.drop_drop]
      show (y ++ List.replicate (m - y.length) 0).drop y.length = _
      rw [List.drop_left]
    rw [this]
    intro x hx
    exact List.eq_of_mem_replicate hx
  · show (y ++ List.replicate (m - y.length) 0).take y.length = y
    rw [List.take_left]
/-- What has the form, laid again, is these bytes. -/
theorem form_seal {b : List Nat} {m : Nat} (hl : b.length = 8 + m) (hb : Bts b) (h4 : b.take 4 = fourOf (crcOf (b.drop 4))) (hn : tldN b ≤ m) (hf : formOK b) : sealS ((b.drop 8).take (tldN b)) m = b := by
  have b4 := getD_lt hb 4
  have b5 := getD_lt hb 5
  have hd := drop_four hl
  have hsp : b = b.take 4 ++ b.drop 4 := (List.take_append_drop 4 b).symm
  obtain ⟨e6, e7, hz⟩ := hf
  have hxl : ((b.drop 8).take (tldN b)).length = tldN b := by rw [List.length_take, List.length_drop, hl]; omega
  have h8 : b.drop 8 = (b.drop 8).take (tldN b) ++ b.drop (8 + tldN b) := by rw [← List.drop_drop, List.take_append_drop]
  have hr : b.drop (8 + tldN b) = List.replicate (m - tldN b) 0 := by
    have := List.eq_replicate_iff.2 ⟨rfl, hz⟩
    rw [this, List.length_drop, hl]
    congr 1
    omega
  have h1 : innerS ((b.drop 8).take (tldN b)) m = b.drop 4 := by
    unfold innerS
    rw [hxl, hd, e6, e7, List.append_assoc, ← hr, ← h8]
    unfold tldN
    rw [show (256 * b.getD 4 0 + b.getD 5 0) / 256 = b.getD 4 0 from by omega, show (256 * b.getD 4 0 + b.getD 5 0) % 256 = b.getD 5 0 from by omega]
  unfold sealS
  rw [h1, ← h4]
  exact hsp.symm
theorem open_R {b : List Nat} {m : Nat} (hl : b.length = 8 + m) (hb : Bts b) : OpenR b (openM b m).2 (openM b m).1 := by
  have hno : ¬ (tldN b ≤ m ∧ formOK b) → ∀ y k, y.length ≤ k → sealS y k ≠ b := by
    intro h y k hk hs
    have hlen := congrArg List.length hs
    rw [sealS_len hk, hl] at hlen
    obtain rfl : k = m := by omega
    obtain ⟨h1, h2, -⟩ := seal_form hs
    exact h ⟨by omega, h2⟩
  unfold openM
  by_cases h4 : b.take 4 = fourOf (crcOf (b.drop 4))
  · rw [if_pos h4]
    by_cases hn : tldN b ≤ m
    · rw [if_pos hn]
      by_cases hf : formOK b
      · rw [if_pos hf]
        refine .inr (.inr ⟨rfl, by omega, m, by rw [List.length_take, List.length_drop]; omega, form_seal hl hb h4 hn hf, (hb.drop 8).take _⟩)
      · rw [if_neg hf]
        exact .inr (.inl ⟨.inl rfl, fun _ h => h h4, rfl, hno (fun h => hf h.2)⟩)
    · rw [if_neg hn]
      exact .inr (.inl ⟨.inl rfl, fun _ h => h h4, rfl, hno (fun h => hn h.1)⟩)
  · rw [if_neg h4]
    exact .inl ⟨rfl, by omega, h4, rfl⟩
/-- Fewer bytes than a seal has are none. -/
theorem open_short {b : List Nat} (h : b.length < 8) {e : Nat} (he : e = 4 ∨ e = 2) : OpenR b e [] :=
  .inr (.inl ⟨he, fun q => absurd q (by omega), rfl, fun y k hk hs => by have := congrArg List.length hs; rw [sealS_len hk] at this; omega⟩)
end Go.Proofs.YtpgghajkpjhieaaGreatDoor

namespace Go.Proofs.YtpgghajkpjhieaaGreatDoor

theorem xor_can {a b c : Nat} (h : a ^^^ c = b ^^^ c) : a = b := by
  have := congrArg (· ^^^ c) h
  simpa [Nat.xor_assoc] using this
theorem step1_inj {a b : Nat} (ha : a < 4294967296) (hb : b < 4294967296) (h : step1 a = step1 b) : a = b := by
  have low : ∀ x y : Nat, (2 * x) % 4294967296 ^^^ poly = (2 * y) % 4294967296 → False := by
    intro x y q
    have q0 := congrArg (fun z => Nat.testBit z 0) q
    simp only [Nat.testBit_xor] at q0
    have e : ∀ z : Nat, Nat.testBit ((2 * z) % 4294967296) 0 = false := fun z => by
      rw [Nat.testBit_zero]
      have : (2 * z) % 4294967296 % 2 = 0 := by omega
      simp [this]
    rw [e x, e y] at q0
    have hp : Nat.testBit poly 0 = true := by decide
    rw [hp] at q0
    simp at q0
  unfold step1 at h
  split at h
  · split at h
    · have := xor_can h; omega
    · exact (low _ _ h).elim
  · split at h
    · exact (low _ _ h.symm).elim
    · omega
theorem itS_inj : ∀ (k : Nat) {a b : Nat}, a < 4294967296 → b < 4294967296 → itS k a = itS k b → a = b
  | 0, _, _, _, _, h => h
  | k + 1, a, b, ha, hb, h => by
    first
      | exact step1_inj ha hb (itS_inj k (step1_lt ha) (step1_lt hb) h)
      | exact itS_inj k ha hb (step1_inj (itS_lt ha k) (itS_lt hb k) h)
def stF (r c : Nat) : Nat := itS 8 (r ^^^ c * 16777216)
theorem stF_lt {r c : Nat} (hr : r < 4294967296) (hc : c < 256) : stF r c < 4294967296 := itS_lt (xor32_lt hr (by omega)) 8
theorem stF_inj {r s c d : Nat} (hr : r < 4294967296) (hs : s < 4294967296) (hc : c < 256) (hd : d < 256) (h : stF r c = stF s d) : r ^^^ c * 16777216 = s ^^^ d * 16777216 :=
  itS_inj 8 (xor32_lt hr (by omega)) (xor32_lt hs (by omega)) h
def regF : List Nat → Nat → Nat
  | [], r => r
  | c :: l, r => regF l (stF r c)
theorem regF_cons (c : Nat) (l : List Nat) (r : Nat) : regF (c :: l) r = regF l (stF r c) := by simp only [regF]
theorem fold_F : ∀ (l : List Nat) (r : Nat), l.foldl (fun r c => itS 8 (r ^^^ c * 16777216)) r = regF l r
  | [], r => by simp only [regF, List.foldl_nil]
  | c :: l, r => by
    rw [List.foldl_cons, fold_F l, regF_cons]
    simp only [stF]
theorem regOf_F (l : List Nat) : regOf l = regF l 4294967295 := by
  unfold regOf
  exact fold_F l _
theorem regF_lt : ∀ {l : List Nat} {r : Nat}, r < 4294967296 → Bts l → regF l r < 4294967296
  | [], _, hr, _ => by simpa only [regF] using hr
  | c :: l, r, hr, h => by
    rw [regF_cons]
    exact regF_lt (stF_lt hr (h c (by simp))) (fun x hx => h x (by simp [hx]))
theorem regF_inj : ∀ {l : List Nat} {r s : Nat}, Bts l → r < 4294967296 → s < 4294967296 → regF l r = regF l s → r = s
  | [], _, _, _, _, _, h => by simpa only [regF] using h
  | c :: l, r, s, hb, hr, hs, h => by
    have hc := hb c (by simp)
    rw [regF_cons, regF_cons] at h
    have h1 := regF_inj (fun x hx => hb x (by simp [hx])) (stF_lt hr hc) (stF_lt hs hc) h
    exact xor_can (stF_inj hr hs hc hc h1)
theorem regF_app : ∀ (l m : List Nat) (r : Nat), regF (l ++ m) r = regF m (regF l r)
  | [], _, _ => by simp only [regF, List.nil_append]
  | c :: l, m, r => by rw [List.cons_append, regF_cons, regF_cons, regF_app l m]
theorem crc_turned {l : List Nat} (hb : Bts l) {i : Nat} (hi : i < l.length) {c : Nat} (hc : c < 256) (hne : c ≠ l[i]) : crcOf (l.set i c) ≠ crcOf l := by
  intro h
  have hreg : regF (l.set i c) 4294967295 = regF l 4294967295 := by
    have := xor_can h
    rwa [regOf_F, regOf_F] at this
  have hbi := hb l[i] (List.getElem_mem hi)
  have hbA : Bts (l.take i) := hb.take i
  have hbB : Bts (l.drop (i + 1)) := hb.drop (i + 1)
  have e1 : l.set i c = l.take i ++ c :: l.drop (i + 1) := by rw [List.set_eq_take_append_cons_drop, if_pos hi]
  have e2 : l = l.take i ++ l[i] :: l.drop (i + 1) := by rw [← List.drop_eq_getElem_cons hi, List.take_append_drop]
  rw [e1] at hreg
  conv at hreg => rhs; rw [e2]
  rw [regF_app, regF_app, regF_cons, regF_cons] at hreg
  have hR := regF_lt (r := 4294967295) (by omega) hbA
  generalize regF (l.take i) 4294967295 = R at hreg hR
  have h1 := regF_inj hbB (stF_lt hR hc) (stF_lt hR hbi) hreg
  have h2 := stF_inj hR hR hc hbi h1
  rw [Nat.xor_comm R, Nat.xor_comm R] at h2
  have := xor_can h2
  omega
theorem fourOf_inj {a b : Nat} (ha : a < 4294967296) (hb : b < 4294967296) (h : fourOf a = fourOf b) : a = b := by
  simp only [fourOf, List.cons.injEq, and_true] at h
  omega
theorem turned_bad {b : List Nat} (hb : Bts b) (hg : ¬ BadS b) {i : Nat} (hi : i < b.length) {c : Nat} (hc : c < 256) (hne : c ≠ b[i]) : BadS (b.set i c) := by
  have hg : b.take 4 = fourOf (crcOf (b.drop 4)) := Classical.byContradiction hg
  intro h
  by_cases h4 : i < 4
  · rw [List.drop_set_of_lt h4, ← hg] at h
    have := congrArg (fun l => l[i]?) h
    simp only [List.getElem?_take, if_pos h4, List.getElem?_set_self hi] at this
    rw [List.getElem?_eq_getElem hi] at this
    exact hne (Option.some.inj this)
  · have ht : (b.set i c).take 4 = b.take 4 := by rw [List.take_set_of_le (by omega)]
    have hd : (b.set i c).drop 4 = (b.drop 4).set (i - 4) c := by rw [List.drop_set, if_neg (by omega)]
    rw [ht, hd, hg] at h
    have hil : i - 4 < (b.drop 4).length := by rw [List.length_drop]; omega
    have hset : Bts ((b.drop 4).set (i - 4) c) := by
      intro x hx
      rcases List.mem_or_eq_of_mem_set hx with q | rfl
      · exact hb.drop 4 x q
      · exact hc
    have := fourOf_inj (crcOf_lt _ (hb.drop 4)) (crcOf_lt _ hset) h
    refine crc_turned (hb.drop 4) hil hc ?_ this.symm
    rw [List.getElem_drop]
    intro q
    apply hne
    rw [q]
    congr 1
    omega
end Go.Proofs.YtpgghajkpjhieaaGreatDoor
