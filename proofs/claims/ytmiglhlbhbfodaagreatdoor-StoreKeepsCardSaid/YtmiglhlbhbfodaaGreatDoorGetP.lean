/- What the bytes of a map say; no program in sight. -/
import Derived.Test.YtmiglhlbhbfodaaGreatDoorRuns
import Derived.Test.YtmiglhlbhbfodaaGreatDoorGOrd
namespace Go.Proofs.YtmiglhlbhbfodaaGreatDoor

theorem rdSmall_put (n : Nat) (h : n ≤ 1099511627776) (t : List Nat) : rdSmall (putSmall n ++ t) 0 = (t, 0, n) := by
  have e := getSmall_put n (by omega) t
  have l : (putSmall n).length = wid n + 1 := by simp [putSmall, be_length]
  unfold rdSmall
  rw [e]
  simp only
  rw [← l]
  simp [h]

theorem rle_nil {o : Bool} {l : List Bool} (h : rle o 0 l = []) : l = [] := by
  cases l with
  | nil => rfl
  | cons b bs =>
    unfold rle at h
    split at h
    · exfalso
      have : ∀ (bs : List Bool) (o : Bool) (r : Nat), 0 < r → rle o r bs ≠ [] := by
        intro bs
        induction bs with
        | nil => intro o r hr; unfold rle; rw [if_neg (by omega)]; simp
        | cons b bs ih => intro o r hr; unfold rle; split; exact ih _ _ (by omega); simp
      exact this bs o 1 (by omega) h
    · cases h
theorem putRuns_nil {l : List Nat} (h : putRuns l = []) : l = [] := by
  cases l with
  | nil => rfl
  | cons a l =>
    rw [putRuns_cons] at h
    have := putSmall_pos a
    have h2 := congrArg List.length h
    rw [List.length_append, List.length_nil] at h2
    omega

/-- The end of the run that begins at f. -/
theorem run_end (ws : List Nat) (s f : Nat) (o : Bool) (h : f ≤ s) : ∃ T, f ≤ T ∧ T ≤ s ∧ (∀ j, f ≤ j → j < T → bitN ws j = o) ∧ (T < s → bitN ws T = !o) := by
  induction hd : s - f generalizing f with
  | zero => exact ⟨f, Nat.le_refl _, h, fun j h1 h2 => by omega, fun h2 => by omega⟩
  | succ d ih =>
    by_cases hb : bitN ws f = o
    · obtain ⟨T, h1, h2, h3, h4⟩ := ih (f + 1) (by omega) (by omega)
      refine ⟨T, by omega, h2, fun j h5 h6 => ?_, h4⟩
      by_cases e : j = f
      · subst e; exact hb
      · exact h3 j (by omega) h6
    · exact ⟨f, Nat.le_refl _, h, fun j h1 h2 => by omega, fun _ => by revert hb; cases bitN ws f <;> cases o <;> simp⟩

/-- What is left is what a map's runs say from f on; what is set is what the map has below f. -/
def Cons (b : List Nat) (s : Nat) (xs : List Nat) (er f : Nat) (o : Bool) (ws : List Nat) : Prop :=
  ∀ s0 ws0, Words ws0 → mapOK (s0 : Nat) ws0 = true → putMap s0 ws0 = b →
    s0 = s ∧ er = 0 ∧ f ≤ s ∧ xs = putRuns (rle o 0 ((bitsL s ws0).drop f)) ∧ ∀ j, j < 64 * ws.length → bitN ws j = (decide (j < f) && bitN ws0 j)

theorem cons_start (b : List Nat) : Cons b (rdSmall b 0).2.2 (rdSmall b 0).1 (rdSmall b 0).2.1 0 false (List.replicate (((rdSmall b 0).2.2 + 63) / 64) 0) := by
  intro s0 ws0 _ hm e
  have h4 := mapOK_pos hm
  rw [← e, putMap, rdSmall_put s0 (by omega)]
  refine ⟨rfl, rfl, Nat.zero_le _, rfl, fun j _ => ?_⟩
  have : (List.replicate ((s0 + 63) / 64) 0).getD (j / 64) 0 = 0 := by
    rw [List.getD, List.getElem?_replicate]; split <;> rfl
  unfold bitN
  rw [this]
  simp

/-- No map has these bytes, if the size is none. -/
theorem cons_size {b : List Nat} (h : 4096 < (rdSmall b 0).2.2) : ∀ s0 ws0, Words ws0 → mapOK (s0 : Nat) ws0 = true → putMap s0 ws0 ≠ b := by
  intro s0 ws0 hw hm e
  have := (cons_start b s0 ws0 hw hm e).1
  have := mapOK_pos hm
  omega

theorem cons_more {b : List Nat} {s : Nat} {xs : List Nat} {er f : Nat} {o : Bool} {ws : List Nat} (h : Cons b s xs er f o ws) (hx : xs ≠ []) {s0 : Nat} {ws0 : List Nat} (hw : Words ws0) (hm : mapOK (s0 : Nat) ws0 = true) (e : putMap s0 ws0 = b) :
    ∃ T, f ≤ T ∧ T ≤ s ∧ (∀ j, f ≤ j → j < T → bitN ws0 j = o) ∧ rdSmall xs er = (putRuns (rle (!o) 0 ((bitsL s ws0).drop T)), 0, T - f) ∧ (rdSmall xs er).1.length < xs.length := by
  obtain ⟨rfl, rfl, hf, rfl, _⟩ := h s0 ws0 hw hm e
  obtain ⟨T, h1, h2, h3, h4⟩ := run_end ws0 s0 f o hf
  have hlt : f < s0 := by
    rcases Nat.lt_or_ge f s0 with h | h
    · exact h
    · exfalso
      apply hx
      rw [List.drop_of_length_le (by rw [bitsL_len]; exact h)]
      simp [rle, putRuns]
  have ep := mapOK_pos hm
  rw [rle_step o s0 ws0 f T h1 h2 hlt h3 h4, putRuns_cons, rdSmall_put (T - f) (by omega)]
  refine ⟨T, h1, h2, h3, rfl, ?_⟩
  have := putSmall_pos (T - f)
  simp
  omega

/-- A run is read: n numbers from f on are in, if o. -/
theorem cons_step {b : List Nat} {s : Nat} {xs : List Nat} {er f : Nat} {o : Bool} {ws zs : List Nat} (h : Cons b s xs er f o ws) (hx : xs ≠ []) (hl : zs.length = ws.length)
    (hz : ∀ j, j < 64 * ws.length → bitN zs j = (bitN ws j || (o && (decide (f ≤ j) && decide (j < min s (f + (rdSmall xs er).2.2)))))) :
    Cons b s (rdSmall xs er).1 (rdSmall xs er).2.1 (f + (rdSmall xs er).2.2) (!o) zs := by
  intro s0 ws0 hw hm e
  obtain ⟨T, h1, h2, h3, h4, _⟩ := cons_more h hx hw hm e
  obtain ⟨q1, q2, q3, q4, q5⟩ := h s0 ws0 hw hm e
  rw [h4] at hz ⊢
  simp only at hz ⊢
  have eT : f + (T - f) = T := by omega
  rw [eT] at hz ⊢
  refine ⟨q1, trivial, h2, rfl, fun j hj => ?_⟩
  rw [hl] at hj
  rw [hz j hj, q5 j hj]
  have em : min s T = T := by omega
  rw [em]
  by_cases c1 : j < f
  · have c2 : ¬ f ≤ j := by omega
    have c3 : j < T := by omega
    simp [c1, c2, c3]
  · by_cases c3 : j < T
    · have c2 : f ≤ j := by omega
      rw [h3 j c2 c3]
      simp [c1, c2, c3]
    · have c2 : f ≤ j := by omega
      simp [c1, c3]

/-- All is read: what is set is the map. -/
theorem cons_done {b : List Nat} {s : Nat} {er f : Nat} {o : Bool} {ws : List Nat} (h : Cons b s [] er f o ws) (hw : Words ws) (hl : ws.length = (s + 63) / 64) (hne : putMap s ws ≠ b) :
    ∀ s0 ws0, Words ws0 → mapOK (s0 : Nat) ws0 = true → putMap s0 ws0 ≠ b := by
  intro s0 ws0 hw0 hm e
  obtain ⟨rfl, _, q3, q4, q5⟩ := h s0 ws0 hw0 hm e
  have e1 := rle_nil (putRuns_nil q4.symm)
  have e2 := congrArg List.length e1
  rw [List.length_drop, bitsL_len] at e2
  simp at e2
  have hf : f = s0 := by omega
  subst hf
  apply hne
  have ok := (mapOK_iff hw0).1 hm
  have : ws = ws0 := by
    apply words_ext hw hw0 (by rw [hl, ok.2.1])
    intro j hj
    rw [q5 j hj]
    by_cases c : j < f
    · simp [c]
    · have := ok.2.2 j (by omega) (by rw [ok.2.1, ← hl]; exact hj)
      rw [this]; simp [c]
  rw [this]
  exact e

/-- What Get tells. -/
def GetSpec (b : List Nat) : Option (Nat × List Nat) → Prop
  | some (s, ws) => mapOK (s : Nat) ws = true ∧ Words ws ∧ putMap s ws = b
  | none => ∀ s0 ws0, Words ws0 → mapOK (s0 : Nat) ws0 = true → putMap s0 ws0 ≠ b
theorem get_one {b : List Nat} {x y : Option (Nat × List Nat)} (hx : GetSpec b x) (hy : GetSpec b y) : x = y := by
  have both : ∀ (s t : Nat) (us vs : List Nat), GetSpec b (some (s, us)) → GetSpec b (some (t, vs)) → s = t ∧ us = vs := by
    intro s t us vs h1 h2
    obtain ⟨m1, w1, e1⟩ := h1
    obtain ⟨m2, w2, e2⟩ := h2
    have c := cons_start b
    have a1 := (c s us w1 m1 e1).1
    have a2 := (c t vs w2 m2 e2).1
    have est : s = t := by omega
    refine ⟨est, ?_⟩
    subst est
    have ok1 := (mapOK_iff w1).1 m1
    have ok2 := (mapOK_iff w2).1 m2
    have r1 := (c s us w1 m1 e1).2.2.2.1
    have r2 := (c s vs w2 m2 e2).2.2.2.1
    rw [← a1] at r1 r2
    have er := r1.symm.trans r2
    apply words_ext w1 w2 (by rw [ok1.2.1, ok2.2.1])
    have key : ∀ (d f : Nat) (o : Bool), s - f = d → f ≤ s → putRuns (rle o 0 ((bitsL s us).drop f)) = putRuns (rle o 0 ((bitsL s vs).drop f)) → ∀ j, f ≤ j → j < s → bitN us j = bitN vs j := by
      intro d
      induction d using Nat.strongRecOn with
      | _ d ih =>
        intro f o hd hf he j hj1 hj2
        obtain ⟨T1, p1, p2, p3, p4⟩ := run_end us s f o hf
        obtain ⟨T2, q1, q2, q3, q4⟩ := run_end vs s f o hf
        have h4 := mapOK_pos m1
        rw [rle_step o s us f T1 p1 p2 (by omega) p3 p4, rle_step o s vs f T2 q1 q2 (by omega) q3 q4, putRuns_cons, putRuns_cons] at he
        have d1 := rdSmall_put (T1 - f) (by omega) (putRuns (rle (!o) 0 ((bitsL s us).drop T1)))
        have d2 := rdSmall_put (T2 - f) (by omega) (putRuns (rle (!o) 0 ((bitsL s vs).drop T2)))
        rw [he, d2] at d1
        simp only [Prod.mk.injEq, true_and] at d1
        have eT : T1 = T2 := by omega
        subst eT
        by_cases c : j < T1
        · rw [p3 j hj1 c, q3 j hj1 c]
        · by_cases e0 : T1 = f
          · -- an empty run: one more step
            subst e0
            obtain ⟨T3, u1, u2, u3, u4⟩ := run_end us s T1 (!o) (by omega)
            obtain ⟨T4, v1, v2, v3, v4⟩ := run_end vs s T1 (!o) (by omega)
            have he2 := d1.1.symm
            rw [rle_step (!o) s us T1 T3 u1 u2 (by omega) u3 u4, rle_step (!o) s vs T1 T4 v1 v2 (by omega) v3 v4, putRuns_cons, putRuns_cons] at he2
            have f1 := rdSmall_put (T3 - T1) (by omega) (putRuns (rle (!!o) 0 ((bitsL s us).drop T3)))
            have f2 := rdSmall_put (T4 - T1) (by omega) (putRuns (rle (!!o) 0 ((bitsL s vs).drop T4)))
            rw [he2, f2] at f1
            simp only [Prod.mk.injEq, true_and] at f1
            have eT2 : T3 = T4 := by omega
            subst eT2
            have hgt : T1 < T3 := by
              rcases Nat.lt_or_ge T1 T3 with h | h
              · exact h
              · have e3 : T3 = T1 := by omega
                subst e3
                have z1 := u4 (by omega)
                have z2 := p4 (by omega)
                rw [z1] at z2
                cases o <;> simp at z2
            by_cases c2 : j < T3
            · rw [u3 j hj1 c2, v3 j hj1 c2]
            · exact ih (s - T3) (by omega) T3 (!!o) rfl (by omega) f1.1.symm j (by omega) hj2
          · exact ih (s - T1) (by omega) T1 (!o) rfl (by omega) d1.1.symm j (by omega) hj2
    intro j hj
    by_cases c : j < s
    · exact key (s - 0) 0 false rfl (Nat.zero_le _) er j (Nat.zero_le _) c
    · rw [ok1.2.2 j (by omega) hj, ok2.2.2 j (by omega) (by rw [ok2.2.1, ← ok1.2.1]; exact hj)]
  cases x with
  | none =>
    cases y with
    | none => rfl
    | some y => obtain ⟨h1, h2, h3⟩ := hy; exact absurd h3 (hx _ _ h2 h1)
  | some x =>
    cases y with
    | none => obtain ⟨h1, h2, h3⟩ := hx; exact absurd h3 (hy _ _ h2 h1)
    | some y =>
      obtain ⟨h1, h2⟩ := both _ _ _ _ hx hy
      cases x; cases y
      simp_all

end Go.Proofs.YtmiglhlbhbfodaaGreatDoor
