/- A log in plain words: what stays true of it. -/
import Derived.Test.YtlmpkonfclnceaaGreatWl7
namespace Go.Proofs.YtlmpkonfclnceaaGreat

theorem alive_zero {L : Lg} (h : aliveE L = 0) : L.bad = false ∧ L.closed = false := by
  unfold aliveE at h
  cases hb : L.bad <;> cases hc : L.closed <;> simp [hb, hc] at h ⊢
theorem syncL_ok {L : Lg} {N : Nat} (h : LOK L N) (D : Dsk) : LOK (syncL L D).1 N := by
  unfold syncL
  by_cases h0 : aliveE L ≠ 0
  · rw [if_pos h0]; exact h
  · rw [if_neg h0]
    have hc := (alive_zero (by omega : aliveE L = 0)).2
    by_cases h1 : L.wait = []
    · rw [if_pos h1]; exact h
    · rw [if_neg h1]
      by_cases h2 : (wrSync D (L.first + L.at_) (packS L.epoch L.at_ L.wait)).2 = 0
      · rw [if_pos h2]
        have hr := h.room hc
        have hl := h.hl
        have hp := len_prt L.wait
        rw [hc] at hl
        refine ⟨h.ring, h.cnt, h.ep, fun _ => ?_, ?_, fun s hs => (by cases hs), fun s hs => (by cases hs), fun s hs => ?_, ?_, Nat.zero_le _⟩
        · show L.at_ + prt L.wait + prt [] ≤ L.count
          rw [prt_nil]; exact hr
        · show L.at_ + prt L.wait ≤ L.count
          exact hr
        · rcases List.mem_append.1 hs with hs | hs
          · exact h.hb s hs
          · exact h.wb s hs
        · show (L.has ++ L.wait).length ≤ 239 * (if L.closed then L.count else L.at_ + prt L.wait)
          rw [hc, List.length_append]
          simp only [Bool.false_eq_true, if_false] at hl ⊢
          omega
      · rw [if_neg h2]
        exact ⟨h.ring, h.cnt, h.ep, h.room, h.atc, h.short, h.wb, h.hb, h.hl, h.wl⟩
theorem scanS_len (e : Int) : ∀ (l : List (List Nat)) (i : Nat), (scanS e i l).1.length ≤ 239 * l.length
  | [], i => by simp [scanS]
  | b :: l, i => by
    simp only [scanS]
    cases ho : readS b e i with
    | none => simp
    | some x =>
      have hy := readS_some ho
      have hyl : x.length ≤ 239 := Nat.le_trans (bdy_count x) hy.2.2.1
      have := scanS_len e l (i + 1)
      simp only [List.length_append, List.length_cons]
      omega
theorem readS_bts {b : List Nat} (hb : Bts b) {e a : Int} {l : List (List Nat)} (h : readS b e a = some l) : TBts l := by
  obtain ⟨_, _, h3, h4⟩ := readS_some h
  have := layS_part e.toNat a.toNat h3
  rw [h4] at this
  exact (layS_okT hb this.symm).2.1
theorem scanS_bts (e : Int) : ∀ (l : List (List Nat)) (i : Nat), (∀ b ∈ l, Bts b) → TBts (scanS e i l).1
  | [], i, _ => fun s hs => (by simp [scanS] at hs)
  | b :: l, i, h => by
    simp only [scanS]
    cases ho : readS b e i with
    | none => intro s hs; simp at hs
    | some x =>
      intro s hs
      rcases List.mem_append.1 hs with hs | hs
      · exact readS_bts (h b (by simp)) ho s hs
      · exact scanS_bts e l (i + 1) (fun y hy => h y (by simp [hy])) s hs
theorem openL_ok {D : Dsk} (hD : D.OK) {f c e : Int} (h : newE D f c e = 0) : LOK (openL D f c e) D.s.length := by
  have h0 := newL_ok h
  have h1 := scanS_len e (ringS D f.toNat c.toNat) 0
  rw [ringS_len] at h1
  refine ⟨h0.ring, h0.cnt, h0.ep, fun q => (by cases q), h0.atc, h0.short, h0.wb, scanS_bts e _ 0 (fun b hb => (ringS_ok hD _ _ b hb).1), ?_, h0.wl⟩
  show (scanS e 0 (ringS D f.toNat c.toNat)).1.length ≤ 239 * c.toNat
  exact h1
end Go.Proofs.YtlmpkonfclnceaaGreat
