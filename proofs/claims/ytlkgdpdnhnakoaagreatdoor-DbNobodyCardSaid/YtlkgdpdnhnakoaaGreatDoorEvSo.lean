/- EvSo: a disk's settling, by the evaluator. -/
import Derived.Test.YtlkgdpdnhnakoaaGreatDoorEvSe
import Derived.Test.YtlkgdpdnhnakoaaGreatDoorGEvC
namespace Go.Proofs.YtlkgdpdnhnakoaaGreatDoor
namespace Ev
variable {X : Type} {E : Xs X} {G : Nat}

/-- No entry at this key, nor of this birth. -/
def freshE (n b : Nat) : List (Ce × A0 × Nat) → Bool
  | [] => true
  | (.I _ (.ofNat m), _, c) :: l => match Nat.beq n m, Nat.beq b c with
    | false, false => freshE n b l
    | _, _ => false
  | _ => false
/-- Entries keyed by sectors' numbers, each with a sector. -/
def waitsE (N clock : Nat) : List (Ce × A0 × Nat) → Bool
  | [] => true
  | (.I .i64 (.ofNat n), .G cs, b) :: l => match Nat.ble (Nat.succ n) N, Nat.beq cs.length (nat_lit 256), Nat.ble (Nat.succ b) clock, freshE n b l with
    | true, true, true, true => waitsE N clock l
    | _, _, _, _ => false
  | _ => false
noncomputable def layE (o : Nat) : List (Ce × A0 × Nat) → T Ce → T Ce
  | [], t => t
  | (.I _ (.ofNat n), .G cs, _) :: l, t => (T.putL cs t (Nat.add o (Nat.mul n (nat_lit 256)))).seq fun t => tick (layE o l t)
  | _ :: l, t => tick (layE o l t)
noncomputable def settleO (args : List AV) (h : Hp X) : Option (AV × Hp X) := match args with
  | [.V (.C (.P (some (d, o))))] => match h.t.get d with
    | some (.cells td nd _) => match Nat.ble (Nat.add o (nat_lit 2)) nd, td.get o, td.get (Nat.succ o) with
      | true, some (.L (some (b, ob)) N (.k _)), some (.M (some m)) => match h.t.get b, h.t.get m with
        | some (.cells tb nb eb), some (.map es c) => match Nat.ble (Nat.add ob (Nat.mul N (nat_lit 256))) nb, Nat.beq d b, waitsE N c es with
          | true, false, true => some (.U [], ⟨(h.t.put b (.cells (layE ob es tb) nb eb)).put m (.map [] c), h.next⟩)
          | _, _, _ => none
        | _, _ => none
      | _, _, _ => none
    | _ => none
  | _ => none

/-- What waits, by the model's entries. -/
def aggL : Value → Option (List Value)
  | .agg a => some a.toList
  | _ => none
open Classical in
noncomputable def hsM : List MapEntry → Nat → Option (List Value)
  | [], _ => none
  | e :: l, n => if e.key = .int .i64 (n : Nat) then aggL e.val else hsM l n
open Classical in
theorem hsM_at (e : MapEntry) (l : List MapEntry) (n : Nat) : hsM (e :: l) n = if e.key = .int .i64 (n : Nat) then aggL e.val else hsM l n := rfl
theorem hsM_cons {e : MapEntry} {l : List MapEntry} {m : Nat} {vs : List Value} (hk : e.key = .int .i64 (m : Nat)) (hv : e.val = .agg vs.toArray) (n : Nat) : hsM (e :: l) n = if n = m then some vs else hsM l n := by
  rw [hsM_at, hk, hv]
  by_cases h : n = m
  · subst h; rw [if_pos rfl, if_pos rfl]; simp [aggL]
  · rw [if_neg h, if_neg]
    intro e
    simp at e
    omega
theorem waitsE_cons {N clock : Nat} {e : Ce × A0 × Nat} {l : List (Ce × A0 × Nat)} (h : waitsE N clock (e :: l) = true) :
    ∃ n cs b, e = (.I .i64 (.ofNat n), .G cs, b) ∧ n < N ∧ cs.length = 256 ∧ b < clock ∧ freshE n b l = true ∧ waitsE N clock l = true := by
  unfold waitsE at h
  split at h
  · cases ‹_ = []›
  · rename_i n cs b l' he
    injection he with h1 h2
    subst h1; subst h2
    split at h
    · rename_i q1 q2 q3 q4
      exact ⟨n, cs, b, rfl, Nat.le_of_ble_eq_true q1, Nat.eq_of_beq_eq_true q2, Nat.le_of_ble_eq_true q3, q4, h⟩
    · cases h
  · cases h
theorem mR_at {V : Vn} {n b : Nat} {cs : List Ce} {e : MapEntry} (h : mR V (.I .i64 (.ofNat n), .G cs, b) e) : e.key = .int .i64 (n : Nat) ∧ e.born = b ∧ ∃ vs : List Value, All2 (Ce.rel V) cs vs ∧ e.val = .agg vs.toArray := by
  obtain ⟨h1, h2, h3⟩ := h
  exact ⟨h1, h3, h2⟩
theorem fresh_spec {V : Vn} {n b : Nat} : ∀ {es : List (Ce × A0 × Nat)} {ms : List MapEntry}, freshE n b es = true → All2 (mR V) es ms → (∀ e ∈ ms, e.key ≠ .int .i64 (n : Nat) ∧ e.born ≠ b)
  | [], [], _, _, e, he => by cases he
  | x :: es, y :: ms, h, hr, e, he => by
    unfold freshE at h
    split at h
    · cases ‹_ = []›
    · rename_i k m v c l' hx
      injection hx with h1 h2
      subst h1; subst h2
      split at h
      · rename_i q1 q2
        rcases List.mem_cons.1 he with rfl | he
        · obtain ⟨r1, _, r3⟩ := hr.1
          have r1 : e.key = .int k (m : Nat) := r1
          have r3 : e.born = c := r3
          refine ⟨fun q => ?_, fun q => ?_⟩
          · rw [r1] at q
            injection q with _ q
            have : m = n := by omega
            subst this
            simp at q1
          · rw [r3] at q; subst q; simp at q2
        · exact fresh_spec h hr.2 e he
      · cases h
    · cases h
theorem hsM_none {ms : List MapEntry} {n : Nat} (h : ∀ e ∈ ms, e.key ≠ .int .i64 (n : Nat)) : hsM ms n = none := by
  induction ms with
  | nil => rfl
  | cons e l ih =>
    rw [hsM_at, if_neg (h e (by simp))]
    exact ih fun x hx => h x (by simp [hx])
theorem waits_spec {V : Vn} {N clock : Nat} : ∀ {es : List (Ce × A0 × Nat)} {ms : List MapEntry}, waitsE N clock es = true → All2 (mR V) es ms →
    EntsI ms.toArray clock (waitY (hsM ms)) ∧ (∀ n y, hsM ms n = some y → n < N ∧ y.length = 256 ∧ ∀ v ∈ y, v.oneCell' = true)
  | [], [], _, _ => ⟨EntsI.empty clock, fun n y h => by cases h⟩
  | x :: es, e :: ms, h, hr => by
    obtain ⟨n, cs, b, rfl, h1, h2, h3, h4, h5⟩ := waitsE_cons h
    obtain ⟨hk, hb, vs, hv1, hv2⟩ := mR_at hr.1
    obtain ⟨⟨s1, s2, s3⟩, g⟩ := waits_spec h5 hr.2
    have hf := fresh_spec h4 hr.2
    have hc := hsM_cons (l := ms) hk hv2
    have hn := hsM_none fun e he => (hf e he).1
    refine ⟨⟨?_, ?_, ?_⟩, ?_⟩
    · obtain ⟨t1, t2, t3⟩ := s1
      refine ⟨?_, ?_, ?_⟩
      · intro y hy
        rcases List.mem_cons.1 hy with rfl | hy
        · rw [hb]; exact h3
        · exact t1 y hy
      · simp only [List.map_cons, List.nodup_cons]
        refine ⟨fun hm => ?_, t2⟩
        obtain ⟨y, hy, e2⟩ := List.mem_map.1 hm
        exact (hf y hy).2 (e2.trans hb)
      · simp only [List.map_cons, List.nodup_cons]
        refine ⟨fun hm => ?_, t3⟩
        obtain ⟨y, hy, e2⟩ := List.mem_map.1 hm
        exact (hf y hy).1 (e2.trans hk)
    · intro y hy
      rcases List.mem_cons.1 hy with rfl | hy
      · refine ⟨n, hk, ?_⟩
        unfold waitY
        rw [hc, if_pos rfl, hv2]; rfl
      · obtain ⟨j, q1, q2⟩ := s2 y hy
        refine ⟨j, q1, ?_⟩
        unfold waitY at q2 ⊢
        rw [hc]
        by_cases hj : j = n
        · subst hj; exact absurd q1 (hf y hy).1
        · rw [if_neg hj]; exact q2
    · intro j v hj
      unfold waitY at hj
      rw [hc] at hj
      by_cases hjn : j = n
      · rw [if_pos hjn] at hj
        subst hjn
        refine ⟨e, by simp, hk, ?_⟩
        rw [hv2]; simpa using hj
      · rw [if_neg hjn] at hj
        obtain ⟨y, hy, q⟩ := s3 j v hj
        exact ⟨y, by simp [hy], q⟩
    · intro j y hj
      rw [hc] at hj
      by_cases hjn : j = n
      · rw [if_pos hjn] at hj
        injection hj with hj
        subst hj; subst hjn
        refine ⟨h1, by rw [← hv1.length]; exact h2, fun v hv => ?_⟩
        obtain ⟨i, hi⟩ := List.getElem?_of_mem hv
        obtain ⟨a, ha⟩ : ∃ a, cs[i]? = some a := by
          have := (List.getElem?_eq_some_iff.1 hi).1
          rw [← hv1.length] at this
          exact ⟨_, List.getElem?_eq_getElem this⟩
        obtain ⟨v', q1, q2⟩ := hv1.get ha
        rw [hi] at q1; cases q1
        have := q2.one
        cases v <;> first | rfl | cases this
      · rw [if_neg hjn] at hj; exact g j y hj
theorem lay_spec {V : Vn} {N clock o : Nat} : ∀ {es : List (Ce × A0 × Nat)} {ms : List MapEntry} {t : T Ce}, waitsE N clock es = true → All2 (mR V) es ms → ∀ {k : Nat} {x : Ce}, (layE o es t).get k = some x →
    (o ≤ k ∧ ∃ y v, hsM ms ((k - o) / 256) = some y ∧ y[(k - o) % 256]? = some v ∧ x.rel V v) ∨ ((k < o ∨ hsM ms ((k - o) / 256) = none) ∧ t.get k = some x)
  | [], [], t, _, _, k, x, hx => .inr ⟨.inr rfl, hx⟩
  | z :: es, e :: ms, t, h, hr, k, x, hx => by
    obtain ⟨n, cs, b, rfl, h1, h2, h3, h4, h5⟩ := waitsE_cons h
    obtain ⟨hk, hb, vs, hv1, hv2⟩ := mR_at hr.1
    have hf := fresh_spec h4 hr.2
    have hc := hsM_cons (l := ms) hk hv2
    have hn := hsM_none fun e he => (hf e he).1
    have hx : (layE o es (T.putL cs t (o + n * 256))).get k = some x := by
      unfold layE at hx
      rw [T.seq_eq] at hx
      exact hx
    rcases lay_spec h5 hr.2 hx with ⟨q0, y, v, q1, q2, q3⟩ | ⟨q1, q2⟩
    · refine .inl ⟨q0, y, v, ?_, q2, q3⟩
      rw [hc, if_neg (fun e => by rw [e, hn] at q1; cases q1)]
      exact q1
    · rcases T.get_putL q2 with ⟨r1, r2⟩ | ⟨r1, r2⟩
      · have hi := (List.getElem?_eq_some_iff.1 r2).1
        obtain ⟨v, s1, s2⟩ := hv1.get r2
        have e1 : (k - o) / 256 = n := by omega
        refine .inl ⟨by omega, vs, v, by rw [hc, if_pos e1], ?_, s2⟩
        rw [show (k - o) % 256 = k - (o + n * 256) by omega]; exact s1
      · refine .inr ⟨?_, r2⟩
        rcases q1 with q1 | q1
        · exact .inl q1
        · by_cases hko : k < o
          · exact .inl hko
          · refine .inr ?_
            rw [hc, if_neg (by omega)]; exact q1
theorem settle_run {args : List AV} {h h' : Hp X} {z : AV} (q : settleO args h = some (z, h')) {V : Vn} {w : World} {xs : List Value} (s : Sim E G V h w) (hr : All2 (AV.rel V) args xs) :
    Calls Tryz.prog 84 xs.toArray w fun e w' => ∃ u, e = .returned u ∧ Post E G V h w z h' u w' := by
  unfold settleO at q
  split at q
  case h_2 => cases q
  rename_i d o
  split at q
  case h_2 => cases q
  rename_i td nd ed hgd
  split at q
  case h_2 => cases q
  rename_i b ob N cap m q1 q2 q3
  split at q
  case h_2 => cases q
  rename_i tb nb eb es c hgb hgm
  split at q
  case h_2 => cases q
  rename_i q4 q5 q6
  injection q with q; injection q with q7 q8; subst q7; subst q8
  match xs, hr with
  | [v], hr =>
    obtain ⟨a, ⟨pd, hpd, rfl⟩, rfl⟩ : ∃ a, pR V (d, o) a ∧ v = .pointer (some a) := hr.1
    have hpd : V d = some pd := hpd
    obtain ⟨_, hp', cd, tyd, fzd, hcd, hfzd, hcrd⟩ := s.ob _ _ hgd
    rw [hpd] at hp'; cases hp'
    obtain ⟨pb, hpb, cb, tyb, fzb, hcb, hfzb, hcrb⟩ := s.ob _ _ hgb
    obtain ⟨pm, hpm, ms, hcm, hms⟩ := s.ob _ _ hgm
    have q1 : o + 2 ≤ nd := Nat.le_of_ble_eq_true q1
    have q4 : ob + N * 256 ≤ nb := Nat.le_of_ble_eq_true q4
    obtain ⟨v0, r0, r1⟩ := hcrd.1 o _ (by omega) q2
    obtain ⟨v1, r2, r3⟩ := hcrd.1 (o + 1) _ (by omega) q3
    obtain ⟨x, ⟨pb', hpb', rfl⟩, rfl⟩ : ∃ x, pR V (b, ob) x ∧ v0 = .slice (some x) N cap := r1
    have hpb' : V b = some pb' := hpb'
    rw [hpb] at hpb'; cases hpb'
    obtain ⟨pm', hpm', rfl⟩ : ∃ p, V m = some p ∧ v1 = .map (some p.bl) := r3
    rw [hpm] at hpm'; cases hpm'
    have hbm : pm.bl ≠ pb.bl := fun e => by
      rw [e, hcb] at hcm; cases hcm
    have hdb : pd.bl ≠ pb.bl := fun e => by
      have := s.apart d _ pd b _ pb pd.bl hgd hgb hpd hpb (by simp [foot]) (by simp [foot, e])
      subst this
      simp at q5
    obtain ⟨w1, w2⟩ := waits_spec q6 hms
    have hsz := hcrb.2.1
    have hR : RowsY w pb.bl (pb.of + ob) N tyb fzb cb.size (fun k => cb[k]?) := ⟨⟨cb, hcb, rfl, fun _ => rfl⟩, by omega, hfzb⟩
    refine (sd_settleY (d := pd.bl) (od := pd.of + o) (by rw [cell_at hcd]; exact r0) (by rw [cell_at hcd]; exact r2) hR hcm w1 w2 hdb (Array.getElem?_eq_some_iff.1 hcd).1 hbm).mono ?_
    rintro e w' ⟨rfl, ⟨⟨c', hc', hz', hq'⟩, _, _⟩, hm', k⟩
    refine ⟨_, rfl, V, ⟨[], trivial, rfl⟩, ?_⟩
    -- first the sectors, then the map
    have hlb := (Array.getElem?_eq_some_iff.1 hcb).1
    have hlm := (Array.getElem?_eq_some_iff.1 hcm).1
    have hob : ObR E V (setBlk w pb.bl (.cells c' tyb fzb)) pb (.cells (layE ob es tb) nb eb) := by
      refine ⟨c', tyb, fzb, setBlk_self hcb, by rw [hz']; exact hfzb, fun i x hi hx => ?_, by rw [hz']; exact hsz, fun k hk => by rw [hz']; exact hcrb.2.2 k hk⟩
      rcases lay_spec q6 hms hx with ⟨u0, y, v, u1, u2, u3⟩ | ⟨u1, u2⟩
      · refine ⟨v, ?_, u3⟩
        rw [hq']
        unfold midY
        rw [if_pos (by omega), show pb.of + i - (pb.of + ob) = i - ob by omega, u1]
        exact u2
      · obtain ⟨v, t1, t2⟩ := hcrb.1 i x hi u2
        refine ⟨v, ?_, t2⟩
        rw [hq', ← t1]
        unfold midY
        rcases u1 with u1 | u1
        · rw [if_neg (by omega)]
        · split
          · rw [show pb.of + i - (pb.of + ob) = i - ob by omega, u1]
          · rfl
    obtain ⟨s1, x1⟩ := s.turn (w' := setBlk w pb.bl (.cells c' tyb fzb)) (ob := .cells (layE ob es tb) nb eb) hgb hpb rfl hob (fun j _ hj => setBlk_ne (by simpa [foot] using hj)) (by rw [setBlk_size]; exact Nat.le_refl _)
    have hne : m ≠ b := fun e => by subst e; rw [hgb] at hgm; cases hgm
    have hLb : Live E V h pb.bl := ⟨b, _, pb, hgb, hpb, by simp [foot]⟩
    have hLm : Live E V h pm.bl := ⟨m, _, pm, hgm, hpm, by simp [foot]⟩
    have hobm : ObR E V w' pm (.map [] c) := ⟨[], hm', trivial⟩
    refine ⟨s1.put (w' := w') hpm hobm (fun j hj hf => ?_) (show (setBlk w pb.bl (.cells c' tyb fzb)).heap.size ≤ w'.heap.size from by rw [setBlk_size]; exact k.size) (fun b' ob' p' j hg' hne' hp' hf' hf2 => ?_), ⟨.refl V, k.size, Nat.le_refl _, fun j hl hnl => ?_, fun _ _ => rfl, ⟨k.os, k.tape, k.output⟩⟩⟩
    · have hjm : j ≠ pm.bl := by simpa [foot] using hf
      rw [setBlk_size] at hj
      by_cases hjb : j = pb.bl
      · subst hjb; rw [hc', setBlk_self hcb]
      · rw [setBlk_ne hjb]
        exact k.block j hj (fun q => q.elim hjb hjm)
    · rcases T.get_put hg' with ⟨rfl, rfl⟩ | ⟨_, hg2⟩
      · exact hne' (s.apart b' _ p' m _ pm j hgb hgm hp' hpm (by simpa [foot] using hf') (by simpa [foot] using hf2))
      · exact hne' (s.apart b' _ p' m _ pm j hg2 hgm hp' hpm hf' (by simpa [foot] using hf2))
    · have hjb : j ≠ pb.bl := fun e => hnl (e ▸ hLb)
      have hjm : j ≠ pm.bl := fun e => hnl (e ▸ hLm)
      refine ⟨k.block j hl (fun q => q.elim hjb hjm), fun l => ?_⟩
      rcases Live.put (h := ⟨h.t.put b (Ob.cells (layE ob es tb) nb eb), h.next⟩) hpm l with l | l
      · rcases Live.put (h := h) hpb l with l | l
        · exact hnl l
        · exact hjb (by simpa [foot] using l)
      · exact hjm (by simpa [foot] using l)
end Ev
end Go.Proofs.YtlkgdpdnhnakoaaGreatDoor
