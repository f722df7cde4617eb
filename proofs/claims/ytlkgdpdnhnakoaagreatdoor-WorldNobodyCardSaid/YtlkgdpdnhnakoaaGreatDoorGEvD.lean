/- GEvD: EvZa, EvZb, EvZc, EvZd, EvZe, EvZf, EvZg, EvMu, EvAt, EvTb, EvIb. -/
import Derived.Test.YtlkgdpdnhnakoaaGreatDoorGEvC
import Derived.Orders
import Derived.Laws.LoneSync
import Derived.Test.YtlkgdpdnhnakoaaGreatDoorBase
import Derived.Lib.BytesEntry
namespace Go.Proofs.YtlkgdpdnhnakoaaGreatDoor
namespace Ev
variable {X : Type} {E : Xs X} {G : Nat} {A : Tab} {I : Ix X} {C : Cl X} {nt base : Nat} {ms : List Nat} {L : List Oper} {r : List (Rc X)} {st : Nat → St X}

theorem Masks.bit_lt (m : Masks L ms) {j i : Nat} (hj : j < L.length) (h : Nat.testBit (nthN ms j) i = true) : i < j :=
  (m.sub (S := fun _ => True) (fun _ _ _ _ _ _ _ => trivial) (j + 1) j _ (Nat.lt_succ_self _) (List.getElem?_eq_getElem hj) (fun _ _ _ => trivial) i h).2
/-- Is operation i one that turns memory? -/
def Hv (r : List (Rc X)) (i : Nat) : Prop := ∃ v h, r[i]? = some (.hv v h)
theorem Run.pf (R : Run A G I C nt base ms L r st) (m : Masks L ms) : ∀ (j : Nat), j ≤ L.length → (∀ f ob, (f, ob) ∈ (st j).pf → f < j ∧ (∃ v, r[f]? = some (.fr v ob)) ∧ ∀ i, i < j → Hv r i → Nat.testBit (nthN ms i) f = false) ∧ (st j).pf.Pairwise (fun x y => x.1 ≠ y.1) := by
  intro j
  induction j with
  | zero => intro _; rw [R.nil]; exact ⟨fun f ob h => (by cases h), .nil⟩
  | succ j ih =>
    intro hj
    have ho : L[j]? = some (L[j]'(by omega)) := List.getElem?_eq_getElem _
    obtain ⟨rc, h1, h2, h3⟩ := R.one j _ ho
    obtain ⟨p1, p2⟩ := ih (by omega)
    have same : (st (j + 1)).pf = (st j).pf → (¬ Hv r j) → (∀ f ob, (f, ob) ∈ (st (j + 1)).pf → f < j + 1 ∧ (∃ v, r[f]? = some (.fr v ob)) ∧ ∀ i, i < j + 1 → Hv r i → Nat.testBit (nthN ms i) f = false) ∧ (st (j + 1)).pf.Pairwise (fun x y => x.1 ≠ y.1) := fun e hn => by
      rw [e]
      refine ⟨fun f ob hf => ?_, p2⟩
      obtain ⟨q1, q2, q3⟩ := p1 f ob hf
      refine ⟨by omega, q2, fun i hi hh => ?_⟩
      rcases Nat.lt_or_ge i j with h | h
      · exact q3 i h hh
      · have : i = j := by omega
        subst this
        exact (hn hh).elim
    cases rc with
    | off => exact same h3.2.1 (fun ⟨v, h, e⟩ => by rw [h1] at e; cases e)
    | lt o u v => exact same h3.2.2.2.2.2.1 (fun ⟨v, h, e⟩ => by rw [h1] at e; cases e)
    | fr v ob =>
      have e : (st (j + 1)).pf = (j, ob) :: (st j).pf := h3.2.2.1
      rw [e]
      refine ⟨fun f ob' hf => ?_, List.pairwise_cons.2 ⟨fun x hx => ?_, p2⟩⟩
      · rcases List.mem_cons.1 hf with hf | hf
        · injection hf with e1 e2; subst e1; subst e2
          refine ⟨by omega, ⟨v, h1⟩, fun i hi hh => ?_⟩
          rcases Nat.lt_or_ge i f with h | h
          · cases hb : Nat.testBit (nthN ms i) f with
            | false => rfl
            | true => have := m.bit_lt (by omega) hb; omega
          · have : i = f := by omega
            subst this
            obtain ⟨v', h', e'⟩ := hh
            rw [h1] at e'; cases e'
        · obtain ⟨q1, q2, q3⟩ := p1 f ob' hf
          refine ⟨by omega, q2, fun i hi hh => ?_⟩
          rcases Nat.lt_or_ge i j with h | h
          · exact q3 i h hh
          · have : i = j := by omega
            subst this
            obtain ⟨v', h', e'⟩ := hh
            rw [h1] at e'; cases e'
      · obtain ⟨q1, _, _⟩ := p1 x.1 x.2 hx
        show j ≠ x.1
        omega
    | hv v h' =>
      obtain ⟨_, _, t0, e, _⟩ := h3
      have e : (st (j + 1)).pf = (st j).pf.filter (fun x => !(Nat.testBit (nthN ms j) x.1)) := by
        rw [← wakeO_rest base (nthN ms j) _ (st j).h.t, e]
      rw [e]
      refine ⟨fun f ob hf => ?_, p2.filter _⟩
      obtain ⟨hf1, hf2⟩ := List.mem_filter.1 hf
      obtain ⟨q1, q2, q3⟩ := p1 f ob hf1
      refine ⟨by omega, q2, fun i hi hh => ?_⟩
      rcases Nat.lt_or_ge i j with h | h
      · exact q3 i h hh
      · have : i = j := by omega
        subst this
        simpa using hf2
/-- The last operation ahead of j that turns memory. -/
def Last (r : List (Rc X)) : Option Nat → Nat → Prop
  | none, j => ∀ i, i < j → ¬ Hv r i
  | some q, j => q < j ∧ Hv r q ∧ ∀ i, q < i → i < j → ¬ Hv r i
theorem Last.skip {p : Option Nat} {j : Nat} (h : Last r p j) (hn : ¬ Hv r j) : Last r p (j + 1) := by
  cases p with
  | none =>
    intro i hi
    rcases Nat.lt_or_ge i j with h1 | h1
    · exact h i h1
    · have : i = j := by omega
      subst this; exact hn
  | some q =>
    refine ⟨by have := h.1; omega, h.2.1, fun i h1 h2 => ?_⟩
    rcases Nat.lt_or_ge i j with h3 | h3
    · exact h.2.2 i h1 h3
    · have : i = j := by omega
      subst this; exact hn
theorem Last.here {j : Nat} (hh : Hv r j) : Last r (some j) (j + 1) := ⟨by omega, hh, fun i h1 h2 => by omega⟩
theorem Last.one {p p' : Option Nat} {j : Nat} (h : Last r p j) (h' : Last r p' j) : p = p' := by
  cases p with
  | none =>
    cases p' with
    | none => rfl
    | some q => exact (h q h'.1 h'.2.1).elim
  | some q =>
    cases p' with
    | none => exact (h' q h.1 h.2.1).elim
    | some q' =>
      rcases Nat.lt_trichotomy q q' with h1 | h1 | h1
      · exact (h.2.2 q' h1 h'.1 h'.2.1).elim
      · rw [h1]
      · exact (h'.2.2 q h1 h.1 h.2.1).elim
/-- The memory behind the last operation that turned it. -/
def heapAt (r : List (Rc X)) (h0 : Hp X) : Option Nat → Hp X
  | none => h0
  | some q => match r[q]? with
    | some (.hv _ h) => h
    | _ => h0
theorem Run.h (R : Run A G I C nt base ms L r st) : ∀ (j : Nat), j ≤ L.length → ∀ {p : Option Nat}, Last r p j → (st j).h = heapAt r (st 0).h p := by
  intro j
  induction j with
  | zero =>
    intro _ p hp
    cases p with
    | none => rfl
    | some q => exact absurd hp.1 (by omega)
  | succ j ih =>
    intro hj p hp
    have ho : L[j]? = some (L[j]'(by omega)) := List.getElem?_eq_getElem _
    obtain ⟨rc, h1, h2, h3⟩ := R.one j _ ho
    have same : (st (j + 1)).h = (st j).h → (¬ Hv r j) → (st (j + 1)).h = heapAt r (st 0).h p := fun e hn => by
      rw [e]
      refine ih (by omega) ?_
      cases p with
      | none => exact fun i hi => hp i (by omega)
      | some q =>
        have : q ≠ j := fun e => by subst e; exact hn hp.2.1
        exact ⟨by have := hp.1; omega, hp.2.1, fun i h4 h5 => hp.2.2 i h4 (by omega)⟩
    cases rc with
    | off => exact same h3.2.2 (fun ⟨v, h, e⟩ => by rw [h1] at e; cases e)
    | lt o u v => exact same h3.2.2.2.2.2.2 (fun ⟨v, h, e⟩ => by rw [h1] at e; cases e)
    | fr v ob => exact same h3.2.2.2 (fun ⟨v, h, e⟩ => by rw [h1] at e; cases e)
    | hv v h' =>
      have : p = some j := hp.one (.here ⟨v, h', h1⟩)
      subst this
      show _ = match r[j]? with | some (.hv _ h) => h | _ => (st 0).h
      rw [h1]
      exact h3.2.1
theorem nextH_spec : ∀ {l : List (Rc X)} {j : Nat}, (nextH j l = none → ∀ i, ¬ Hv l i) ∧ ∀ n, nextH j l = some n → j ≤ n ∧ Hv l (n - j) ∧ ∀ i, j + i < n → ¬ Hv l i
  | [], j => ⟨fun _ i ⟨v, h, e⟩ => by simp at e, fun n h => by cases h⟩
  | .hv v h :: l, j => ⟨fun e => (by cases e), fun n e => by injection e with e; subst e; exact ⟨Nat.le_refl _, ⟨v, h, by simp⟩, fun i hi => (by omega)⟩⟩
  | .off :: l, j => nextH_step (fun ⟨v, h, e⟩ => by simp at e) rfl nextH_spec
  | .fr v ob :: l, j => nextH_step (fun ⟨v, h, e⟩ => by simp at e) rfl nextH_spec
  | .lt o u v :: l, j => nextH_step (fun ⟨v, h, e⟩ => by simp at e) rfl nextH_spec
where
  nextH_step {rc : Rc X} {l : List (Rc X)} {j : Nat} (h0 : ¬ Hv (rc :: l) 0) (he : nextH j (rc :: l) = nextH (Nat.succ j) l) (ih : (nextH (Nat.succ j) l = none → ∀ i, ¬ Hv l i) ∧ ∀ n, nextH (Nat.succ j) l = some n → Nat.succ j ≤ n ∧ Hv l (n - Nat.succ j) ∧ ∀ i, Nat.succ j + i < n → ¬ Hv l i) :
      (nextH j (rc :: l) = none → ∀ i, ¬ Hv (rc :: l) i) ∧ ∀ n, nextH j (rc :: l) = some n → j ≤ n ∧ Hv (rc :: l) (n - j) ∧ ∀ i, j + i < n → ¬ Hv (rc :: l) i := by
    have sh : ∀ i, Hv (rc :: l) (i + 1) ↔ Hv l i := fun i => by simp [Hv]
    rw [he]
    refine ⟨fun e i => ?_, fun n e => ?_⟩
    · cases i with
      | zero => exact h0
      | succ i => rw [sh]; exact ih.1 e i
    · obtain ⟨a1, a2, a3⟩ := ih.2 n e
      refine ⟨by omega, ?_, fun i hi => ?_⟩
      · rw [show n - j = (n - j.succ) + 1 by omega, sh]; exact a2
      · cases i with
        | zero => exact h0
        | succ i => rw [sh]; exact a3 i (by omega)
theorem sameL_spec {p n : Option Nat} {h : Hp X} : ∀ {l : List (Rc X)} {j : Nat}, sameL A G I ms p n h j l = true → ∀ k o u v, l[k]? = some (.lt o u v) → pureO o.op = true ∨ sameAt A G I ms p n h (j + k) o u v = true
  | [], _, _, _, _, _, _, e => by simp at e
  | rc :: l, j, q, k, o, u, v, e => by
    have tail : sameL A G I ms p n h (Nat.succ j) l = true → k ≠ 0 → pureO o.op = true ∨ sameAt A G I ms p n h (j + k) o u v = true := fun q hk => by
      obtain ⟨k', rfl⟩ := Nat.exists_eq_succ_of_ne_zero hk
      have := sameL_spec q k' o u v (by simpa using e)
      rw [show j.succ + k' = j + k'.succ by omega] at this
      exact this
    have zero : k = 0 → rc = .lt o u v := fun h => by subst h; simpa using e
    unfold sameL at q
    split at q
    case h_1 h0 => cases h0
    case h_2 o' u' v' l' h0 =>
      injection h0 with h0 h0'; subst h0; subst h0'
      split at q
      case h_1 hp =>
        by_cases hk : k = 0
        · have := zero hk
          injection this with e1 e2 e3; subst e1; exact .inl hp
        · exact tail q hk
      case h_2 hp =>
        split at q
        case h_2 => cases q
        rename_i hs
        by_cases hk : k = 0
        · have := zero hk
          injection this with e1 e2 e3; subst e1; subst e2; subst e3; subst hk; exact .inr hs
        · exact tail q hk
    case h_3 rc' l' hno h0 =>
      injection h0 with h0 h0'; subst h0; subst h0'
      exact tail q (fun hk => hno _ _ _ (zero hk))
theorem phasesO_spec : ∀ {l : List (Rc X)} {p : Option Nat} {j : Nat}, l = r.drop j → Last r p j → phasesO A G I ms r p j l = true → ∀ k v h, j ≤ k → r[k]? = some (.hv v h) →
    (∃ p', Last r p' k ∧ ∀ q, p' = some q → Nat.testBit (nthN ms k) q = true) ∧ sameL A G I ms (some k) (nextH (k + 1) (r.drop (k + 1))) h 0 r = true
  | [], p, j, hl, _, _, k, v, h, hk, e => by
    have : r.length ≤ j := by
      have := congrArg List.length hl
      simp at this; omega
    have := (List.getElem?_eq_some_iff.1 e).1
    omega
  | rc :: l, p, j, hl, hp, q, k, v, h, hk, e => by
    have hj : r[j]? = some rc := by
      have : (r.drop j)[0]? = some rc := by rw [← hl]; rfl
      simpa using this
    have hl' : l = r.drop (j + 1) := by
      rw [← List.tail_drop, ← hl]; rfl
    have tail : ∀ {p'}, Last r p' (j + 1) → phasesO A G I ms r p' (Nat.succ j) l = true → j ≠ k → (∃ p', Last r p' k ∧ ∀ q, p' = some q → Nat.testBit (nthN ms k) q = true) ∧ sameL A G I ms (some k) (nextH (k + 1) (r.drop (k + 1))) h 0 r = true :=
      fun h1 h2 h3 => phasesO_spec hl' h1 h2 k v h (by omega) e
    by_cases hjk : j = k
    · subst hjk
      have hrc : rc = .hv v h := by rw [hj] at e; injection e
      subst hrc
      simp only [phasesO] at q
      split at q
      case h_2 => cases q
      rename_i hc hs
      refine ⟨⟨p, hp, fun q hq => by subst hq; exact hc⟩, ?_⟩
      rw [← hl']
      exact hs
    · have skip : (∀ v h, rc ≠ .hv v h) → phasesO A G I ms r p (Nat.succ j) l = true → (∃ p', Last r p' k ∧ ∀ q, p' = some q → Nat.testBit (nthN ms k) q = true) ∧ sameL A G I ms (some k) (nextH (k + 1) (r.drop (k + 1))) h 0 r = true := fun hn q =>
        tail (hp.skip fun ⟨v, h, e⟩ => by rw [hj] at e; injection e with e; exact hn _ _ e) q hjk
      cases rc with
      | off => exact skip (fun _ _ e => by cases e) q
      | fr v' ob => exact skip (fun _ _ e => by cases e) q
      | lt o u v' => exact skip (fun _ _ e => by cases e) q
      | hv v' h' =>
        simp only [phasesO] at q
        split at q
        case h_2 => cases q
        exact tail (.here ⟨_, _, hj⟩) q hjk
end Ev
end Go.Proofs.YtlkgdpdnhnakoaaGreatDoor

namespace Go.Proofs.YtlkgdpdnhnakoaaGreatDoor
namespace Ev
variable {X : Type} {E : Xs X} {G : Nat} {A : Tab} {I : Ix X} {C : Cl X} {nt base : Nat} {ms : List Nat} {L : List Oper} {r : List (Rc X)} {st : Nat → St X}

/-- The temporaries behind the operations of S. -/
structure TI (r : List (Rc X)) (st : Nat → St X) (L : List Oper) (nt : Nat) (S : Nat → Prop) (V : Vn) (tmps : Array Value) : Prop where
  size : tmps.size = nt
  wr : ∀ t i o rc, S i → L[i]? = some o → o.dst = some t → r[i]? = some rc → (∀ i' o', S i' → L[i']? = some o' → o'.dst = some t → i' ≤ i) → ∃ x, tmps[t]? = some x ∧ rc.val.rel V x
  un : ∀ t z, (∀ i o, S i → L[i]? = some o → o.dst ≠ some t) → (st 0).tm.get t = some z → ∃ x, tmps[t]? = some x ∧ z.rel V x
/-- Operation j may run behind those of S. -/
structure Rdy (L : List Oper) (S : Nat → Prop) (j : Nat) (o : Oper) : Prop where
  cl : Closed L S
  lt : ∀ i, S i → i < L.length
  no : ¬ S j
  op : L[j]? = some o
  edges : ∀ e ∈ o.after.toList, Region.binds .any e = true → S e.on
theorem Rdy.mask {S : Nat → Prop} {j : Nat} {o : Oper} (y : Rdy L S j o) (m : Masks L ms) {i : Nat} (h : Nat.testBit (nthN ms j) i = true) : S i ∧ i < j := m.sub y.cl (j + 1) j o (Nat.lt_succ_self _) y.op y.edges i h
theorem Rdy.back {S : Nat → Prop} {j : Nat} {o : Oper} (y : Rdy L S j o) (m : Masks L ms) {i : Nat} (hi : S i) : Nat.testBit (nthN ms i) j = false := by
  cases hb : Nat.testBit (nthN ms i) j with
  | false => rfl
  | true =>
    have ho : L[i]? = some (L[i]'(y.lt i hi)) := List.getElem?_eq_getElem _
    exact (y.no (m.sub y.cl (i + 1) i _ (Nat.lt_succ_self _) ho (y.cl i _ hi ho) j hb).1).elim
theorem Rdy.closed {S : Nat → Prop} {j : Nat} {o : Oper} (y : Rdy L S j o) : Closed L (fun i => S i ∨ i = j) := fun i p hi hp e he hb => by
  rcases hi with hi | rfl
  · exact .inl (y.cl i p hi hp e he hb)
  · rw [y.op] at hp; cases hp; exact .inl (y.edges e he hb)
/-- Operations that write what j reads or writes: those in S are ahead of j; those ahead of j are in S. -/
theorem Rdy.clear {S : Nat → Prop} {j : Nat} {o : Oper} (y : Rdy L S j o) (sn : Seen L ms) {t : Nat} (ht : o.dst = some t ∨ t ∈ usesO L o) {i : Nat} {p : Oper} (hp : L[i]? = some p) (hd : p.dst = some t) (hne : i ≠ j) : S i ↔ i < j := by
  rcases sn.clear j o t y.op ht i p hp hd hne with ⟨h1, h2⟩ | ⟨h1, h2⟩
  · exact ⟨fun _ => h1, fun _ => (y.mask sn.m h2).1⟩
  · refine ⟨fun hs => ?_, fun h => by omega⟩
    rw [y.back sn.m hs] at h2; cases h2
theorem TI.reads {S : Nat → Prop} {j : Nat} {o : Oper} (y : Rdy L S j o) (sn : Seen L ms) (R : Run A G I C nt base ms L r st) {V : Vn} {tmps : Array Value} (T0 : TI r st L nt S V tmps) : TmR V (onlyT (st j).tm (usesO L o) (T.full (nat_lit 16))) nt tmps := by
  refine ⟨T0.size, fun t a g => ?_⟩
  have hj : j < L.length := (List.getElem?_eq_some_iff.1 y.op).1
  rcases onlyT_get g with ⟨hu, g⟩ | g
  · rcases R.tm j (by omega) g with ⟨i, p, rc, h1, h2, h3, h4, h5, h6⟩ | ⟨h1, h2⟩
    · subst h5
      refine T0.wr t i p rc ((y.clear sn (.inr hu) h2 h3 (by omega)).2 h1) h2 h3 h4 fun i' o' hs ho' hd' => ?_
      by_cases hij : i' = j
      · subst hij; exact (y.no hs).elim
      · have := (y.clear sn (.inr hu) ho' hd' hij).1 hs
        rcases Nat.lt_or_ge i i' with h | h
        · exact (h6 i' o' h this ho' hd').elim
        · exact h
    · refine T0.un t a (fun i p hs hp hd => ?_) h2
      by_cases hij : i = j
      · subst hij; exact y.no hs
      · exact h1 i p ((y.clear sn (.inr hu) hp hd hij).1 hs) hp hd
  · rw [T.get_full] at g; cases g
theorem TI.step {S : Nat → Prop} {j : Nat} {o : Oper} (y : Rdy L S j o) (sn : Seen L ms) {V V' : Vn} (hle : Le V V') {a : Act} (T0 : TI r st L nt S V a.tmps) {rc : Rc X} (hr : r[j]? = some rc) {tm tm' : T AV} (hp : putT tm nt o.dst rc.val = some tm') {x : Value} (hx : rc.val.rel V' x) :
    TI r st L nt (fun i => S i ∨ i = j) V' (a.put o.dst x).tmps := by
  have hget : ∀ t, o.dst ≠ some t → (a.put o.dst x).tmps[t]? = a.tmps[t]? := fun t ht => by
    cases hd : o.dst with
    | none => rfl
    | some d =>
      rw [hd] at ht
      exact Array.getElem?_setIfInBounds_ne (fun e => ht (by rw [e]))
  have hself : ∀ t, o.dst = some t → (a.put o.dst x).tmps[t]? = some x := fun t ht => by
    unfold putT at hp
    rw [ht] at hp ⊢
    simp only at hp
    split at hp
    case h_2 => cases hp
    rename_i hlt
    have := Nat.le_of_ble_eq_true hlt
    show (a.tmps.setIfInBounds t x)[t]? = some x
    rw [Array.getElem?_setIfInBounds_self, if_pos (by rw [T0.size]; exact this)]
  refine ⟨?_, fun t i p rc' hi hpi hd hri hmax => ?_, fun t z hn hz => ?_⟩
  · rw [← T0.size]
    cases o.dst with
    | none => rfl
    | some d => simp [Act.put]
  · by_cases ht : o.dst = some t
    · have : i = j := by
        have h1 := hmax j o (.inr rfl) y.op ht
        rcases hi with hi | hi
        · by_cases hij : i = j
          · exact hij
          · have := (y.clear sn (.inl ht) hpi hd hij).1 hi
            omega
        · exact hi
      subst this
      rw [hr] at hri; cases hri
      exact ⟨x, hself t ht, hx⟩
    · have hij : i ≠ j := fun e => by subst e; rw [y.op] at hpi; cases hpi; exact ht hd
      have hi' : S i := hi.resolve_right hij
      obtain ⟨z, z1, z2⟩ := T0.wr t i p rc' hi' hpi hd hri fun i' o' hs => hmax i' o' (.inl hs)
      exact ⟨z, by rw [hget t ht]; exact z1, z2.mono hle⟩
  · have ht : o.dst ≠ some t := hn j o (.inr rfl) y.op
    obtain ⟨u, u1, u2⟩ := T0.un t z (fun i p hi => hn i p (.inl hi)) hz
    exact ⟨u, by rw [hget t ht]; exact u1, u2.mono hle⟩

/-! ### Memory -/
/-- A fresh object that lies in memory, and not yet in the heap of the run in the order of the text. -/
def Dorm (r : List (Rc X)) (ms : List Nat) (S : Nat → Prop) (f : Nat) (ob : Ob X) : Prop := S f ∧ (∃ v, r[f]? = some (.fr v ob)) ∧ ∀ i, S i → Hv r i → Nat.testBit (nthN ms i) f = false
structure MI (E : Xs X) (G : Nat) (r : List (Rc X)) (h0 : Hp X) (ms : List Nat) (V0 : Vn) (h00 : Hp X) (w0 : World) (base : Nat) (S : Nat → Prop) (p : Option Nat) (V : Vn) (w : World) : Prop where
  top : ∀ i, S i → Hv r i → ∃ q, p = some q ∧ i ≤ q
  has : ∀ q, p = some q → S q ∧ Hv r q
  sim : Sim E G V (heapAt r h0 p) w
  ext : Ext E V0 h00 w0 V (heapAt r h0 p) w
  next : h0.next ≤ (heapAt r h0 p).next
  dorm : ∀ f ob, Dorm r ms S f ob → ∃ pl, V (base + f) = some pl ∧ ObR E V w pl ob ∧ foot E ob pl = [pl.bl] ∧ ¬ Live E V (heapAt r h0 p) pl.bl ∧ w0.heap.size ≤ pl.bl
  apart : ∀ f g ob ob' pl pl', Dorm r ms S f ob → Dorm r ms S g ob' → f ≠ g → V (base + f) = some pl → V (base + g) = some pl' → pl.bl ≠ pl'.bl
  free : ∀ f v ob, ¬ S f → r[f]? = some (.fr v ob) → V (base + f) = none
end Ev
end Go.Proofs.YtlkgdpdnhnakoaaGreatDoor

namespace Go.Proofs.YtlkgdpdnhnakoaaGreatDoor
namespace Ev
variable {X : Type} {E : Xs X} {G : Nat} {A : Tab} {I : Ix X} {C : Cl X} {nt base : Nat} {ms : List Nat} {L : List Oper} {r : List (Rc X)} {st : Nat → St X}
variable {h0 h00 : Hp X} {V0 : Vn} {w0 : World} {S : Nat → Prop} {p : Option Nat} {V : Vn} {w : World}

theorem Dorm.old {j : Nat} {f : Nat} {ob : Ob X} (hf : f ≠ j) (d : Dorm r ms (fun i => S i ∨ i = j) f ob) : Dorm r ms S f ob := ⟨d.1.resolve_right hf, d.2.1, fun i hi => d.2.2 i (.inl hi)⟩
/-- An operation that turns no memory of ours. -/
theorem MI.same (M : MI E G r h0 ms V0 h00 w0 base S p V w) {j : Nat} (hb : ∀ f v ob, r[f]? = some (.fr v ob) → base + f < h0.next) (hn : ¬ Hv r j) (hf : ∀ v ob, r[j]? ≠ some (.fr v ob)) {V' : Vn} {w' : World} (s : Sim E G V' (heapAt r h0 p) w') (x : Ext E V (heapAt r h0 p) w V' (heapAt r h0 p) w') :
    MI E G r h0 ms V0 h00 w0 base (fun i => S i ∨ i = j) p V' w' := by
  have ne : ∀ {f ob}, Dorm r ms (fun i => S i ∨ i = j) f ob → f ≠ j := fun d e => by subst e; obtain ⟨v, hv⟩ := d.2.1; exact hf _ _ hv
  refine ⟨fun i hi hh => ?_, fun q hq => ⟨.inl (M.has q hq).1, (M.has q hq).2⟩, s, M.ext.trans x, M.next, fun f ob d => ?_, fun f g ob ob' pl pl' d d' hfg hv hv' => ?_, fun f v ob hS hr => ?_⟩
  · rcases hi with hi | rfl
    · exact M.top i hi hh
    · exact (hn hh).elim
  · obtain ⟨pl, q1, q2, q3, q4, q5⟩ := M.dorm f ob (d.old (ne d))
    have hlt : pl.bl < w.heap.size := q2.lt _ (by rw [q3]; exact List.mem_singleton.2 rfl)
    obtain ⟨k1, k2⟩ := x.keep _ hlt q4
    exact ⟨pl, x.le _ _ q1, q2.keep x.le (fun j hj => by rw [q3, List.mem_singleton] at hj; subst hj; exact k1) x.size, q3, k2, q5⟩
  · obtain ⟨pl1, q1, _⟩ := M.dorm f ob (d.old (ne d))
    obtain ⟨pl2, q2, _⟩ := M.dorm g ob' (d'.old (ne d'))
    have e1 := x.le _ _ q1
    have e2 := x.le _ _ q2
    rw [hv] at e1; cases e1
    rw [hv'] at e2; cases e2
    exact M.apart f g ob ob' pl pl' (d.old (ne d)) (d'.old (ne d')) hfg q1 q2
  · rw [x.old _ (Nat.lt_of_lt_of_le (hb f v ob hr) M.next)]
    exact M.free f v ob (fun h => hS (.inl h)) hr
/-- A fresh object. -/
theorem MI.fresh (M : MI E G r h0 ms V0 h00 w0 base S p V w) {j : Nat} (hno : ¬ S j) (hbase : h00.next ≤ base) (hb : ∀ f v ob, r[f]? = some (.fr v ob) → base + f < h0.next) {v : AV} {ob : Ob X} (hr : r[j]? = some (.fr v ob)) {x : Value} {w' : World} (F : Fresh E V w (base + j) v ob x w') :
    MI E G r h0 ms V0 h00 w0 base (fun i => S i ∨ i = j) p (named V (base + j) ⟨w.heap.size, 0, 0, 0, 0⟩) w' := by
  have hfree := M.free j v ob hno hr
  have hle : Le V (named V (base + j) ⟨w.heap.size, 0, 0, 0, 0⟩) := named_le hfree
  have hlt := hb j v ob hr
  have hs : w.heap.size ≤ w'.heap.size := by rw [F.size]; exact Nat.le_succ _
  have hnh : ¬ Hv r j := fun ⟨v', h', e⟩ => by rw [hr] at e; cases e
  -- names that something bears are old
  have back : ∀ {b ob' pl}, (heapAt r h0 p).t.get b = some ob' → named V (base + j) ⟨w.heap.size, 0, 0, 0, 0⟩ b = some pl → V b = some pl := fun {b ob' pl} g q => by
    obtain ⟨p0, q1, _⟩ := M.sim.ob b ob' g
    have := hle _ _ q1
    rw [q] at this; cases this; exact q1
  have live : ∀ {i}, Live E (named V (base + j) ⟨w.heap.size, 0, 0, 0, 0⟩) (heapAt r h0 p) i → Live E V (heapAt r h0 p) i := fun ⟨b, ob', pl, g, q, hi⟩ => ⟨b, ob', pl, g, back g q, hi⟩
  have livelt : ∀ {i}, Live E V (heapAt r h0 p) i → i < w.heap.size := fun ⟨b, ob', pl, g, q, hi⟩ => by
    obtain ⟨p0, q1, q2⟩ := M.sim.ob b ob' g
    rw [q] at q1; cases q1
    exact q2.lt _ hi
  have sim : Sim E G (named V (base + j) ⟨w.heap.size, 0, 0, 0, 0⟩) (heapAt r h0 p) w' := by
    refine ⟨fun b hb' => ?_, fun g hg => hle _ _ (M.sim.glob g hg), fun b ob' g => ?_, fun b ob1 p1 b' ob2 p2 i g g' q q' => M.sim.apart b ob1 p1 b' ob2 p2 i g g' (back g q) (back g' q')⟩
    · have : b ≠ base + j := fun e => by subst e; have := M.next; omega
      rw [named_ne this]; exact M.sim.new b hb'
    · obtain ⟨pl, q1, q2⟩ := M.sim.ob b ob' g
      exact ⟨pl, hle _ _ q1, q2.keep hle (fun i hi => F.keep i (q2.lt i hi)) hs⟩
  refine ⟨fun i hi hh => ?_, fun q hq => ⟨.inl (M.has q hq).1, (M.has q hq).2⟩, sim, ?_, M.next, fun f ob' d => ?_, fun f g ob1 ob2 pl pl' d d' hfg hv hv' => ?_, fun f v' ob' hS hr' => ?_⟩
  · rcases hi with hi | rfl
    · exact M.top i hi hh
    · exact (hnh hh).elim
  · refine ⟨M.ext.le.trans hle, Nat.le_trans M.ext.size hs, M.ext.next, fun i hi hnl => ?_, fun b hb' => ?_, M.ext.out.trans F.out⟩
    · obtain ⟨k1, k2⟩ := M.ext.keep i hi hnl
      exact ⟨(F.keep i (Nat.lt_of_lt_of_le hi M.ext.size)).trans k1, fun l => k2 (live l)⟩
    · rw [named_ne (by omega)]; exact M.ext.old b hb'
  · by_cases hfj : f = j
    · subst hfj
      obtain ⟨v', hv'⟩ := d.2.1
      rw [hr] at hv'; cases hv'
      exact ⟨_, named_self _ _ _, F.has, F.foot, fun l => Nat.lt_irrefl _ (livelt (live l)), M.ext.size⟩
    · obtain ⟨pl, q1, q2, q3, q4, q5⟩ := M.dorm f ob' (d.old hfj)
      exact ⟨pl, hle _ _ q1, q2.keep hle (fun i hi => F.keep i (q2.lt i hi)) hs, q3, fun l => q4 (live l), q5⟩
  · have bl : ∀ {f ob pl}, Dorm r ms (fun i => S i ∨ i = j) f ob → f ≠ j → named V (base + j) ⟨w.heap.size, 0, 0, 0, 0⟩ (base + f) = some pl → V (base + f) = some pl ∧ pl.bl < w.heap.size := fun {f ob pl} d hfj hv => by
      obtain ⟨pl1, q1, q2, q3, _⟩ := M.dorm f ob (d.old hfj)
      have := hle _ _ q1
      rw [hv] at this; cases this
      exact ⟨q1, q2.lt _ (by rw [q3]; exact List.mem_singleton.2 rfl)⟩
    by_cases hf : f = j
    · subst hf
      rw [named_self] at hv; cases hv
      have := (bl d' (fun e => hfg e.symm) hv').2
      exact fun e => by rw [← e] at this; exact Nat.lt_irrefl _ this
    · by_cases hg : g = j
      · subst hg
        rw [named_self] at hv'; cases hv'
        have := (bl d hf hv).2
        exact fun e => by rw [e] at this; exact Nat.lt_irrefl _ this
      · exact M.apart f g ob1 ob2 pl pl' (d.old hf) (d'.old hg) hfg (bl d hf hv).1 (bl d' hg hv').1
  · have hfj : f ≠ j := fun e => hS (.inr e)
    rw [named_ne (by omega)]
    exact M.free f v' ob' (fun h => hS (.inl h)) hr'
/-- Objects kept back are laid into the heap. -/
theorem wake_run {nx m : Nat} : ∀ {pf : List (Nat × Ob X)} {t t' : T (Ob X)} {rest : List (Nat × Ob X)}, Sim E G V ⟨t, nx⟩ w → pf.Pairwise (fun x y => x.1 ≠ y.1) →
    (∀ f ob, (f, ob) ∈ pf → Nat.testBit m f = true → ∃ pl, V (base + f) = some pl ∧ ObR E V w pl ob ∧ foot E ob pl = [pl.bl] ∧ ¬ Live E V ⟨t, nx⟩ pl.bl) →
    (∀ f g ob ob' pl pl', (f, ob) ∈ pf → (g, ob') ∈ pf → Nat.testBit m f = true → Nat.testBit m g = true → f ≠ g → V (base + f) = some pl → V (base + g) = some pl' → pl.bl ≠ pl'.bl) → wakeO base m pf t = (t', rest) →
    Sim E G V ⟨t', nx⟩ w ∧ ∀ i, Live E V ⟨t', nx⟩ i → Live E V ⟨t, nx⟩ i ∨ ∃ f ob pl, (f, ob) ∈ pf ∧ Nat.testBit m f = true ∧ V (base + f) = some pl ∧ i = pl.bl
  | [], t, t', rest, s, _, _, _, q => by
    injection q with q1 q2; subst q1
    exact ⟨s, fun i l => .inl l⟩
  | (f, ob) :: pf, t, t', rest, s, hp, hd, ha, q => by
    obtain ⟨hp1, hp2⟩ := List.pairwise_cons.1 hp
    unfold wakeO at q
    split at q
    case h_1 hb =>
      obtain ⟨pl, q1, q2, q3, q4⟩ := hd f ob (List.mem_cons_self ..) hb
      have s1 := s.wake q1 q2 (fun j hj => by rw [q3, List.mem_singleton] at hj; subst hj; exact q4)
      have lv : ∀ i, Live E V ⟨t.put (base + f) ob, nx⟩ i → Live E V ⟨t, nx⟩ i ∨ i = pl.bl := fun i l => by
        rcases Live.put (h := ⟨t, nx⟩) q1 l with l1 | l1
        · exact .inl l1
        · rw [q3, List.mem_singleton] at l1; exact .inr l1
      obtain ⟨s2, l2⟩ := wake_run s1 hp2 (fun g ob' hg hb' => by
        obtain ⟨pl', r1, r2, r3, r4⟩ := hd g ob' (List.mem_cons_of_mem _ hg) hb'
        refine ⟨pl', r1, r2, r3, fun l => ?_⟩
        rcases lv _ l with l1 | l1
        · exact r4 l1
        · exact ha g f ob' ob pl' pl (List.mem_cons_of_mem _ hg) (List.mem_cons_self ..) hb' hb (fun e => hp1 _ hg e.symm) r1 q1 l1) (fun g1 g2 o1 o2 p1 p2 h1 h2 => ha g1 g2 o1 o2 p1 p2 (List.mem_cons_of_mem _ h1) (List.mem_cons_of_mem _ h2)) q
      refine ⟨s2, fun i l => ?_⟩
      rcases l2 i l with l1 | ⟨g, ob', pl', r1, r2, r3, r4⟩
      · rcases lv i l1 with l3 | l3
        · exact .inl l3
        · exact .inr ⟨f, ob, pl, List.mem_cons_self .., hb, q1, l3⟩
      · exact .inr ⟨g, ob', pl', List.mem_cons_of_mem _ r1, r2, r3, r4⟩
    case h_2 hb =>
      split at q
      rename_i t1 r1 hw
      injection q with q1 q2; subst q1
      obtain ⟨s2, l2⟩ := wake_run s hp2 (fun g ob' hg => hd g ob' (List.mem_cons_of_mem _ hg)) (fun g1 g2 o1 o2 p1 p2 h1 h2 => ha g1 g2 o1 o2 p1 p2 (List.mem_cons_of_mem _ h1) (List.mem_cons_of_mem _ h2)) hw
      refine ⟨s2, fun i l => ?_⟩
      rcases l2 i l with l1 | ⟨g, ob', pl', r1, r2, r3, r4⟩
      · exact .inl l1
      · exact .inr ⟨g, ob', pl', List.mem_cons_of_mem _ r1, r2, r3, r4⟩
end Ev
end Go.Proofs.YtlkgdpdnhnakoaaGreatDoor

namespace Go.Proofs.YtlkgdpdnhnakoaaGreatDoor
namespace Ev
variable {X : Type} {E : Xs X} {G : Nat} {A : Tab} {I : Ix X} {C : Cl X} {nt base : Nat} {ms : List Nat} {L : List Oper} {r : List (Rc X)} {st : Nat → St X}
variable {h0 h00 : Hp X} {V0 : Vn} {w0 : World} {S : Nat → Prop} {p : Option Nat} {V : Vn} {w : World}

theorem MI.heavy (M : MI E G r (st 0).h ms V0 h00 w0 base S p V w) {j : Nat} {o : Oper} (y : Rdy L S j o) (m : Masks L ms) (R : Run A G I C nt base ms L r st) (hp : Last r p j) (hlt : ∀ i, S i → Hv r i → i < j) (hb : ∀ f v ob, r[f]? = some (.fr v ob) → base + f < (st 0).h.next) {v : AV} {h' : Hp X} (hr : r[j]? = some (.hv v h'))
    {t0 : T (Ob X)} {pf' : List (Nat × Ob X)} (hw : wakeO base (nthN ms j) (st j).pf (st j).h.t = (t0, pf')) : Sim E G V ⟨t0, (st j).h.next⟩ w ∧ ∀ {V' : Vn} {w' : World}, Sim E G V' h' w' → Ext E V ⟨t0, (st j).h.next⟩ w V' h' w' → MI E G r (st 0).h ms V0 h00 w0 base (fun i => S i ∨ i = j) (some j) V' w' := by
  have hj : j < L.length := (List.getElem?_eq_some_iff.1 y.op).1
  have hh := R.h j (by omega) hp
  obtain ⟨pf1, pf2⟩ := R.pf m j (by omega)
  have dm : ∀ f ob, (f, ob) ∈ (st j).pf → Nat.testBit (nthN ms j) f = true → Dorm r ms S f ob := fun f ob hf hb => by
    obtain ⟨_, q2, q3⟩ := pf1 f ob hf
    exact ⟨(y.mask m hb).1, q2, fun i hi hv => q3 i (hlt i hi hv) hv⟩
  have sim := M.sim
  rw [← hh] at sim
  have ml : ∀ f ob, Dorm r ms S f ob → ∃ pl, V (base + f) = some pl ∧ ObR E V w pl ob ∧ foot E ob pl = [pl.bl] ∧ ¬ Live E V (st j).h pl.bl ∧ w0.heap.size ≤ pl.bl := fun f ob d => by rw [hh]; exact M.dorm f ob d
  obtain ⟨s1, l1⟩ := wake_run (E := E) (base := base) (nx := (st j).h.next) (t := (st j).h.t) sim pf2 (fun f ob hf hb => by
    obtain ⟨pl, q1, q2, q3, q4, _⟩ := ml f ob (dm f ob hf hb)
    exact ⟨pl, q1, q2, q3, q4⟩) (fun f g ob ob' pl pl' hf hg hbf hbg hne => M.apart f g ob ob' pl pl' (dm f ob hf hbf) (dm g ob' hg hbg) hne) hw
  refine ⟨s1, fun {V' w'} s x => ?_⟩
  have hat : heapAt r (st 0).h (some j) = h' := by simp only [heapAt, hr]
  -- a block that is not woken is not live
  have dead : ∀ i, ¬ Live E V (st j).h i → (∀ f ob pl, (f, ob) ∈ (st j).pf → Nat.testBit (nthN ms j) f = true → V (base + f) = some pl → i ≠ pl.bl) → ¬ Live E V ⟨t0, (st j).h.next⟩ i := fun i h1 h2 l => by
    rcases l1 i l with l | ⟨f, ob, pl, q1, q2, q3, q4⟩
    · exact h1 l
    · exact h2 f ob pl q1 q2 q3 q4
  have ne : ∀ {f ob}, Dorm r ms (fun i => S i ∨ i = j) f ob → f ≠ j := fun d e => by subst e; obtain ⟨v, hv⟩ := d.2.1; rw [hr] at hv; cases hv
  have bit : ∀ {f ob}, Dorm r ms (fun i => S i ∨ i = j) f ob → Nat.testBit (nthN ms j) f = false := fun d => d.2.2 j (.inr rfl) ⟨v, h', hr⟩
  have next : (st 0).h.next ≤ (st j).h.next := by rw [hh]; exact M.next
  refine ⟨fun i hi hv => ⟨j, rfl, ?_⟩, fun q hq => ?_, by rw [hat]; exact s, ?_, ?_, fun f ob d => ?_, fun f g ob ob' pl pl' d d' hfg hv hv' => ?_, fun f v ob hS hr => ?_⟩
  · rcases hi with hi | rfl
    · exact Nat.le_of_lt (hlt i hi hv)
    · exact Nat.le_refl _
  · injection hq with hq; subst hq
    exact ⟨.inr rfl, v, h', hr⟩
  · rw [hat]
    refine ⟨M.ext.le.trans x.le, Nat.le_trans M.ext.size x.size, ?_, fun i hi hnl => ?_, fun b hb' => ?_, M.ext.out.trans x.out⟩
    · refine Nat.le_trans M.ext.next ?_
      rw [← hh]; exact x.next
    · obtain ⟨k1, k2⟩ := M.ext.keep i hi hnl
      rw [← hh] at k2
      have hd := dead i k2 (fun f ob pl q1 q2 q3 e => by
        obtain ⟨pl1, r1, _, _, _, r5⟩ := ml f ob (dm f ob q1 q2)
        rw [q3] at r1; cases r1
        omega)
      obtain ⟨k3, k4⟩ := x.keep i (Nat.lt_of_lt_of_le hi M.ext.size) hd
      exact ⟨k3.trans k1, k4⟩
    · have h1 := M.ext.next
      rw [← hh] at h1
      rw [x.old b (Nat.lt_of_lt_of_le hb' h1)]
      exact M.ext.old b hb'
  · rw [hat]; exact Nat.le_trans next x.next
  · rw [hat]
    obtain ⟨pl, q1, q2, q3, q4, q5⟩ := ml f ob (d.old (ne d))
    have hd := dead pl.bl q4 (fun g ob' pl' r1 r2 r3 e => by
      have hfg : f ≠ g := fun e => by subst e; rw [bit d] at r2; cases r2
      exact M.apart f g ob ob' pl pl' (d.old (ne d)) (dm g ob' r1 r2) hfg q1 r3 e)
    have hl : pl.bl < w.heap.size := q2.lt _ (by rw [q3]; exact List.mem_singleton.2 rfl)
    obtain ⟨k1, k2⟩ := x.keep _ hl hd
    exact ⟨pl, x.le _ _ q1, q2.keep x.le (fun i hi => by rw [q3, List.mem_singleton] at hi; subst hi; exact k1) x.size, q3, k2, q5⟩
  · obtain ⟨pl1, q1, _⟩ := M.dorm f ob (d.old (ne d))
    obtain ⟨pl2, q2, _⟩ := M.dorm g ob' (d'.old (ne d'))
    have e1 := x.le _ _ q1
    have e2 := x.le _ _ q2
    rw [hv] at e1; cases e1
    rw [hv'] at e2; cases e2
    exact M.apart f g ob ob' pl pl' (d.old (ne d)) (d'.old (ne d')) hfg q1 q2
  · rw [x.old _ (Nat.lt_of_lt_of_le (hb f v ob hr) next)]
    exact M.free f v ob (fun h => hS (.inl h)) hr
/-- An operation that turns memory, at the machine. -/
theorem stepV_run (hA : A.Ok) (hI : IxOk E G A I) (hC : ClOk E G A C) {b : Frame} {ops : Array Oper} {j : Nat} {rest : List Nat} {o : Oper} (ho : ops[j]? = some o) {u : T AV} {h h' : Hp X} {a : Act} {v : AV} (hw : Region.wanted o (yielded ops a.tmps) = true) (s : Sim E G V h w) (ht : TmR V u nt a.tmps)
    (q : stepV A G I C o u h = some (v, h')) (k : List Item) (cs : List Frame) : ∃ x w' V', Steps A.P (lone (b.atR a (.inRegion ops (j :: rest) :: k)) cs w) (lone (b.atR (a.put o.dst x) (.inRegion ops rest :: k)) cs w') ∧ v.rel V' x ∧ Sim E G V' h' w' ∧ Ext E V h w V' h' w' := by
  unfold stepV at q
  split at q
  case h_1 hx =>
    injection q with q; injection q with q1 q2; subst q1; subst q2
    obtain ⟨x, w', V', e1, r1, s1, x1⟩ := execO_snd hA hI s ht hx
    have e2 : (o.semAt b.roundOf a.eval).run A.P w = .ok (.value x) w' := by rw [Oper.semAt_eq _ _ _ (defer_dfr hx (fun _ _ _ e => by cases e))]; exact e1
    exact ⟨x, w', V', .one (st_value ho hw e2), r1, s1, x1⟩
  case h_2 hx =>
    injection q with q; injection q with q1 q2; subst q1; subst q2
    obtain ⟨w', V', e1, s1, x1⟩ := execO_snd hA hI s ht hx
    have e2 : (o.semAt b.roundOf a.eval).run A.P w = .ok .skip w' := by rw [Oper.semAt_eq _ _ _ (defer_dfr hx (fun _ _ _ e => by cases e))]; exact e1
    exact ⟨undef, w', V', .one (st_skip ho hw e2), ⟨[], trivial, rfl⟩, s1, x1⟩
  case h_3 g args hx =>
    obtain ⟨xs, e1, r1⟩ := execO_snd hA hI s ht hx
    have e2 : (o.semAt b.roundOf a.eval).run A.P w = .ok (.enter g xs.toArray) w := by rw [Oper.semAt_eq _ _ _ (defer_dfr hx (fun _ _ _ e => by cases e))]; exact e1
    obtain ⟨x, w', ⟨V', z1, s1, x1⟩, hs⟩ := st_call (cs := cs) (k := k) (rest := rest) ho hw e2 (hC.call q s r1)
    exact ⟨x, w', V', hs, z1, s1, x1⟩
  case h_4 l args hx =>
    obtain ⟨pl, xs, hp0, e1, r1⟩ := execO_snd hA hI s ht hx
    obtain ⟨fn, tmps, c, d, y1, y2⟩ := hC.yld q s hp0 r1
    have e2 : (o.semAt b.roundOf a.eval).run A.P w = .ok (.round pl.bl fn tmps c d) w := by rw [Oper.semAt_eq _ _ _ (defer_dfr hx (fun _ _ _ e => by cases e)), e1]; exact y1
    obtain ⟨x, w', hs, V', z1, s1, x1⟩ := y2 (b.atR a (.inRegion ops (j :: rest) :: k)) cs
    rw [fin_at ho] at hs
    exact ⟨x, w', V', .head (st_round ho hw e2) hs, z1, s1, x1⟩
  case h_5 => cases q
end Ev
end Go.Proofs.YtlkgdpdnhnakoaaGreatDoor

namespace Go.Proofs.YtlkgdpdnhnakoaaGreatDoor
namespace Ev
variable {X : Type} {E : Xs X} {G : Nat} {A : Tab} {I : Ix X} {C : Cl X} {nt base : Nat} {ms : List Nat} {L : List Oper} {r : List (Rc X)} {st : Nat → St X}
variable {h0 h00 : Hp X} {V0 : Vn} {w0 : World} {S : Nat → Prop} {p : Option Nat} {V : Vn} {w : World}

/-- The next one, behind p. -/
def nxH (r : List (Rc X)) : Option Nat → Option Nat
  | none => nextH 0 r
  | some q => nextH (q + 1) (r.drop (q + 1))
def aft (p : Option Nat) (i : Nat) : Prop := ∀ q, p = some q → q < i
theorem nxH_none (h : nxH r p = none) : ∀ i, aft p i → ¬ Hv r i := fun i hi hv => by
  cases p with
  | none => exact (nextH_spec (l := r) (j := 0)).1 h i hv
  | some q =>
    have := hi q rfl
    refine (nextH_spec (l := r.drop (q + 1)) (j := q + 1)).1 h (i - (q + 1)) ?_
    obtain ⟨v, h', e⟩ := hv
    exact ⟨v, h', by rw [List.getElem?_drop, show q + 1 + (i - (q + 1)) = i by omega]; exact e⟩
theorem nxH_some {n : Nat} (h : nxH r p = some n) : aft p n ∧ Hv r n ∧ ∀ i, aft p i → i < n → ¬ Hv r i := by
  cases p with
  | none =>
    obtain ⟨_, h2, h3⟩ := (nextH_spec (l := r) (j := 0)).2 n h
    exact ⟨fun q e => (by cases e), h2, fun i _ hi => h3 i (by omega)⟩
  | some q =>
    obtain ⟨h1, ⟨v, h', e⟩, h3⟩ := (nextH_spec (l := r.drop (q + 1)) (j := q + 1)).2 n h
    refine ⟨fun q' e => by injection e with e; subst e; omega, ⟨v, h', ?_⟩, fun i hi hlt hv => ?_⟩
    · rw [List.getElem?_drop, show q + 1 + (n - (q + 1)) = n by omega] at e; exact e
    · have := hi q rfl
      refine h3 (i - (q + 1)) (by omega) ?_
      obtain ⟨v, h', e⟩ := hv
      exact ⟨v, h', by rw [List.getElem?_drop, show q + 1 + (i - (q + 1)) = i by omega]; exact e⟩
/-- What the rule has looked at. -/
structure Phases (A : Tab) (G : Nat) (I : Ix X) (ms : List Nat) (r : List (Rc X)) (h0 : Hp X) : Prop where
  chain : ∀ k, Hv r k → ∃ p, Last r p k ∧ ∀ q, p = some q → Nat.testBit (nthN ms k) q = true
  same : ∀ p, (∀ q, p = some q → Hv r q) → sameL A G I ms p (nxH r p) (heapAt r h0 p) 0 r = true
theorem Phases.of {h0 : Hp X} (h1 : sameL A G I ms none (nextH 0 r) h0 0 r = true) (h2 : phasesO A G I ms r none 0 r = true) : Phases A G I ms r h0 := by
  have sp := phasesO_spec (r := r) (l := r) (p := none) (j := 0) (by simp) (fun i hi => by omega) h2
  refine ⟨fun k ⟨v, h, e⟩ => (sp k v h (Nat.zero_le _) e).1, fun p hp => ?_⟩
  cases p with
  | none => exact h1
  | some q =>
    obtain ⟨v, h, e⟩ := hp q rfl
    have := (sp q v h (Nat.zero_le _) e).2
    simp only [heapAt, e]
    exact this
theorem Phases.all {h0 : Hp X} (ph : Phases A G I ms r h0) (m : Masks L ms) (hr : r.length = L.length) (cl : Closed L S) : ∀ (n k : Nat), k < n → Hv r k → (∀ i, Nat.testBit (nthN ms k) i = true → S i) → ∀ i, i < k → Hv r i → S i := by
  intro n
  induction n with
  | zero => intro k hk; omega
  | succ n ih =>
    intro k hk hv hs i hi hvi
    obtain ⟨p, hp, hb⟩ := ph.chain k hv
    cases p with
    | none => exact (hp i hi hvi).elim
    | some q =>
      have hq := hs q (hb q rfl)
      obtain ⟨q1, q2, q3⟩ := hp
      rcases Nat.lt_trichotomy i q with h | h | h
      · have hql : q < L.length := by obtain ⟨v, h', e⟩ := q2; rw [← hr]; exact (List.getElem?_eq_some_iff.1 e).1
        have ho : L[q]? = some (L[q]'hql) := List.getElem?_eq_getElem _
        exact ih q (by omega) q2 (fun i' hb' => (m.sub cl (q + 1) q _ (Nat.lt_succ_self _) ho (cl q _ hq ho) i' hb').1) i h hvi
      · rw [h]; exact hq
      · exact (q3 i h hi hvi).elim
/-- Where an operation may run, it says what it says in the order of the text. -/
theorem same_here (M : MI E G r (st 0).h ms V0 h00 w0 base S p V w) {j : Nat} {o : Oper} (y : Rdy L S j o) (m : Masks L ms) (R : Run A G I C nt base ms L r st) (ph : Phases A G I ms r (st 0).h) {u : T AV} {v : AV} (hr : r[j]? = some (.lt o u v)) (hl : lightO o.op = true) (hx : execO A G I u (st j).h o = some (.val v (st j).h)) :
    execO A G I u (heapAt r (st 0).h p) o = some (.val v (heapAt r (st 0).h p)) := by
  have hj : j < L.length := (List.getElem?_eq_some_iff.1 y.op).1
  rcases sameL_spec (ph.same p fun q hq => (M.has q hq).2) j o u v hr with hp | hs
  · exact pure_any hp hx _
  · rw [Nat.zero_add] at hs
    unfold sameAt at hs
    have g1 : aheadB ms j (nxH r p) = false := by
      cases hn : nxH r p with
      | none => rfl
      | some n =>
        obtain ⟨a1, a2, _⟩ := nxH_some hn
        cases hb : Nat.testBit (nthN ms j) n with
        | false => exact hb
        | true =>
          obtain ⟨q, hq, hle⟩ := M.top n (y.mask m hb).1 a2
          have := a1 q hq
          omega
    have g2 : behindB ms j p = false := by
      cases p with
      | none => rfl
      | some q => exact y.back m (M.has q rfl).1
    rw [g1, g2] at hs
    simp only at hs
    split at hs
    case h_1 e1 e2 =>
      have hlast : Last r p j := by
        cases p with
        | none =>
          intro i hi hv
          cases hn : nxH r none with
          | none => exact nxH_none hn i (fun q e => by cases e) hv
          | some n =>
            rw [hn] at e1
            have := Nat.le_of_ble_eq_true e1
            exact (nxH_some hn).2.2 i (fun q e => by cases e) (by omega) hv
        | some q =>
          refine ⟨Nat.le_of_ble_eq_true e2, (M.has q rfl).2, fun i h1 h2 hv => ?_⟩
          cases hn : nxH r (some q) with
          | none => exact nxH_none hn i (fun q' e => by injection e with e; subst e; exact h1) hv
          | some n =>
            rw [hn] at e1
            have := Nat.le_of_ble_eq_true e1
            exact (nxH_some hn).2.2 i (fun q' e => by injection e with e; subst e; exact h1) (by omega) hv
      rw [← R.h j (by omega) hlast]
      exact hx
    case h_2 =>
      split at hs
      case h_2 => cases hs
      rename_i v' h' he
      split at hs
      case h_2 => cases hs
      rename_i d1 d2
      have hv := of_decide_eq_true d1
      subst hv
      have := light_same hl he (Nat.eq_of_beq_eq_true d2)
      subst this
      exact he
theorem draw_step (hA : A.Ok) (hI : IxOk E G A I) (hC : ClOk E G A C) {ops : Array Oper} (hops : ops.toList = L) (sn : Seen L ms) (R : Run A G I C nt base ms L r st) (ph : Phases A G I ms r (st 0).h) (hbase : h00.next ≤ base) (hb : ∀ f v ob, r[f]? = some (.fr v ob) → base + f < (st 0).h.next) {b : Frame}
    {ds : List Df} {j : Nat} {o : Oper} (y : Rdy L S j o) {a : Act} (T0 : TI r st L nt S V a.tmps) (M : MI E G r (st 0).h ms V0 h00 w0 base S p V w) (D : All2 (DfR V) ds a.defers) (rest : List Nat) (k : List Item) (cs : List Frame) :
    ∃ a' w' V' p', Steps A.P (lone (b.atR a (.inRegion ops (j :: rest) :: k)) cs w) (lone (b.atR a' (.inRegion ops rest :: k)) cs w') ∧ TI r st L nt (fun i => S i ∨ i = j) V' a'.tmps ∧ MI E G r (st 0).h ms V0 h00 w0 base (fun i => S i ∨ i = j) p' V' w' ∧ All2 (DfR V') ds a'.defers := by
  have hj : j < L.length := (List.getElem?_eq_some_iff.1 y.op).1
  have ho : ops[j]? = some o := by rw [← y.op, ← hops]; simp
  obtain ⟨rc, hr, hp, hone⟩ := R.one j o y.op
  have ht := T0.reads y sn R
  have dput : ∀ (x : Value), (a.put o.dst x).defers = a.defers := fun x => by cases o.dst <;> rfl
  cases rc with
  | off =>
    obtain ⟨h1, _, _⟩ := hone
    have hw : Region.wanted o (yielded ops a.tmps) = false := wantedO_run ht (by rw [hops]; exact h1)
    have hs := stepR_op_skip (P := A.P) (b := b) (a := a) (k := k) (cs := cs) (w := w) (ops := ops) (i := j) (rest := rest) (by simp [ho, hw])
    rw [ho] at hs
    exact ⟨_, w, V, p, .one hs, T0.step y sn (.refl V) hr hp ⟨[], trivial, rfl⟩, M.same hb (fun ⟨v, h, e⟩ => by rw [hr] at e; cases e) (fun v ob e => by rw [hr] at e; cases e) M.sim (.refl E V _ w), by show All2 _ _ (a.put o.dst undef).defers; rw [dput]; exact D⟩
  | fr v ob =>
    obtain ⟨h1, hf, _, _⟩ := hone
    have hw : Region.wanted o (yielded ops a.tmps) = true := wantedO_run ht (by rw [hops]; exact h1)
    obtain ⟨x, w', e1, F⟩ := fresh_snd hA M.sim ht (M.free j v ob y.no hr) hf
    have hnd : ∀ c, o.op ≠ .defer c := fun c e => by rw [e] at hf; cases hf
    have e2 : (o.semAt b.roundOf a.eval).run A.P w = .ok (.value x) w' := by rw [Oper.semAt_eq _ _ _ hnd]; exact e1
    have hle : Le V (named V (base + j) ⟨w.heap.size, 0, 0, 0, 0⟩) := named_le (M.free j v ob y.no hr)
    exact ⟨_, w', _, p, .one (st_value ho hw e2), T0.step y sn hle hr hp F.val, M.fresh y.no hbase hb hr F, by rw [dput]; exact D.mono fun _ _ => .mono hle⟩
  | lt o' u v =>
    obtain ⟨h1, rfl, hu, hl, hx, _, _⟩ := hone
    have ht' : TmR V u nt a.tmps := by rw [hu]; exact ht
    have hw : Region.wanted o' (yielded ops a.tmps) = true := wantedO_run ht' (by rw [hops]; exact h1)
    have hx2 := same_here M y sn.m R ph hr hl hx
    obtain ⟨x, w', V', e1, r1, s1, x1⟩ := execO_snd hA hI M.sim ht' hx2
    have e2 : (o'.semAt b.roundOf a.eval).run A.P w = .ok (.value x) w' := by rw [Oper.semAt_eq _ _ _ (defer_dfr hx2 (fun _ _ _ e => by cases e))]; exact e1
    exact ⟨_, w', V', p, .one (st_value ho hw e2), T0.step y sn x1.le hr hp r1, M.same hb (fun ⟨v, h, e⟩ => by rw [hr] at e; cases e) (fun v ob e => by rw [hr] at e; cases e) s1 x1, by rw [dput]; exact D.mono fun _ _ => .mono x1.le⟩
  | hv v h' =>
    obtain ⟨h1, _, t0, hwk, hst⟩ := hone
    have hw : Region.wanted o (yielded ops a.tmps) = true := wantedO_run ht (by rw [hops]; exact h1)
    have hvj : Hv r j := ⟨v, h', hr⟩
    have below : ∀ i, i < j → Hv r i → S i := ph.all sn.m R.len y.cl (j + 1) j (Nat.lt_succ_self _) hvj fun i hb' => (y.mask sn.m hb').1
    have hlt : ∀ i, S i → Hv r i → i < j := fun i hi hv => by
      rcases Nat.lt_trichotomy i j with h | h | h
      · exact h
      · subst h; exact (y.no hi).elim
      · have hoi : L[i]? = some (L[i]'(y.lt i hi)) := List.getElem?_eq_getElem _
        exact (y.no (ph.all sn.m R.len y.cl (i + 1) i (Nat.lt_succ_self _) hv (fun i' hb' => (sn.m.sub y.cl (i + 1) i _ (Nat.lt_succ_self _) hoi (y.cl i _ hi hoi) i' hb').1) j h hvj)).elim
    have hlast : Last r p j := by
      cases p with
      | none => exact fun i hi hv => by obtain ⟨q, hq, _⟩ := M.top i (below i hi hv) hv; cases hq
      | some q =>
        obtain ⟨q1, q2⟩ := M.has q rfl
        refine ⟨hlt q q1 q2, q2, fun i h1 h2 hv => ?_⟩
        obtain ⟨q', hq, hle⟩ := M.top i (below i h2 hv) hv
        injection hq with hq; subst hq
        omega
    obtain ⟨s1, hM⟩ := M.heavy y sn.m R hlast hlt hb hr hwk
    obtain ⟨x, w', V', e1, r1, s2, x2⟩ := stepV_run hA hI hC ho hw s1 ht hst k cs (rest := rest) (b := b)
    exact ⟨_, w', V', some j, e1, T0.step y sn x2.le hr hp r1, hM s2 x2, by rw [dput]; exact D.mono fun _ _ => .mono x2.le⟩
end Ev
end Go.Proofs.YtlkgdpdnhnakoaaGreatDoor

namespace Go.Proofs.YtlkgdpdnhnakoaaGreatDoor
namespace Ev
variable {X : Type} {E : Xs X} {G : Nat} {A : Tab} {I : Ix X} {C : Cl X} {nt base : Nat} {ms : List Nat} {L : List Oper} {r : List (Rc X)} {st : Nat → St X}
variable {h00 : Hp X} {V0 : Vn} {w0 : World}

def Sof (listed : Array Bool) (i : Nat) : Prop := listed[i]? = some true
theorem Sof.set {listed : Array Bool} {j : Nat} (hj : j < listed.size) : Sof (listed.setIfInBounds j true) = fun i => Sof listed i ∨ i = j := by
  funext i
  apply propext
  unfold Sof
  rw [Array.getElem?_setIfInBounds]
  by_cases h : j = i
  · subst h; simp [hj]
  · simp only [if_neg h]
    exact ⟨fun e => .inl e, fun e => e.resolve_right fun e => h e.symm⟩
theorem Sof.full {listed : Array Bool} {n : Nat} (hn : listed.size = n) (h : ∀ i, i < n → Sof listed i) : Sof listed = fun i => i < n := by
  funext i
  apply propext
  refine ⟨fun e => ?_, h i⟩
  rw [← hn]
  exact (Array.getElem?_eq_some_iff.1 e).1
theorem ready_mem {ops : Array Oper} (hops : ops.toList = L) {listed : Array Bool} (hn : listed.size = L.length) {j : Nat} (h : j ∈ Region.ready .any ops listed) (cl : Closed L (Sof listed)) : ∃ o, Rdy L (Sof listed) j o := by
  unfold Region.ready at h
  obtain ⟨h1, h2⟩ := List.mem_filter.1 h
  have hj : j < L.length := by
    have := List.mem_range.1 h1
    rw [← hops]; simpa using this
  simp only [Bool.and_eq_true, Bool.not_eq_true'] at h2
  obtain ⟨h2, h3⟩ := h2
  have ho : ops[j]? = some (L[j]'hj) := by
    have : L[j]? = some (L[j]'hj) := List.getElem?_eq_getElem _
    rw [← this, ← hops]; simp
  rw [ho] at h3
  simp only [Option.map_some, Option.getD_some, Array.all_eq_true'] at h3
  refine ⟨L[j]'hj, cl, fun i hi => by rw [← hn]; exact (Array.getElem?_eq_some_iff.1 hi).1, fun hs => ?_, List.getElem?_eq_getElem _, fun e he hb => ?_⟩
  · unfold Sof at hs
    rw [Array.getD_eq_getD_getElem?, hs] at h2
    cases h2
  · have := h3 e (by simpa using he)
    rw [hb] at this
    simp only [Bool.not_true, Bool.false_or] at this
    unfold Sof
    rw [Array.getD_eq_getD_getElem?] at this
    cases hg : listed[e.on]? with
    | none => rw [hg] at this; cases this
    | some x => rw [hg] at this; simp only [Option.getD_some] at this; rw [this]
/-- Where nothing is ready, all have run. -/
theorem ready_nil {ops : Array Oper} (hops : ops.toList = L) (m : Masks L ms) {listed : Array Bool} (hn : listed.size = L.length) (h : Region.ready .any ops listed = []) : ∀ (n i : Nat), i < n → i < L.length → Sof listed i := by
  intro n
  induction n with
  | zero => intro i hi; omega
  | succ n ih =>
    intro i hi hl
    have hlt : i < listed.size := by rw [hn]; exact hl
    cases hs : listed[i]'hlt with
    | true => exact Array.getElem?_eq_some_iff.2 ⟨hlt, hs⟩
    | false =>
      exfalso
      have : i ∈ Region.ready .any ops listed := by
        unfold Region.ready
        have hops2 : ops.size = L.length := by rw [← hops]; simp
        refine List.mem_filter.2 ⟨List.mem_range.2 (by rw [hops2]; exact hl), ?_⟩
        have ho : L[i]? = some (L[i]'hl) := List.getElem?_eq_getElem _
        have ho2 : ops[i]? = some (L[i]'hl) := by rw [← ho, ← hops]; simp
        have hg : listed.getD i true = false := by rw [Array.getD_eq_getD_getElem?, Array.getElem?_eq_getElem hlt, hs]; rfl
        rw [hg, ho2]
        simp only [Bool.not_false, Bool.true_and, Option.map_some, Option.getD_some, Array.all_eq_true']
        intro e he
        cases hb : Region.binds .any e with
        | false => rfl
        | true =>
          have hlt2 := m.lt i _ ho e (by simpa using he) hb
          have := ih e.on (by omega) (by omega)
          unfold Sof at this
          simp only [Bool.not_true, Bool.false_or]
          rw [Array.getD_eq_getD_getElem?, this]; rfl
      rw [h] at this; cases this
theorem filter_less {l : List Nat} {p q : Nat → Bool} (h : ∀ i, q i = true → p i = true) {j : Nat} (hj : j ∈ l) (hp : p j = true) (hq : q j = false) : (l.filter q).length < (l.filter p).length := by
  have e : l.filter q = (l.filter p).filter q := by
    rw [List.filter_filter]
    apply List.filter_congr
    intro x _
    cases hx : q x with
    | false => rfl
    | true => rw [h x hx]; rfl
  rw [e]
  exact List.length_filter_lt_length_iff_exists.2 ⟨j, List.mem_filter.2 ⟨hj, hp⟩, by rw [hq]; simp⟩
theorem go_run (hA : A.Ok) (hI : IxOk E G A I) (hC : ClOk E G A C) {ops : Array Oper} (hops : ops.toList = L) (sn : Seen L ms) (R : Run A G I C nt base ms L r st) (ph : Phases A G I ms r (st 0).h) (hbase : h00.next ≤ base) (hb : ∀ f v ob, r[f]? = some (.fr v ob) → base + f < (st 0).h.next) {b : Frame}
    {ds : List Df} (k : List Item) (cs : List Frame) : ∀ (fuel t : Nat) (listed : Array Bool) {p : Option Nat} {V : Vn} {w : World} {a : Act}, listed.size = L.length → Closed L (Sof listed) → ((List.range L.length).filter (fun i => !listed.getD i true)).length ≤ fuel → TI r st L nt (Sof listed) V a.tmps →
    MI E G r (st 0).h ms V0 h00 w0 base (Sof listed) p V w → All2 (DfR V) ds a.defers →
    ∃ a' w' V' p', Steps A.P (lone (b.atR a (.inRegion ops (Region.linearise.go .any ops fuel t listed []) :: k)) cs w) (lone (b.atR a' (.inRegion ops [] :: k)) cs w') ∧ TI r st L nt (fun i => i < L.length) V' a'.tmps ∧ MI E G r (st 0).h ms V0 h00 w0 base (fun i => i < L.length) p' V' w' ∧ All2 (DfR V') ds a'.defers := by
  intro fuel
  induction fuel with
  | zero =>
    intro t listed p V w a hn cl hu T0 M D
    have hnil : (List.range L.length).filter (fun i => !listed.getD i true) = [] := List.eq_nil_of_length_eq_zero (Nat.le_zero.1 hu)
    have all : ∀ i, i < L.length → Sof listed i := fun i hi => by
      have := List.filter_eq_nil_iff.1 hnil i (List.mem_range.2 hi)
      simp only [Bool.not_eq_true', Bool.not_eq_false] at this
      unfold Sof
      rw [Array.getD_eq_getD_getElem?, Array.getElem?_eq_getElem (by omega)] at this
      rw [Array.getElem?_eq_getElem (by omega)]
      simpa using this
    rw [Sof.full hn all] at T0 M
    exact ⟨a, w, V, p, .refl _ _, T0, M, D⟩
  | succ fuel ih =>
    intro t listed p V w a hn cl hu T0 M D
    simp only [Region.linearise.go]
    change ∃ a' w' V' p', Steps A.P (lone (b.atR a (.inRegion ops (match (Region.ready .any ops listed)[t % (Region.ready .any ops listed).length]? with
      | some i => Region.linearise.go .any ops fuel (t / (Region.ready .any ops listed).length) (listed.setIfInBounds i true) [i]
      | none => [].reverse) :: k)) cs w) _ ∧ _
    cases hi : (Region.ready .any ops listed)[t % (Region.ready .any ops listed).length]? with
    | none =>
      have hnil : Region.ready .any ops listed = [] := by
        cases hr : Region.ready .any ops listed with
        | nil => rfl
        | cons x xs =>
          rw [hr] at hi
          have hlt : t % (x :: xs).length < (x :: xs).length := Nat.mod_lt _ (by simp)
          rw [List.getElem?_eq_getElem hlt] at hi; cases hi
      have all := ready_nil hops sn.m hn hnil L.length
      rw [Sof.full hn (fun i h => all i h h)] at T0 M
      exact ⟨a, w, V, p, .refl _ _, T0, M, D⟩
    | some j =>
      simp only []
      rw [linearise_go_acc, List.reverse_singleton, List.singleton_append]
      obtain ⟨o, y⟩ := ready_mem hops hn (List.mem_of_getElem? hi) cl
      have hj : j < L.length := (List.getElem?_eq_some_iff.1 y.op).1
      obtain ⟨a1, w1, V1, p1, g1, T1, M1, D1⟩ := draw_step hA hI hC hops sn R ph hbase hb y T0 M D (Region.linearise.go .any ops fuel (t / (Region.ready .any ops listed).length) (listed.setIfInBounds j true) []) k cs (b := b)
      rw [← Sof.set (by omega)] at T1 M1
      have cl1 := y.closed
      rw [← Sof.set (by omega)] at cl1
      have less : ((List.range L.length).filter (fun i => !(listed.setIfInBounds j true).getD i true)).length < ((List.range L.length).filter (fun i => !listed.getD i true)).length := by
        have hjl : j < listed.size := by omega
        refine filter_less (j := j) (fun i hi => ?_) (List.mem_range.2 hj) ?_ ?_
        · rw [Array.getD_eq_getD_getElem?, Array.getElem?_setIfInBounds] at hi
          rw [Array.getD_eq_getD_getElem?]
          by_cases h : j = i
          · subst h; simp [hjl] at hi
          · rw [if_neg h] at hi; exact hi
        · have hno := y.no
          unfold Sof at hno
          rw [Array.getElem?_eq_getElem hjl] at hno
          rw [Array.getD_eq_getD_getElem?, Array.getElem?_eq_getElem hjl]
          cases hv : listed[j] with
          | false => rfl
          | true => rw [hv] at hno; exact (hno rfl).elim
        · rw [Array.getD_eq_getD_getElem?, Array.getElem?_setIfInBounds, if_pos rfl]
          simp [hjl]
      obtain ⟨a2, w2, V2, p2, g2, r2⟩ := ih (t / (Region.ready .any ops listed).length) (listed.setIfInBounds j true) (by simpa using hn) cl1 (by omega) T1 M1 D1
      exact ⟨a2, w2, V2, p2, g1.trans g2, r2⟩
end Ev
end Go.Proofs.YtlkgdpdnhnakoaaGreatDoor

namespace Go.Proofs.YtlkgdpdnhnakoaaGreatDoor
namespace Ev
variable {X : Type} {E : Xs X} {G : Nat} {A : Tab} {I : Ix X} {C : Cl X}

theorem freshO_is {tm : T AV} {b : Nat} {o : Op} {v : AV} {ob : Ob X} (h : freshO A G tm b o = some (v, ob)) : isFresh o = true := by
  cases o <;> first
    | rfl
    | (simp only [freshO] at h; cases h)
theorem anyFresh_of {l : List Oper} {f : Nat} {o : Oper} (h : l[f]? = some o) (hf : isFresh o.op = true) : anyFresh l = true := by
  have hm : o ∈ l := List.mem_of_getElem? h
  clear h
  induction l with
  | nil => cases hm
  | cons x l ih =>
    simp only [anyFresh]
    cases hx : isFresh x.op with
    | true => rfl
    | false =>
      rcases List.mem_cons.1 hm with e | e
      · rw [e, hx] at hf; cases hf
      · exact ih e
theorem draw_core (hA : A.Ok) (hI : IxOk E G A I) (hC : ClOk E G A C) (hmix : A.P.follows .mixedOrders = true) {b : Frame} {ops : Array Oper} {nt : Nat} {V : Vn} {tm tmE : T AV} {ds : List Df} {h hE : Hp X} {a : Act} {w : World} (s : Sim E G V h w) (f : FrR V tm nt ds a) {ms : List Nat} (hms : seenO ops.toList = some ms) {next : Nat}
    (hle : h.next ≤ next) (hfr : anyFresh ops.toList = true → next = h.next + ops.toList.length) {r : List (Rc X)} {pfE : List (Nat × Ob X)} (hrun : runD A G I C nt h.next ms ops.toList 0 ops.toList tm [] ⟨h.t, next⟩ = some (r, tmE, pfE, hE)) (h1 : sameL A G I ms none (nextH 0 r) ⟨h.t, next⟩ 0 r = true) (h2 : phasesO A G I ms r none 0 r = true)
    {t' : T (Ob X)} {rest : List (Nat × Ob X)} {mk : Nat} (hw : wakeO h.next mk pfE hE.t = (t', rest)) (id : Nat) (k : List Item) (cs : List Frame) :
    ∃ a' w' V', Steps A.P (lone (b.atR a (.code (.region id ops true) :: k)) cs w) (lone (b.atR a' k) cs w') ∧ Sim E G V' ⟨t', hE.next⟩ w' ∧ FrR V' tmE nt ds a' ∧ Ext E V h w V' ⟨t', hE.next⟩ w' := by
  have sn := Seen.of hms
  obtain ⟨st, s0, s1, s2, s3⟩ := runD_spec hrun
  have R : Run A G I C nt h.next ms ops.toList r st := ⟨s2, fun k o hk => by have := s3 k o hk; rw [Nat.zero_add] at this; exact this, by rw [s0]⟩
  have h0 : (st 0).h = ⟨h.t, next⟩ := by rw [s0]
  have ph : Phases A G I ms r (st 0).h := Phases.of (by rw [h0]; exact h1) h2
  have hb : ∀ f v ob, r[f]? = some (.fr v ob) → h.next + f < (st 0).h.next := fun f v ob hf => by
    have hlt : f < ops.toList.length := by rw [← s2]; exact (List.getElem?_eq_some_iff.1 hf).1
    have ho : ops.toList[f]? = some (ops.toList[f]'hlt) := List.getElem?_eq_getElem _
    obtain ⟨rc, e1, _, e2⟩ := R.one f _ ho
    rw [hf] at e1; cases e1
    rw [h0]
    show h.next + f < next
    rw [hfr (anyFresh_of ho (freshO_is e2.2.1))]
    exact Nat.add_lt_add_left hlt _
  -- the start
  let w1 : World := { w with drawn := w.drawn + 1 }
  have hS : Sof (Array.replicate ops.size false) = fun _ => False := by
    funext i
    apply propext
    unfold Sof
    rw [Array.getElem?_replicate]
    refine ⟨fun e => ?_, fun e => e.elim⟩
    split at e <;> simp at e
  have T0 : TI r st ops.toList nt (Sof (Array.replicate ops.size false)) V a.tmps := by
    rw [hS]
    refine ⟨f.tm.1, fun t i o rc hi => hi.elim, fun t z _ hz => ?_⟩
    rw [s0] at hz
    exact f.tm.2 t z hz
  have M0 : MI E G r (st 0).h ms V h w1 h.next (Sof (Array.replicate ops.size false)) none V w1 := by
    rw [hS]
    have hat : heapAt r (st 0).h none = ⟨h.t, next⟩ := h0
    refine ⟨fun i hi => hi.elim, fun q e => (by cases e), ?_, ?_, by rw [hat, h0]; exact Nat.le_refl _, fun f ob d => d.1.elim, fun f g ob ob' pl pl' d => d.1.elim, fun f v ob _ _ => s.new _ (Nat.le_add_right _ _)⟩
    · rw [hat]
      have s' := s.heap (w' := w1) rfl
      exact ⟨fun b hb' => s'.new b (Nat.le_trans hle hb'), s'.glob, s'.ob, s'.apart⟩
    · rw [hat]
      exact ⟨.refl V, Nat.le_refl _, hle, fun j _ hn => ⟨rfl, hn⟩, fun _ _ => rfl, ⟨rfl, rfl, rfl⟩⟩
  have cl0 : Closed ops.toList (Sof (Array.replicate ops.size false)) := by rw [hS]; exact fun j o hj => hj.elim
  have hlen : ops.toList.length = ops.size := by simp
  have hcount : ((List.range ops.toList.length).filter (fun i => !(Array.replicate ops.size false).getD i true)).length ≤ ops.size := by
    refine Nat.le_trans (List.length_filter_le _ _) ?_
    rw [List.length_range, hlen]; exact Nat.le_refl _
  obtain ⟨a1, w2, V2, p2, g1, T1, M1, D1⟩ := go_run hA hI hC rfl sn R ph (Nat.le_refl _) hb (b := b) k cs ops.size (w.tape w.drawn (.order b.fn id)) (Array.replicate ops.size false) (by simp) cl0 hcount T0 M0 f.ds
  have hdraw := stepR_region_draw (P := A.P) (b := b) (a := a) (k := k) (cs := cs) (w := w) (ops := ops) (id := id)
  have hsch : Region.schedule (A.P.follows .mixedOrders) ops (w.tape w.drawn (.order b.fn id)) = Region.linearise.go .any ops ops.size (w.tape w.drawn (.order b.fn id)) (Array.replicate ops.size false) [] := by
    simp only [Region.schedule, hmix, Bool.true_or, if_true]; rfl
  rw [hsch] at hdraw
  -- the end
  have hlast : Last r p2 ops.toList.length := by
    cases p2 with
    | none => exact fun i hi hv => by obtain ⟨q, hq, _⟩ := M1.top i hi hv; cases hq
    | some q =>
      obtain ⟨q1, q2⟩ := M1.has q rfl
      refine ⟨q1, q2, fun i h3 h4 hv => ?_⟩
      obtain ⟨q', hq, hle⟩ := M1.top i h4 hv
      injection hq with hq; subst hq
      omega
  have hhE := R.h _ (Nat.le_refl _) hlast
  rw [s1] at hhE
  have simE := M1.sim
  rw [← hhE] at simE
  obtain ⟨pf1, pf2⟩ := R.pf sn.m _ (Nat.le_refl _)
  rw [s1] at pf1 pf2
  have dm : ∀ f ob, (f, ob) ∈ pfE → Dorm r ms (fun i => i < ops.toList.length) f ob := fun f ob hf => by
    obtain ⟨q1, q2, q3⟩ := pf1 f ob hf
    exact ⟨q1, q2, fun i hi hv => q3 i hi hv⟩
  obtain ⟨sF, lF⟩ := wake_run (E := E) (base := h.next) (nx := hE.next) (t := hE.t) simE pf2 (fun f ob hf _ => by
    obtain ⟨pl, q1, q2, q3, q4, _⟩ := M1.dorm f ob (dm f ob hf)
    rw [← hhE] at q4
    exact ⟨pl, q1, q2, q3, q4⟩) (fun f g ob ob' pl pl' hf hg _ _ hne => M1.apart f g ob ob' pl pl' (dm f ob hf) (dm g ob' hg) hne) hw
  have xE := M1.ext
  rw [← hhE] at xE
  have xF : Ext E V h w V2 ⟨t', hE.next⟩ w2 := by
    refine ⟨xE.le, xE.size, xE.next, fun i hi hn => ?_, xE.old, ⟨xE.out.os, xE.out.tape, xE.out.output⟩⟩
    obtain ⟨k1, k2⟩ := xE.keep i hi hn
    refine ⟨k1, fun l => ?_⟩
    rcases lF i l with l1 | ⟨f, ob, pl, r1, _, r3, r4⟩
    · exact k2 l1
    · obtain ⟨pl1, u1, _, _, _, u5⟩ := M1.dorm f ob (dm f ob r1)
      rw [r3] at u1; cases u1
      have hi' : i < w.heap.size := hi
      have u5' : w.heap.size ≤ pl.bl := u5
      omega
  have ft : TmR V2 tmE nt a1.tmps := by
    refine ⟨T1.size, fun t z g => ?_⟩
    have g' : (st ops.toList.length).tm.get t = some z := by rw [s1]; exact g
    rcases R.tm _ (Nat.le_refl _) g' with ⟨i, o, rc, r1, r2, r3, r4, r5, r6⟩ | ⟨r1, r2⟩
    · subst r5
      refine T1.wr t i o rc r1 r2 r3 r4 fun i' o' hs ho' hd' => ?_
      rcases Nat.lt_or_ge i i' with h3 | h3
      · exact (r6 i' o' h3 hs ho' hd').elim
      · exact h3
    · exact T1.un t z (fun i o hi => r1 i o hi) r2
  exact ⟨a1, w2, V2, .head hdraw (Steps.trans g1 (.one stepR_region_end)), sF, ⟨ft, D1⟩, xF⟩
theorem drawO_ok (hA : A.Ok) (hI : IxOk E G A I) (hC : ClOk E G A C) (hmix : A.P.follows .mixedOrders = true) : DrawOk E G A I C := by
  intro b rd _ ops nt V tm tm' ds ds' h h' a w s f q id k cs
  unfold drawO at q
  split at q
  case h_1 => cases q
  rename_i ms hms
  rw [nseq_eq] at q
  cases hany : anyFresh ops.toList with
  | true =>
    rw [hany] at q
    simp only at q
    split at q
    case h_1 => cases q
    rename_i r tmE pfE hE hrun
    split at q
    case h_2 => cases q
    rename_i h1 h2
    injection q with q; injection q with q1 q; injection q with q2 q3; subst q1; subst q2; subst q3
    exact draw_core hA hI hC hmix s f hms (Nat.le_add_right _ _) (fun _ => rfl) hrun h1 h2 (rest := (wakeO h.next (Nat.pow 2 ops.toList.length - 1) pfE hE.t).2) rfl id k cs
  | false =>
    rw [hany] at q
    simp only at q
    split at q
    case h_1 => cases q
    rename_i r tmE pfE hE hrun
    split at q
    case h_2 => cases q
    rename_i h1 h2
    injection q with q; injection q with q1 q; injection q with q2 q3; subst q1; subst q2; subst q3
    exact draw_core hA hI hC hmix s f hms (Nat.le_refl _) (fun e => by rw [hany] at e; cases e) hrun h1 h2 (rest := (wakeO h.next (Nat.pow 2 ops.toList.length - 1) pfE hE.t).2) rfl id k cs
end Ev
end Go.Proofs.YtlkgdpdnhnakoaaGreatDoor

namespace Go.Proofs.YtlkgdpdnhnakoaaGreatDoor
namespace Ev
variable {X : Type} {E : Xs X} {G : Nat}

/-- The state at a mutex's address turns from one to another. -/
noncomputable def muTurn (x y : Int) (args : List AV) (h : Hp X) : Option (AV × Hp X) := match args with
  | [.V (.C (.P (some (b, o))))] => match h.t.get b with
    | some (.cells t m _) => match Nat.ble (Nat.succ o) m, t.get o with
      | true, some (.I .i32 k) => match decide (k = x), storeAt h b o [.I .i32 y] with
        | true, some h' => some (.U [], h')
        | _, _ => none
      | _, _ => none
    | _ => none
  | _ => none
theorem muTurn_run (P : Program) {x y : Int} {args : List AV} {h h' : Hp X} {z : AV} (q : muTurn x y args h = some (z, h')) {V : Vn} {w : World} {xs : List Value} (s : Sim E G V h w) (hr : All2 (AV.rel V) args xs) :
    ∃ a : Addr, xs = [.pointer (some a)] ∧ w.cell? a = some (.int .i32 x) ∧ w.frozen? a = false ∧ z = .U [] ∧ Sim E G V h' (w.setCell a (.int .i32 y)) ∧ Ext E V h w V h' (w.setCell a (.int .i32 y)) := by
  unfold muTurn at q
  split at q
  case h_2 => cases q
  rename_i b o
  split at q
  case h_2 => cases q
  rename_i t m ext hg
  split at q
  case h_2 => cases q
  rename_i k hle hk
  split at q
  case h_2 => cases q
  rename_i h1 hd hs
  injection q with q; injection q with q1 q2; subst q1; subst q2
  have hkx : k = x := of_decide_eq_true hd
  subst hkx
  match xs, hr with
  | [v], hr =>
    obtain ⟨a, ⟨p, hp, rfl⟩, rfl⟩ : ∃ a, pR V (b, o) a ∧ v = .pointer (some a) := hr.1
    obtain ⟨p', hp', c, ty, fz, hc, hfz, hcr⟩ := s.ob _ _ hg
    have hp : V b = some p := hp
    rw [hp] at hp'; cases hp'
    have hlt : o < m := Nat.le_of_ble_eq_true hle
    obtain ⟨u, u1, u2⟩ := hcr.1 o _ hlt hk
    have : u = .int .i32 k := u2
    subst this
    have hsz := (Array.getElem?_eq_some_iff.1 u1).1
    obtain ⟨w', r1, r2, r3⟩ := storeAt_run (P := P) s hs (x := ⟨p.bl, p.of + o, none⟩) ⟨p, hp, rfl⟩ (vs := [.int .i32 y]) ⟨rfl, trivial⟩
    have r4 := run_storeCells (P := P) (b := p.bl) (o := p.of + o) (ty := ty) (fz := fz) [.int .i32 y] w c 0 hc hfz (by simp; omega) (by simp [Value.oneCell])
    rw [r1] at r4
    injection r4 with _ r4
    have r5 : w' = w.setCell ⟨p.bl, p.of + o, none⟩ (.int .i32 y) := by rw [setCell_blk hc, r4]; rfl
    subst r5
    refine ⟨⟨p.bl, p.of + o, none⟩, rfl, by rw [cell_at hc]; exact u1, ?_, rfl, r2, r3⟩
    have : ¬(fz.1 ≤ p.of + o ∧ p.of + o < fz.2) := by omega
    simp only [World.frozen?, hc]
    simpa using this
end Ev
end Go.Proofs.YtlkgdpdnhnakoaaGreatDoor

namespace Go.Proofs.YtlkgdpdnhnakoaaGreatDoor
namespace Ev
variable {X : Type} {E : Xs X} {G : Nat}

/-- The number in a cell. -/
noncomputable def cellI (h : Hp X) (b o : Nat) : Option (IntKind × Int) := match h.t.get b with
  | some (.cells t m _) => match Nat.ble (Nat.succ o) m, t.get o with
    | true, some (.I k n) => some (k, n)
    | _, _ => none
  | _ => none
theorem cellI_at {h : Hp X} {b o : Nat} {k : IntKind} {n : Int} (q : cellI h b o = some (k, n)) {V : Vn} {w : World} (s : Sim E G V h w) {a : Addr} (ha : pR V (b, o) a) :
    w.cell? a = some (.int k n) ∧ w.frozen? a = false ∧ ∃ bl of c ty fz, a = ⟨bl, of, none⟩ ∧ w.heap[bl]? = some (.cells c ty fz) ∧ of < c.size ∧ (fz.1 = fz.2 ∨ c.size ≤ fz.1) := by
  unfold cellI at q
  split at q
  case h_2 => cases q
  rename_i t m ext hg
  split at q
  case h_2 => cases q
  rename_i k' n' hle hk
  injection q with q; injection q with q1 q2; subst q1; subst q2
  obtain ⟨p, hp, rfl⟩ := ha
  have hp : V b = some p := hp
  obtain ⟨p', hp', c, ty, fz, hc, hfz, hcr⟩ := s.ob _ _ hg
  rw [hp] at hp'; cases hp'
  obtain ⟨u, u1, u2⟩ := hcr.1 o _ (Nat.le_of_ble_eq_true hle) hk
  have : u = .int k' n' := u2
  subst this
  have hsz := (Array.getElem?_eq_some_iff.1 u1).1
  refine ⟨by rw [cell_at hc]; exact u1, ?_, p.bl, p.of + o, c, ty, fz, rfl, hc, hsz, hfz⟩
  have : ¬(fz.1 ≤ p.of + o ∧ p.of + o < fz.2) := by omega
  simp only [World.frozen?, hc]
  simpa using this
/-- A number is put into a cell. -/
theorem cellI_put (P : Program) {h h' : Hp X} {b o : Nat} {k j : IntKind} {n y : Int} (q : cellI h b o = some (k, n)) (hs : storeAt h b o [.I j y] = some h') {V : Vn} {w : World} (s : Sim E G V h w) {a : Addr} (ha : pR V (b, o) a) :
    Sim E G V h' (w.setCell a (.int j y)) ∧ Ext E V h w V h' (w.setCell a (.int j y)) := by
  obtain ⟨_, _, bl, of, c, ty, fz, rfl, hc, hlt, hfz⟩ := cellI_at q s ha
  obtain ⟨w', r1, r2, r3⟩ := storeAt_run (P := P) s hs ha (vs := [.int j y]) ⟨rfl, trivial⟩
  have r4 := run_storeCells (P := P) (b := bl) (o := of) (ty := ty) (fz := fz) [.int j y] w c 0 hc hfz (by simp; omega) (by simp [Value.oneCell])
  rw [r1] at r4
  injection r4 with _ r4
  have r5 : w' = w.setCell ⟨bl, of, none⟩ (.int j y) := by rw [setCell_blk hc, r4]; rfl
  subst r5
  exact ⟨r2, r3⟩
/-- What a body-less function does. -/
inductive Ik where
  | load (k : IntKind)
  | store
  | cas (k : IntKind)
  | add (k : IntKind)
  | mark0
  | marked
def IkOk (fn : Func) : Ik → Prop
  | .load k => Extern.find fn = some (Extern.Atomic.loadT (.int k))
  | .store => Extern.find fn = some Extern.Atomic.storeT
  | .cas k => Extern.find fn = some (Extern.Atomic.casT (.int k))
  | .add k => Extern.find fn = some (Extern.Atomic.update (Op.intArith .add) k true)
  | .mark0 => ∃ m, Extern.find fn = some (fun _ => do mark m; pure Extern.Race.none_)
  | .marked => ∃ m, Extern.find fn = some (Extern.Race.marked m)
noncomputable def ixK : Ik → List AV → Hp X → Option (AV × Hp X)
  | .load k, [.V (.C (.P (some (b, o))))], h => match cellI h b o with
    | some (j, n) => match decide (j = k) with
      | true => some (.V (.C (.I k n)), h)
      | false => none
    | none => none
  | .store, [.V (.C (.P (some (b, o)))), .V (.C (.I j y))], h => match cellI h b o, storeAt h b o [.I j y] with
    | some _, some h' => some (.U [], h')
    | _, _ => none
  | .cas k, [.V (.C (.P (some (b, o)))), .V (.C (.I k1 x)), .V (.C (.I k2 y))], h => match cellI h b o with
    | some (j, n) => match decide (j = k ∧ k1 = k ∧ k2 = k) with
      | true => match decide (n = x) with
        | true => match storeAt h b o [.I k y] with
          | some h' => some (.V (.C (.B true)), h')
          | none => none
        | false => some (.V (.C (.B false)), h)
      | false => none
    | none => none
  | .add k, [.V (.C (.P (some (b, o)))), .V (.C (.I k1 y))], h => match cellI h b o with
    | some (j, n) => match decide (j = k ∧ k1 = k) with
      | true => match storeAt h b o [.I k (k.wrap (n + y))] with
        | some h' => some (.V (.C (.I k (k.wrap (n + y)))), h')
        | none => none
      | false => none
    | none => none
  | .mark0, [], h => some (.U [], h)
  | .marked, [.V (.C (.P (some _)))], h => some (.U [], h)
  | _, _, _ => none
theorem ixK_run {P : Program} {f : FuncId} {fn : Func} (hf : P.funcs[f]? = some fn) (hname : (fn.name == "runtime.NumGoroutine") = false) (hb : fn.body.isNone = true) (hn : Extern.findNext fn = none) {i : Ik} (hi : IkOk fn i) {args : List AV} {h h' : Hp X} {z : AV} (q : ixK i args h = some (z, h')) {V : Vn} {w : World} {xs : List Value} (s : Sim E G V h w) (hr : All2 (AV.rel V) args xs) :
    ∃ u w' V', (callFunc f xs.toArray).run P w = .ok (.value u) w' ∧ z.rel V' u ∧ Sim E G V' h' w' ∧ Ext E V h w V' h' w' := by
  unfold ixK at q
  split at q
  case h_1 k b o =>
    match xs, hr with
    | [v], hr =>
      obtain ⟨a, ha, rfl⟩ : ∃ a, pR V (b, o) a ∧ v = .pointer (some a) := hr.1
      split at q
      case h_2 => cases q
      rename_i j n hc
      split at q
      case h_2 => cases q
      rename_i hd
      have := of_decide_eq_true hd
      subst this
      injection q with q; injection q with q1 q2; subst q1; subst q2
      exact ⟨_, w, V, run_call_load hf hname hb hn j hi (cellI_at hc s ha).1, rfl, s, .refl E V h w⟩
  case h_2 b o j y =>
    match xs, hr with
    | [v, v2], hr =>
      obtain ⟨a, ha, rfl⟩ : ∃ a, pR V (b, o) a ∧ v = .pointer (some a) := hr.1
      have : v2 = .int j y := hr.2.1
      subst this
      split at q
      case h_2 => cases q
      rename_i kn h1 hc hs
      injection q with q; injection q with q1 q2; subst q1; subst q2
      obtain ⟨c1, c2, _⟩ := cellI_at (k := kn.1) (n := kn.2) hc s ha
      obtain ⟨s1, x1⟩ := cellI_put P (k := kn.1) (n := kn.2) hc hs s ha
      exact ⟨_, _, V, run_call_store hf hname hb hn hi c1 c2, ⟨[], trivial, rfl⟩, s1, x1⟩
  case h_3 k b o k1 x k2 y =>
    match xs, hr with
    | [v, v2, v3], hr =>
      obtain ⟨a, ha, rfl⟩ : ∃ a, pR V (b, o) a ∧ v = .pointer (some a) := hr.1
      have : v2 = .int k1 x := hr.2.1
      subst this
      have : v3 = .int k2 y := hr.2.2.1
      subst this
      split at q
      case h_2 => cases q
      rename_i j n hc
      split at q
      case h_2 => cases q
      rename_i hd
      obtain ⟨rfl, rfl, rfl⟩ := of_decide_eq_true hd
      obtain ⟨c1, c2, _⟩ := cellI_at hc s ha
      split at q
      case h_1 hx =>
        have := of_decide_eq_true hx
        subst this
        split at q
        case h_2 => cases q
        rename_i h1 hs
        injection q with q; injection q with q1 q2; subst q1; subst q2
        obtain ⟨s1, x1⟩ := cellI_put P hc hs s ha
        exact ⟨_, _, V, run_call_cas_hit hf hname hb hn _ hi c1 c2, rfl, s1, x1⟩
      case h_2 hx =>
        injection q with q; injection q with q1 q2; subst q1; subst q2
        exact ⟨_, w, V, run_call_cas_miss hf hname hb hn _ hi c1 c2 (of_decide_eq_false hx), rfl, s, .refl E V h w⟩
  case h_4 k b o k1 y =>
    match xs, hr with
    | [v, v2], hr =>
      obtain ⟨a, ha, rfl⟩ : ∃ a, pR V (b, o) a ∧ v = .pointer (some a) := hr.1
      have : v2 = .int k1 y := hr.2.1
      subst this
      split at q
      case h_2 => cases q
      rename_i j n hc
      split at q
      case h_2 => cases q
      rename_i hd
      obtain ⟨rfl, rfl⟩ := of_decide_eq_true hd
      obtain ⟨c1, c2, _⟩ := cellI_at hc s ha
      split at q
      case h_2 => cases q
      rename_i h1 hs
      injection q with q; injection q with q1 q2; subst q1; subst q2
      obtain ⟨s1, x1⟩ := cellI_put P hc hs s ha
      exact ⟨_, _, V, run_call_add hf hname hb hn _ hi c1 c2 rfl, rfl, s1, x1⟩
  case h_5 =>
    match xs, hr with
    | [], _ =>
      injection q with q; injection q with q1 q2; subst q1; subst q2
      obtain ⟨m, hm⟩ := hi
      exact ⟨_, w, V, run_call_mark0 hf hname hb hn m hm w, ⟨[], trivial, rfl⟩, s, .refl E V h w⟩
  case h_6 p =>
    match xs, hr with
    | [v], hr =>
      obtain ⟨a, _, rfl⟩ : ∃ a, pR V p a ∧ v = .pointer (some a) := hr.1
      injection q with q; injection q with q1 q2; subst q1; subst q2
      obtain ⟨m, hm⟩ := hi
      exact ⟨_, w, V, run_call_marked hf hname hb hn m hm a w, ⟨[], trivial, rfl⟩, s, .refl E V h w⟩
  case h_7 => cases q
end Ev
end Go.Proofs.YtlkgdpdnhnakoaaGreatDoor

namespace Go.Proofs.YtlkgdpdnhnakoaaGreatDoor
namespace Ev
noncomputable def tabOf (P : Program) : Tab := ⟨P, T.ofL P.funcs.toList, T.ofL P.types.toList⟩
theorem tab_ok {P : Program} (h : P.funcs.toList.all (fun F => !(F.name == "runtime.NumGoroutine")) = true) : (tabOf P).Ok := by
  refine ⟨fun f F hf => ?_, fun t i ht => ?_⟩
  · have hf : P.funcs.toList[f]? = some F := T.get_ofL hf
    refine ⟨by rw [← hf]; simp [tabOf], ?_⟩
    have := List.all_eq_true.1 h F (List.mem_of_getElem? hf)
    simpa using this
  · have ht : P.types.toList[t]? = some i := T.get_ofL ht
    exact info_of (by rw [← ht]; simp [tabOf])
end Ev
end Go.Proofs.YtlkgdpdnhnakoaaGreatDoor

namespace Go.Proofs.YtlkgdpdnhnakoaaGreatDoor
namespace Ev
variable {X : Type} {E : Xs X} {G : Nat}

def intsC : List Ce → Option (List Int)
  | [] => some []
  | .I .u8 n :: l => match intsC l with
    | some r => some (n :: r)
    | none => none
  | _ => none
def idxFrom : List UInt8 → UInt8 → Nat → Int
  | [], _, _ => -1
  | b :: l, c, i => match b == c with
    | true => .ofNat i
    | false => idxFrom l c (Nat.succ i)
theorem indexByte_ge (l : List UInt8) (c : UInt8) : -1 ≤ Lib.indexByte l c := by
  induction l with
  | nil => simp [Lib.indexByte]
  | cons b l ih =>
    unfold Lib.indexByte
    split
    · omega
    · split <;> omega
theorem idxFrom_eq (l : List UInt8) (c : UInt8) (i : Nat) : idxFrom l c i = if Lib.indexByte l c = -1 then -1 else Lib.indexByte l c + i := by
  induction l generalizing i with
  | nil => simp [idxFrom, Lib.indexByte]
  | cons b l ih =>
    unfold idxFrom Lib.indexByte
    have := indexByte_ge l c
    cases h : b == c
    · simp only [Bool.false_eq_true, if_false]
      rw [ih]
      by_cases h1 : Lib.indexByte l c = -1
      · simp [h1]
      · rw [if_neg h1]
        have h2 : (Lib.indexByte l c == -1) = false := by simpa using h1
        rw [h2]
        simp only [Bool.false_eq_true, if_false]
        rw [if_neg (by omega)]
        omega
    · simp
noncomputable def ibO (args : List AV) (h : Hp X) : Option (AV × Hp X) := match args with
  | [.V (.C (.L (some (b, o)) n _)), .V (.C (.I .u8 cv))] => match h.t.get b with
    | some (.cells t m _) => match Nat.ble (Nat.add o n) m, t.getL o n with
      | true, some l => match intsC l with
        | some xs => some (.V (.C (.I .i64 (idxFrom (Lib.bytesOf xs) cv.toNat.toUInt8 0))), h)
        | none => none
      | _, _ => none
    | _ => none
  | _ => none
theorem intsC_spec {V : Vn} : ∀ {l : List Ce} {xs : List Int}, intsC l = some xs → l = xs.map fun n => .I .u8 n
  | [], xs, h => by cases h; rfl
  | c :: l, xs, h => by
    unfold intsC at h
    split at h
    · cases ‹_ = []›
    · rename_i n l' e
      injection e with e1 e2
      subst e1; subst e2
      split at h
      · rename_i r hr
        injection h with h; subst h
        rw [intsC_spec (V := V) hr]; rfl
      · cases h
    · cases h
theorem ib_run {P : Program} {f : FuncId} {fn : Func} (hf : P.funcs[f]? = some fn) (hname : (fn.name == "runtime.NumGoroutine") = false) (hb : fn.body.isNone = true) (hn : Extern.findNext fn = none) (he : Extern.find fn = some Extern.BytealgIndexByte.indexByte)
    {args : List AV} {h h' : Hp X} {z : AV} (q : ibO args h = some (z, h')) {V : Vn} {w : World} {xs : List Value} (s : Sim E G V h w) (hr : All2 (AV.rel V) args xs) :
    ∃ u w' V', (callFunc f xs.toArray).run P w = .ok (.value u) w' ∧ z.rel V' u ∧ Sim E G V' h' w' ∧ Ext E V h w V' h' w' := by
  unfold ibO at q
  split at q
  case h_2 => cases q
  rename_i b o n cp cv
  split at q
  case h_2 => cases q
  rename_i t m ext hg
  split at q
  case h_2 => cases q
  rename_i l q1 q2
  split at q
  case h_2 => cases q
  rename_i is q3
  injection q with q; injection q with q4 q5; subst q4; subst q5
  match xs, hr with
  | [v, v2], hr =>
    have : v2 = .int .u8 cv := hr.2.1
    subst this
    have r1 : (Ce.L (some (b, o)) n cp).rel V v := hr.1
    have hp : ∃ p : Pl, V b = some p ∧ ∃ cap, v = .slice (some ⟨p.bl, p.of + o, none⟩) n cap := by
      cases cp with
      | k c => obtain ⟨y, ⟨p, hp, rfl⟩, e⟩ := r1; exact ⟨p, hp, c, e⟩
      | e d => obtain ⟨p, hp, _, e⟩ := r1; exact ⟨p, hp, _, e⟩
    obtain ⟨p, hp, cap, rfl⟩ := hp
    obtain ⟨p', hp', c, ty, fz, hc, _, hcr⟩ := s.ob _ _ hg
    rw [hp] at hp'; cases hp'
    obtain ⟨vs, s1, s2, s3⟩ := hcr.getL (Nat.le_of_ble_eq_true q1) q2
    have hl := intsC_spec (V := V) q3
    subst hl
    have hlen : is.length = n := by have := s1.length; simp at this; omega
    have hcell : ∀ i, i < n → w.cell? ⟨p.bl, p.of + o + i, none⟩ = some (.int .u8 (is.getD i 0)) := fun i hi => by
      rw [cell_at hc]
      have hx : (is.map fun n => Ce.I .u8 n)[i]? = some (.I .u8 (is.getD i 0)) := by
        rw [List.getElem?_map, List.getD_eq_getElem?_getD, List.getElem?_eq_getElem (by omega)]; rfl
      obtain ⟨u, u1, u2⟩ := s1.get hx
      have : u = .int .u8 (is.getD i 0) := u2
      subst this
      exact s3 i _ u1
    refine ⟨_, w, V, ?_, rfl, s, .refl E V h w⟩
    rw [run_callFunc_extern hf hname hb hn he]
    have := Lib.run_indexByteSlice (P := P) (w := w) p.bl (p.of + o) n cap is hlen hcell cv
    rw [this]
    simp only [Result.andThen]
    congr 3
    rw [idxFrom_eq]
    have := indexByte_ge (Lib.bytesOf is) cv.toNat.toUInt8
    split <;> omega

/-- Objects of other kinds: a variable of the program, that stays; a value that is not known ahead. -/
inductive Xo where
  | tab
  | sym (i : Nat)
def varX (g : Nat) (ob : Obj) (vals : Nat → Nat × Nat) (ks : List (Nat × Obj)) : Xs Xo where
  foot o p := match o with
    | .tab => p.bl :: ks.map (·.1)
    | .sym _ => []
  rel o p w := match o with
    | .tab => p.bl = g ∧ w.heap[g]? = some ob ∧ ∀ q ∈ ks, w.heap[q.1]? = some q.2
    | .sym i => p.x = (vals i).1 ∧ p.y = (vals i).2
  keep := fun {o p w w'} h hj hs => by
    cases o with
    | tab => exact ⟨h.1, by rw [hj g (by simp [h.1])]; exact h.2.1, fun q hq => by rw [hj q.1 (List.mem_cons_of_mem _ (List.mem_map_of_mem hq))]; exact h.2.2 q hq⟩
    | sym i => exact h
  lt := fun {o p w} h j hj => by
    cases o with
    | tab =>
      rcases List.mem_cons.1 hj with rfl | hj
      · rw [h.1]; exact (Array.getElem?_eq_some_iff.1 h.2.1).1
      · obtain ⟨q, hq, rfl⟩ := List.mem_map.1 hj
        exact (Array.getElem?_eq_some_iff.1 (h.2.2 q hq)).1
    | sym i => cases hj
/-- The start: the program's variables, one of which is known; so many values that are not known. -/
noncomputable def putSyms (G : Nat) : Nat → T (Ob Xo) → T (Ob Xo)
  | 0, t => t
  | k + 1, t => (putSyms G k t).put (Nat.add G k) (.x (.sym k))
noncomputable def h0 (G g k : Nat) : Hp Xo := ⟨putSyms G k ((T.full (nat_lit 16)).put g (.x .tab)), Nat.add G k⟩
def V0 (G k : Nat) (vals : Nat → Nat × Nat) : Vn := fun b => if b < G then some ⟨b, 0, 0, 0, 0⟩ else if b < G + k then some ⟨0, 0, 0, (vals (b - G)).1, (vals (b - G)).2⟩ else none
theorem putSyms_at {G b : Nat} {o : Ob Xo} : ∀ {k : Nat} {t : T (Ob Xo)}, (putSyms G k t).get b = some o → (∃ i, i < k ∧ b = G + i ∧ o = .x (.sym i)) ∨ t.get b = some o
  | 0, t, h => .inr h
  | k + 1, t, h => by
    rcases T.get_put (t := putSyms G k t) (k := Nat.add G k) (a := Ob.x (Xo.sym k)) h with ⟨e1, e2⟩ | ⟨_, e⟩
    · exact .inl ⟨k, Nat.lt_succ_self k, e1, e2⟩
    · rcases putSyms_at e with ⟨i, q1, q2, q3⟩ | q
      · exact .inl ⟨i, Nat.lt_succ_of_lt q1, q2, q3⟩
      · exact .inr q
theorem h0_at {G g k b : Nat} {o : Ob Xo} (h : (h0 G g k).t.get b = some o) : (∃ i, i < k ∧ b = G + i ∧ o = .x (.sym i)) ∨ (b = g ∧ o = .x .tab) := by
  rcases putSyms_at (t := (T.full (nat_lit 16)).put g (.x .tab)) h with q | q
  · exact .inl q
  · rcases T.get_put (t := T.full (nat_lit 16)) (k := g) (a := Ob.x Xo.tab) q with ⟨e1, e2⟩ | ⟨_, e⟩
    · exact .inr ⟨e1, e2⟩
    · rw [T.get_full] at e; cases e
theorem V0_glob {G k : Nat} {vals : Nat → Nat × Nat} {b : Nat} (h : b < G) : V0 G k vals b = some ⟨b, 0, 0, 0, 0⟩ := if_pos h
theorem V0_sym {G k : Nat} {vals : Nat → Nat × Nat} {i : Nat} (h : i < k) : V0 G k vals (G + i) = some ⟨0, 0, 0, (vals i).1, (vals i).2⟩ := by
  unfold V0
  rw [if_neg (by omega), if_pos (by omega), Nat.add_sub_cancel_left]
theorem sim0 {G g k : Nat} {w : World} {ob : Obj} {vals : Nat → Nat × Nat} {ks : List (Nat × Obj)} (hg : g < G) (hw : w.heap[g]? = some ob) (hks : ∀ q ∈ ks, w.heap[q.1]? = some q.2) : Sim (varX g ob vals ks) G (V0 G k vals) (h0 G g k) w := by
  refine ⟨fun b hb => ?_, fun b hb => V0_glob hb, fun b o h => ?_, fun b o p b' o' p' j h h' hp hp' hf hf' => ?_⟩
  · have hb : G + k ≤ b := hb
    unfold V0
    rw [if_neg (by omega), if_neg (by omega)]
  · rcases h0_at h with ⟨i, q1, rfl, rfl⟩ | ⟨rfl, rfl⟩
    · exact ⟨_, V0_sym q1, rfl, rfl⟩
    · exact ⟨_, V0_glob hg, rfl, hw, hks⟩
  · rcases h0_at h with ⟨i, q1, rfl, rfl⟩ | ⟨rfl, rfl⟩
    · cases hf
    · rcases h0_at h' with ⟨i, q1, rfl, rfl⟩ | ⟨rfl, rfl⟩
      · cases hf'
      · rfl
/-- What is behind a run from the start: all that was there is as it was. -/
theorem same0 {G g k : Nat} {w w' : World} {ob : Obj} {vals : Nat → Nat × Nat} {ks : List (Nat × Obj)} {V : Vn} {h : Hp Xo} (hg : g < G) (hw : w.heap[g]? = some ob) (hks : ∀ q ∈ ks, w.heap[q.1]? = some q.2) (s : Sim (varX g ob vals ks) G V h w') (x : Ext (varX g ob vals ks) (V0 G k vals) (h0 G g k) w V h w') (hx : h.t.get g = some (.x .tab)) :
    Kept (fun _ => False) w w' := by
  refine ⟨x.out.os, x.out.tape, x.out.output, x.size, fun j hj _ => ?_⟩
  obtain ⟨p0, _, _, qo, qk⟩ := s.ob _ _ hx
  by_cases e : j = g
  · subst e
    rw [qo, hw]
  · by_cases e' : ∃ q ∈ ks, q.1 = j
    · obtain ⟨q, hq, rfl⟩ := e'
      rw [qk q hq, hks q hq]
    refine (x.keep j hj ?_).1
    rintro ⟨b, o, p, h1, h2, h3⟩
    rcases h0_at h1 with ⟨i, q1, rfl, rfl⟩ | ⟨rfl, rfl⟩
    · cases h3
    · rw [V0_glob hg] at h2
      cases h2
      rcases List.mem_cons.1 h3 with h3 | h3
      · exact e h3
      · obtain ⟨q, hq, h3⟩ := List.mem_map.1 h3
        exact e' ⟨q, hq, h3⟩
/-- The value that is meant. -/
theorem sym_val {G g : Nat} {ob : Obj} {vals : Nat → Nat × Nat} {ks : List (Nat × Obj)} {V : Vn} {h : Hp Xo} {w : World} (s : Sim (varX g ob vals ks) G V h w) {b i : Nat} (hx : h.t.get b = some (.x (.sym i))) {v : Value} (hv : (Ce.X b).rel V v) : v = symV (vals i).1 (vals i).2 := by
  obtain ⟨p, hp, q1, q2⟩ := s.ob _ _ hx
  obtain ⟨p', hp', rfl⟩ := hv
  rw [hp] at hp'; cases hp'
  rw [q1, q2]
end Ev
end Go.Proofs.YtlkgdpdnhnakoaaGreatDoor
