/- EvLt: a part of a heap, written out: a run may go on from it. -/
import Derived.Test.YtlkgdpdnhnakoaaGreatDoorEvPs
namespace Go.Proofs.YtlkgdpdnhnakoaaGreatDoor
namespace Ev

/-- An object, written out: rows of cells at places; a map. -/
inductive Lt
  | cells (rows : List (Nat × List Ce)) (n : Nat) (ext : Option Nat)
  | map (es : List (Ce × A0 × Nat)) (clock : Nat)
noncomputable def rowsT (l : List (Nat × List Ce)) : T Ce := List.rec (motive := fun _ => T Ce) (T.full (nat_lit 16)) (fun p _ t => T.putL p.2 t p.1) l
noncomputable def Lt.ob : Lt → Ob Xo
  | .cells rows n ext => .cells (rowsT rows) n ext
  | .map es c => .map es c
noncomputable def subRows (t : T Ce) (l : List (Nat × List Ce)) : Bool := List.rec (motive := fun _ => Bool) true (fun p _ ih => match t.getL p.1 p.2.length with
  | some l' => match decide (l' = p.2) with
    | true => ih
    | false => false
  | none => false) l
noncomputable def subO (x : Lt) (o : Option (Ob Xo)) : Bool := match x, o with
  | .cells rows n ext, some (.cells t m e) => match Nat.ble n m, decide (ext = e) with
    | true, true => subRows t rows
    | _, _ => false
  | .map es c, some (.map es' c') => match decide (es = es'), Nat.beq c c' with
    | true, true => true
    | _, _ => false
  | _, _ => false
noncomputable def subH (l : List (Nat × Lt)) (h : Hp Xo) : Bool := List.rec (motive := fun _ => Bool) (match h.t.get tabG with
  | some (.x .tab) => true
  | _ => false) (fun p _ ih => match subO p.2 (h.t.get p.1) with
  | true => ih
  | false => false) l
noncomputable def litT (l : List (Nat × Lt)) : T (Ob Xo) := List.rec (motive := fun _ => T (Ob Xo)) (h0 numG tabG 0).t (fun p _ t => t.put p.1 p.2.ob) l
noncomputable def litH (l : List (Nat × Lt)) (n : Nat) : Hp Xo := ⟨litT l, n⟩

theorem rowsT_at {t : T Ce} : ∀ {l : List (Nat × List Ce)}, subRows t l = true → ∀ {i : Nat} {x : Ce}, (rowsT l).get i = some x → t.get i = some x
  | [], _, i, x, g => by
    have g : (T.full (nat_lit 16) : T Ce).get i = some x := g
    rw [T.get_full] at g; cases g
  | p :: l, q, i, x, g => by
    have q : (match t.getL p.1 p.2.length with
      | some l' => match decide (l' = p.2) with
        | true => subRows t l
        | false => false
      | none => false) = true := q
    split at q
    case h_2 => cases q
    rename_i l' hl'
    split at q
    case h_2 => cases q
    rename_i hd
    have hd := of_decide_eq_true hd
    subst hd
    have g : (T.putL p.2 (rowsT l) p.1).get i = some x := g
    rcases T.get_putL g with ⟨g1, g2⟩ | ⟨_, g2⟩
    · have h1 := (T.getL_spec hl').2 (i - p.1) (List.getElem?_eq_some_iff.1 g2).1
      rw [show p.1 + (i - p.1) = i by omega] at h1
      rw [h1]; exact g2
    · exact rowsT_at q g2
theorem subO_ok {E : Xs Xo} {V : Vn} {w : World} {p : Pl} {x : Lt} {ob : Ob Xo} (q : subO x (some ob) = true) (h : ObR E V w p ob) : ObR E V w p x.ob ∧ foot E x.ob p = foot E ob p := by
  unfold subO at q
  split at q
  case h_1 rows n ext _ t m e heq =>
    injection heq with heq; subst heq
    split at q
    case h_2 => cases q
    rename_i h1 h2
    have h1 := Nat.le_of_ble_eq_true h1
    have h2 := of_decide_eq_true h2
    subst h2
    obtain ⟨c, ty, fz, a1, a2, a3, a4, a5⟩ := h
    exact ⟨⟨c, ty, fz, a1, a2, fun i y hi g => a3 i y (Nat.lt_of_lt_of_le hi h1) (rowsT_at q g), by omega, a5⟩, rfl⟩
  case h_2 es c _ es' c' heq =>
    injection heq with heq; subst heq
    split at q
    case h_2 => cases q
    rename_i h1 h2
    have h1 := of_decide_eq_true h1
    have h2 := Nat.eq_of_beq_eq_true h2
    subst h1; subst h2
    exact ⟨h, rfl⟩
  case h_3 => cases q
theorem litT_at {b : Nat} {o : Ob Xo} : ∀ {l : List (Nat × Lt)}, (litT l).get b = some o → (∃ x, (b, x) ∈ l ∧ o = x.ob) ∨ (b = tabG ∧ o = .x .tab)
  | [], g => by
    rcases h0_at (show (h0 numG tabG 0).t.get b = some o from g) with ⟨i, q, _⟩ | q
    · omega
    · exact .inr q
  | p :: l, g => by
    have g : ((litT l).put p.1 p.2.ob).get b = some o := g
    rcases T.get_put g with ⟨e1, e2⟩ | ⟨_, g'⟩
    · exact .inl ⟨p.2, by rw [e1]; exact List.mem_cons_self .., e2⟩
    · rcases litT_at g' with ⟨x, h1, h2⟩ | q
      · exact .inl ⟨x, List.mem_cons_of_mem _ h1, h2⟩
      · exact .inr q
theorem subH_at {h : Hp Xo} : ∀ {l : List (Nat × Lt)}, subH l h = true → h.t.get tabG = some (.x .tab) ∧ ∀ p ∈ l, subO p.2 (h.t.get p.1) = true
  | [], q => by
    have q : (match h.t.get tabG with
      | some (.x .tab) => true
      | _ => false) = true := q
    split at q
    · rename_i hx; exact ⟨hx, fun p hp => by cases hp⟩
    · cases q
  | p :: l, q => by
    have q : (match subO p.2 (h.t.get p.1) with
      | true => subH l h
      | false => false) = true := q
    split at q
    case h_2 => cases q
    rename_i h1
    obtain ⟨h2, h3⟩ := subH_at q
    refine ⟨h2, fun p' hp' => ?_⟩
    rcases List.mem_cons.1 hp' with rfl | hp'
    · exact h1
    · exact h3 p' hp'
/-- What is written out of a heap is there. -/
theorem litSim {E : Xs Xo} {G : Nat} {V : Vn} {h : Hp Xo} {w : World} {l : List (Nat × Lt)} {n : Nat} (s : Sim E G V h w) (q : subH l h = true) (hn : h.next ≤ n) : Sim E G V (litH l n) w ∧ Ext E V h w V (litH l n) w := by
  obtain ⟨hx, hl⟩ := subH_at q
  have key : ∀ b ob, (litH l n).t.get b = some ob → ∃ ob', h.t.get b = some ob' ∧ ∃ p, V b = some p ∧ ObR E V w p ob ∧ foot E ob p = foot E ob' p := by
    intro b ob g
    rcases litT_at g with ⟨x, h1, rfl⟩ | ⟨rfl, rfl⟩
    · have h2 := hl _ h1
      cases hb : h.t.get b with
      | none =>
        rw [show h.t.get (b, x).1 = none from hb] at h2
        unfold subO at h2
        split at h2 <;> first | cases h2 | (rename_i e; cases e)
      | some ob' =>
        rw [show h.t.get (b, x).1 = some ob' from hb] at h2
        obtain ⟨p, q1, q2⟩ := s.ob b ob' hb
        obtain ⟨q3, q4⟩ := subO_ok h2 q2
        exact ⟨ob', rfl, p, q1, q3, q4⟩
    · obtain ⟨p, q1, q2⟩ := s.ob _ _ hx
      exact ⟨_, hx, p, q1, q2, rfl⟩
  refine ⟨⟨fun b hb => s.new b (Nat.le_trans hn hb), s.glob, fun b ob g => ?_, fun b ob p b' ob' p' j g g' e e' f f' => ?_⟩, ⟨.refl V, Nat.le_refl _, hn, fun j _ hnl => ⟨rfl, fun lv => ?_⟩, fun _ _ => rfl, ⟨rfl, rfl, rfl⟩⟩⟩
  · obtain ⟨_, _, p, q1, q2, _⟩ := key b ob g
    exact ⟨p, q1, q2⟩
  · obtain ⟨o1, a1, p1, a2, _, a4⟩ := key b ob g
    obtain ⟨o2, b1, p2, b2, _, b4⟩ := key b' ob' g'
    rw [e] at a2; cases a2
    rw [e'] at b2; cases b2
    exact s.apart b o1 p b' o2 p' j a1 b1 e e' (a4 ▸ f) (b4 ▸ f')
  · obtain ⟨b, ob, p, g, e, f⟩ := lv
    obtain ⟨o1, a1, p1, a2, _, a4⟩ := key b ob g
    rw [e] at a2; cases a2
    exact hnl ⟨b, o1, p, a1, e, a4 ▸ f⟩
/-- A call that is run from what is written out of a heap, and goes on from what is written out of what is then there. -/
noncomputable def ltO (l : List (Nat × Lt)) (n : Nat) (args : List AV) (z : AV) (l' : List (Nat × Lt)) (n' : Nat) (ar : List AV) (h : Hp Xo) : Option (AV × Hp Xo) := match decide (ar = args), Nat.ble h.next n, subH l h with
  | true, true, true => some (z, litH l' n')
  | _, _, _ => none
noncomputable def ltRun (z : AV) (l' : List (Nat × Lt)) (n' : Nat) (r : Option (AV × Hp Xo)) : Bool := match r with
  | some (y, h) => match decide (y = z), Nat.ble h.next n', subH l' h with
    | true, true, true => true
    | _, _, _ => false
  | none => false
theorem lt_ok {vals : Nat → Nat × Nat} {ent : List EnyF} (he : ∀ e ∈ ent, YOkV vals e.f e.g) {f : FuncId} {l l' : List (Nat × Lt)} {n n' k : Nat} {args : List AV} {z : AV} (q : ltRun z l' n' ((clK (iyV ent) k).call f args (litH l n)) = true) : YOkV vals f (ltO l n args z l' n') := by
  intro ob hT ar h h' z' q' V w xs s hr
  unfold ltO at q'
  split at q'
  case h_2 => cases q'
  rename_i h1 h2 h3
  have h1 := of_decide_eq_true h1
  subst h1
  injection q' with q'; injection q' with q1 q2; subst q1; subst q2
  obtain ⟨s1, x1⟩ := litSim s h3 (Nat.le_of_ble_eq_true h2)
  rw [clK_eq] at q
  unfold ltRun at q
  split at q
  case h_2 => cases q
  rename_i y h2' hq
  split at q
  case h_2 => cases q
  rename_i a1 a2 a3
  have a1 := of_decide_eq_true a1
  subst a1
  have hA := tab_ok noGo
  have ok := clO_ok (N := nat_lit 100000) hA (ixP_ok (ob := ob) (vals := vals) (ks := [])) (iyV_ok hT he) izP_ok (fun C hC => drawO_ok hA ixP_ok hC (by kernel_rfl)) k
  refine (ok.call hq s1 hr).mono ?_
  rintro e w' ⟨u, rfl, V', hz, s', x'⟩
  obtain ⟨s2, x2⟩ := litSim s' a3 (Nat.le_of_ble_eq_true a2)
  exact ⟨u, rfl, V', hz, s2, x1.trans (x'.trans x2)⟩
end Ev
end Go.Proofs.YtlkgdpdnhnakoaaGreatDoor
