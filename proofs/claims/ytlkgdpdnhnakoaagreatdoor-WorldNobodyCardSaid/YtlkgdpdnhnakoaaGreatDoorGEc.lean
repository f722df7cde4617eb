/- GEc: EvCl, EvMx. -/
import Derived.Test.YtlkgdpdnhnakoaaGreatDoorGEb
import Derived.Test.YtlkgdpdnhnakoaaGreatDoorShelf
namespace Go.Proofs.YtlkgdpdnhnakoaaGreatDoor
open Go.RowKit Go.Shelf
namespace Ev
/-- Are all cells known? -/
noncomputable def fullT (d : Nat) : T Ce → Bool := Nat.rec (motive := fun _ => T Ce → Bool) (fun _ => true) (fun _ ih t => match t with
  | .nd (some _) l r => match ih l with
    | true => ih r
    | false => false
  | _ => false) d
theorem fullT_at {d : Nat} : ∀ {t : T Ce}, fullT d t = true → ∀ {k : Nat}, k + 1 < 2 ^ d → ∃ x, t.get k = some x := by
  induction d with
  | zero => intro t _ k h; simp at h
  | succ d ih =>
    intro t q k h
    cases t with
    | e => cases q
    | nd v l r =>
      cases v with
      | none => cases q
      | some v =>
        have q : (match fullT d l with
          | true => fullT d r
          | false => false) = true := q
        split at q
        case h_2 => cases q
        rename_i hl
        cases k with
        | zero => exact ⟨v, T.get_zero _ _ _⟩
        | succ k =>
          rw [T.get_succ]
          have hk : k / 2 + 1 < 2 ^ d := by rw [Nat.pow_succ] at h; omega
          split
          · exact ih hl hk
          · exact ih q hk
theorem one_one {v : Value} (h : v.oneCell = true) : v.oneCell' = true := by cases v <;> first | rfl | cases h
/-- A clone of a slice of sectors: its cells are the same trie. -/
noncomputable def clsO (args : List AV) (h : Hp Xo) : Option (AV × Hp Xo) := match args with
  | [.V (.C (.L (some (b, 0)) n _))] => match h.t.get b, Nat.ble n (nat_lit 255), Nat.ble (nat_lit 1) n with
    | some (.cells t m _), true, true => match Nat.ble (Nat.mul n (nat_lit 256)) m, fullT (nat_lit 16) t with
      | true, true => some (.V (.C (.L (some (h.next, 0)) n (.e 0))), h.add (.cells t (Nat.mul n (nat_lit 256)) (some (nat_lit 256))))
      | _, _ => none
    | _, _, _ => none
  | _ => none
theorem secInfo : (Tryz.prog.info? 161).map (fun i => (i.zero, i.size, i.bytes)) = some (some (.agg (Array.replicate 256 (.int .u8 0))), 256, 256) := by kernel_rfl
theorem cls_ok : YOk 144 clsO := by
  intro ob vals ks hT args h h' z q V w xs s hr
  unfold clsO at q
  split at q
  case h_2 => cases q
  rename_i b n cp
  split at q
  case h_2 => cases q
  rename_i t m ext hg h1 h2
  split at q
  case h_2 => cases q
  rename_i h3 hfull
  injection q with q; injection q with q1 q2; subst q1; subst q2
  have h1 : n ≤ 255 := Nat.le_of_ble_eq_true h1
  have h2 : 1 ≤ n := Nat.le_of_ble_eq_true h2
  have h3 : n * 256 ≤ m := Nat.le_of_ble_eq_true h3
  obtain ⟨p, hp, c, ty, fz, hc, hfz, hcr⟩ := s.ob _ _ hg
  match xs, hr with
  | [v], ⟨hv, _⟩ =>
    have hv : (Ce.L (some (b, 0)) n cp).rel V v := hv
    obtain ⟨cap, rfl⟩ : ∃ cap, v = .slice (some ⟨p.bl, p.of, none⟩) n cap := by
      cases cp with
      | k k => obtain ⟨y, ⟨pl, q1, rfl⟩, e⟩ := hv; have := hp.symm.trans q1; cases this; exact ⟨k, e⟩
      | e d => obtain ⟨pl, q1, _, e⟩ := hv; have := hp.symm.trans q1; cases this; exact ⟨_, e⟩
    obtain ⟨i0, hi, hz0, hz1, hz2⟩ := info_parts secInfo
    obtain ⟨news, hnews⟩ : ∃ news, (c.toList.drop p.of).take (n * 256) = news := ⟨_, rfl⟩
    have hlen : news.length = n * 256 := by
      rw [← hnews, List.length_take, List.length_drop, Array.length_toList]
      have := hcr.2.1
      omega
    have hget : ∀ j, j < n * 256 → news[j]? = c[p.of + j]? := fun j hj => by
      rw [← hnews, List.getElem?_take, if_pos hj, List.getElem?_drop, Array.getElem?_toList]
    have hone : ∀ u ∈ news, u.oneCell' = true := by
      intro u hu
      obtain ⟨j, hj⟩ := List.getElem?_of_mem hu
      have hjl : j < n * 256 := by rw [← hlen]; exact (List.getElem?_eq_some_iff.1 hj).1
      obtain ⟨x, hx⟩ := fullT_at hfull (k := j) (by show j + 1 < 2 ^ 16; omega)
      obtain ⟨v, v1, v2⟩ := hcr.1 j x (by omega) hx
      rw [hget j hjl, v1] at hj
      cases hj
      exact one_one v2.one
    have := AnyE.slices_Clone Tryz.cloneA i0 (.agg (Array.replicate 256 (.int .u8 0))) 256 256 hi hz0 hz1 hz2 (by simp [Value.cells]) (by decide) (fun w => Tryz.sizeOf161 w) p.bl p.of n cap news w hlen (by unfold maxLen; omega) (by omega) (fun j u hu => by
      have hj : j < n * 256 := by rw [← hlen]; exact (List.getElem?_eq_some_iff.1 hu).1
      rw [cell_at hc, ← hget j hj]; exact hu) hone
    change Calls Tryz.prog 144 _ _ _ at this
    refine this.mono ?_
    rintro e w' ⟨v', rfl, ho, _, hb⟩
    have hk := Kept.of_below hb
    have hn0 : V h.next = none := s.new _ (Nat.le_refl _)
    obtain ⟨_, ho⟩ := ho
    rcases ho with ⟨_, h0⟩ | ⟨g, cap', cur, rfl, hgb, hblk, hnc, hm, hcs, htk⟩
    · omega
    have hle : n * 256 ≤ cap' * 256 := Nat.mul_le_mul_right _ hnc
    obtain ⟨s1, x1⟩ := Sim.addG (ob := .cells t (Nat.mul n (nat_lit 256)) (some (nat_lit 256))) (p := ⟨g, 0, cap', 0, 0⟩) s hgb rfl
      ⟨cur, _, (0, 0), hblk, .inl rfl, fun j x hj gx => by
        have hj : j < n * 256 := hj
        obtain ⟨v, v1, v2⟩ := hcr.1 j x (by omega) gx
        refine ⟨v, ?_, v2.mono (named_le hn0)⟩
        have e1 : cur[j]? = news[j]? := by rw [← htk, List.getElem?_take, if_pos hj, Array.getElem?_toList]
        show cur[0 + j]? = some v
        rw [Nat.zero_add, e1, hget j hj]; exact v1, by show 0 + n * 256 ≤ cur.size; omega, fun k' hk' => by cases hk'; show cur.size = 0 + cap' * 256; omega⟩
      (fun j hj => hk.block j hj (fun h => h)) hk.size ⟨hk.os, hk.tape, hk.output⟩
    exact ⟨_, rfl, _, ⟨_, named_self _ _ _, by show 0 + n ≤ cap'; omega, rfl⟩, s1, x1⟩
/-- A clone of a map of sectors. -/
noncomputable def clmO (args : List AV) (h : Hp Xo) : Option (AV × Hp Xo) := match args with
  | [.V (.C (.M (some r)))] => match h.t.get r with
    | some (.map es c) => some (.V (.C (.M (some h.next))), h.add (.map es c))
    | _ => none
  | _ => none
theorem clm_ok : YOk 145 clmO := by
  intro ob vals ks hT args h h' z q V w xs s hr
  unfold clmO at q
  split at q
  case h_2 => cases q
  rename_i r
  split at q
  case h_2 => cases q
  rename_i es c hg
  injection q with q; injection q with q1 q2; subst q1; subst q2
  obtain ⟨p, hp, ms, hms, hR⟩ := s.ob _ _ hg
  match xs, hr with
  | [v], ⟨hv, _⟩ =>
    have hv : (Ce.M (some r)).rel V v := hv
    obtain ⟨pl, q1, rfl⟩ := hv
    have := hp.symm.trans q1; cases this
    have := AnyW.maps_Clone Tryz.mcloneA p.bl ms.toArray c w hms
    change Calls Tryz.prog 145 _ _ _ at this
    refine this.mono ?_
    rintro e w' ⟨rfl, rfl⟩
    have hn0 : V h.next = none := s.new _ (Nat.le_refl _)
    obtain ⟨s1, x1⟩ := s.add (p := ⟨w.heap.size, 0, 0, 0, 0⟩) (ob := .map es c) (w' := w.alloc (.map ms.toArray c)) rfl ⟨ms, heap_alloc_new w _, hR.mono fun _ _ r => ⟨r.1.mono (named_le hn0), r.2.1.mono (named_le hn0), r.2.2⟩⟩ (fun j hj => Below.heap_alloc _ _ _ hj) (by simp)
    exact ⟨_, rfl, _, ⟨_, named_self _ _ _, rfl⟩, s1, x1⟩
end Ev
end Go.Proofs.YtlkgdpdnhnakoaaGreatDoor
namespace Go.Proofs.YtlkgdpdnhnakoaaGreatDoor
namespace Ev
/-- An object, written out: rows of cells at places, upon cells that are all alike or not known; a map. -/
inductive Lx
  | cells (base : Option Ce) (rows : List (Nat × List Ce)) (n : Nat) (ext : Option Nat)
  | map (es : List (Ce × A0 × Nat)) (clock : Nat)
noncomputable def rowsX (base : Option Ce) (l : List (Nat × List Ce)) : T Ce := List.rec (motive := fun _ => T Ce) (match base with
  | some x => T.all (nat_lit 20) x
  | none => T.full (nat_lit 16)) (fun p _ t => T.putL p.2 t p.1) l
noncomputable def Lx.ob : Lx → Ob Xo
  | .cells base rows n ext => .cells (rowsX base rows) n ext
  | .map es c => .map es c
/-- Is all that a trie has in another one? -/
noncomputable def subT (t : T Ce) : T Ce → Bool := T.rec (motive := fun _ => T Ce → Bool) (fun _ => true) (fun v _ _ il ir t' => match t' with
  | .e => false
  | .nd v' l' r' => match (match v, v' with
      | none, _ => true
      | some x, some y => decide (x = y)
      | some _, none => false), il l' with
    | true, true => ir r'
    | _, _ => false) t
theorem subT_at : ∀ {t t' : T Ce}, subT t t' = true → ∀ {k : Nat} {x : Ce}, t.get k = some x → t'.get k = some x := by
  intro t
  induction t with
  | e => intro t' _ k x g; rw [T.get_e] at g; cases g
  | nd v l r il ir =>
    intro t' q k x g
    cases t' with
    | e => cases q
    | nd v' l' r' =>
      have q : (match (match v, v' with
          | none, _ => true
          | some x, some y => decide (x = y)
          | some _, none => false), subT l l' with
        | true, true => subT r r'
        | _, _ => false) = true := q
      split at q
      case h_2 => cases q
      rename_i h1 h2
      cases k with
      | zero =>
        rw [T.get_zero] at g ⊢
        subst g
        cases v' with
        | none => cases h1
        | some y =>
          have h1 := of_decide_eq_true h1
          rw [h1]
      | succ k =>
        rw [T.get_succ] at g ⊢
        split at g
        · rename_i hk; rw [if_pos hk]; exact il h2 g
        · rename_i hk; rw [if_neg hk]; exact ir q g
noncomputable def subX (x : Lx) (o : Option (Ob Xo)) : Bool := match x, o with
  | .cells base rows n ext, some (.cells t m e) => match Nat.ble n m, decide (ext = e) with
    | true, true => match base with
      | some y => subT (rowsX (some y) rows) t
      | none => subRows t rows
    | _, _ => false
  | .map es c, some (.map es' c') => match decide (es = es'), Nat.beq c c' with
    | true, true => true
    | _, _ => false
  | _, _ => false
theorem subX_ok {E : Xs Xo} {V : Vn} {w : World} {p : Pl} {x : Lx} {ob : Ob Xo} (q : subX x (some ob) = true) (h : ObR E V w p ob) : ObR E V w p x.ob ∧ foot E x.ob p = foot E ob p := by
  unfold subX at q
  split at q
  case h_1 _ _ base rows n ext t m e heq =>
    injection heq with heq; subst heq
    split at q
    case h_2 => cases q
    rename_i h1 h2
    have h1 := Nat.le_of_ble_eq_true h1
    have h2 := of_decide_eq_true h2
    subst h2
    obtain ⟨c, ty, fz, a1, a2, a3, a4, a5⟩ := h
    have key : ∀ {i : Nat} {y : Ce}, (rowsX base rows).get i = some y → t.get i = some y := by
      intro i y g
      split at q
      · exact subT_at q g
      · exact rowsT_at q g
    exact ⟨⟨c, ty, fz, a1, a2, fun i y hi g => a3 i y (Nat.lt_of_lt_of_le hi h1) (key g), by omega, a5⟩, rfl⟩
  case h_2 es c _ es' c' heq =>
    injection heq with heq; subst heq
    split at q
    case h_2 => cases q
    rename_i h1 h2
    have h1 := of_decide_eq_true h1
    have h2 := Nat.eq_of_beq_eq_true h2
    subst h1; subst h2
    exact ⟨h, rfl⟩
  case h_3 => cases q
noncomputable def subJ (l : List (Nat × Lx)) (h : Hp Xo) : Bool := List.rec (motive := fun _ => Bool) (match h.t.get tabG with
  | some (.x .tab) => true
  | _ => false) (fun p _ ih => match subX p.2 (h.t.get p.1) with
  | true => ih
  | false => false) l
noncomputable def putX (t : T (Ob Xo)) (l : List (Nat × Lx)) : T (Ob Xo) := List.rec (motive := fun _ => T (Ob Xo)) t (fun p _ t => t.put p.1 p.2.ob) l
noncomputable def dropX (t : T (Ob Xo)) (l : List (Nat × Lx)) : T (Ob Xo) := List.rec (motive := fun _ => T (Ob Xo)) t (fun p _ t => t.drop p.1) l
noncomputable def litJ (l : List (Nat × Lx)) (n : Nat) : Hp Xo := ⟨putX (h0 numG tabG 0).t l, n⟩
noncomputable def mixJ (h : Hp Xo) (l l' : List (Nat × Lx)) (n : Nat) : Hp Xo := ⟨putX (dropX h.t l) l', n⟩
theorem putX_at {b : Nat} {o : Ob Xo} {t : T (Ob Xo)} : ∀ {l : List (Nat × Lx)}, (putX t l).get b = some o → (∃ x, (b, x) ∈ l ∧ o = x.ob) ∨ t.get b = some o
  | [], g => .inr g
  | p :: l, g => by
    have g : ((putX t l).put p.1 p.2.ob).get b = some o := g
    rcases T.get_put g with ⟨e1, e2⟩ | ⟨_, g'⟩
    · exact .inl ⟨p.2, by rw [e1]; exact List.mem_cons_self .., e2⟩
    · rcases putX_at g' with ⟨x, h1, h2⟩ | q
      · exact .inl ⟨x, List.mem_cons_of_mem _ h1, h2⟩
      · exact .inr q
theorem dropX_at {b : Nat} {o : Ob Xo} {t : T (Ob Xo)} : ∀ {l : List (Nat × Lx)}, (dropX t l).get b = some o → t.get b = some o ∧ ∀ p ∈ l, b ≠ p.1
  | [], g => ⟨g, fun p hp => by cases hp⟩
  | p :: l, g => by
    have g : ((dropX t l).drop p.1).get b = some o := g
    obtain ⟨h1, h2⟩ := T.get_drop g
    obtain ⟨h3, h4⟩ := dropX_at h2
    refine ⟨h3, fun p' hp' => ?_⟩
    rcases List.mem_cons.1 hp' with rfl | hp'
    · exact h1
    · exact h4 p' hp'
theorem subJ_at {h : Hp Xo} : ∀ {l : List (Nat × Lx)}, subJ l h = true → h.t.get tabG = some (.x .tab) ∧ ∀ p ∈ l, subX p.2 (h.t.get p.1) = true
  | [], q => by
    have q : (match h.t.get tabG with
      | some (.x .tab) => true
      | _ => false) = true := q
    split at q
    · rename_i hx; exact ⟨hx, fun p hp => by cases hp⟩
    · cases q
  | p :: l, q => by
    have q : (match subX p.2 (h.t.get p.1) with
      | true => subJ l h
      | false => false) = true := q
    split at q
    case h_2 => cases q
    rename_i h1
    obtain ⟨h2, h3⟩ := subJ_at q
    refine ⟨h2, fun p' hp' => ?_⟩
    rcases List.mem_cons.1 hp' with rfl | hp'
    · exact h1
    · exact h3 p' hp'
/-- An object that is written out is there. -/
theorem lit_there {E : Xs Xo} {G : Nat} {V : Vn} {h : Hp Xo} {w : World} (s : Sim E G V h w) {b : Nat} {x : Lx} (h2 : subX x (h.t.get b) = true) : ∃ ob', h.t.get b = some ob' ∧ ∃ p, V b = some p ∧ ObR E V w p x.ob ∧ foot E x.ob p = foot E ob' p := by
  cases hb : h.t.get b with
  | none =>
    rw [hb] at h2
    unfold subX at h2
    split at h2 <;> first | cases h2 | (rename_i e; cases e)
  | some ob' =>
    rw [hb] at h2
    obtain ⟨p, q1, q2⟩ := s.ob b ob' hb
    obtain ⟨q3, q4⟩ := subX_ok h2 q2
    exact ⟨ob', rfl, p, q1, q3, q4⟩
theorem litJ_sim {E : Xs Xo} {G : Nat} {V : Vn} {h : Hp Xo} {w : World} {l : List (Nat × Lx)} {n : Nat} (s : Sim E G V h w) (q : subJ l h = true) (hn : h.next ≤ n) :
    Sim E G V (litJ l n) w ∧ (∀ b ob, (litJ l n).t.get b = some ob → (b = tabG ∨ ∃ p ∈ l, b = p.1) ∧ ∃ ob', h.t.get b = some ob' ∧ ∃ p, V b = some p ∧ ObR E V w p ob ∧ foot E ob p = foot E ob' p) := by
  obtain ⟨hx, hl⟩ := subJ_at q
  have key : ∀ b ob, (litJ l n).t.get b = some ob → (b = tabG ∨ ∃ p ∈ l, b = p.1) ∧ ∃ ob', h.t.get b = some ob' ∧ ∃ p, V b = some p ∧ ObR E V w p ob ∧ foot E ob p = foot E ob' p := by
    intro b ob g
    rcases putX_at g with ⟨x, h1, rfl⟩ | g
    · exact ⟨.inr ⟨_, h1, rfl⟩, lit_there s (hl _ h1)⟩
    · rcases h0_at (show (h0 numG tabG 0).t.get b = some ob from g) with ⟨i, q, _⟩ | ⟨rfl, rfl⟩
      · omega
      · obtain ⟨p, q1, q2⟩ := s.ob _ _ hx
        exact ⟨.inl rfl, _, hx, p, q1, q2, rfl⟩
  refine ⟨⟨fun b hb => s.new b (Nat.le_trans hn hb), s.glob, fun b ob g => ?_, fun b ob p b' ob' p' j g g' e e' f f' => ?_⟩, key⟩
  · obtain ⟨_, _, _, p, q1, q2, _⟩ := key b ob g
    exact ⟨p, q1, q2⟩
  · obtain ⟨_, o1, a1, p1, a2, _, a4⟩ := key b ob g
    obtain ⟨_, o2, b1, p2, b2, _, b4⟩ := key b' ob' g'
    rw [e] at a2; cases a2
    rw [e'] at b2; cases b2
    exact s.apart b o1 p b' o2 p' j a1 b1 e e' (a4 ▸ f) (b4 ▸ f')
/-- Behind a run from what is written out of a heap: the rest of the heap is as it was. -/
theorem mixJ_sim {E : Xs Xo} {G : Nat} {V V' : Vn} {h h2 : Hp Xo} {w w' : World} {l l' : List (Nat × Lx)} {n n' : Nat} (s : Sim E G V h w) (q : subJ l h = true) (hn : h.next ≤ n) (s' : Sim E G V' h2 w') (x' : Ext E V (litJ l n) w V' h2 w') (q' : subJ l' h2 = true) (hn' : h2.next ≤ n') :
    Sim E G V' (mixJ h l l' n') w' ∧ Ext E V h w V' (mixJ h l l' n') w' := by
  obtain ⟨_, key⟩ := litJ_sim s q hn
  obtain ⟨hx2, hl2⟩ := subJ_at q'
  have hnn : n ≤ h2.next := x'.next
  -- objects that stay
  have stay : ∀ b ob p, h.t.get b = some ob → V b = some p → b ≠ tabG → (∀ q ∈ l, b ≠ q.1) → ∀ j ∈ foot E ob p, ¬ Live E V (litJ l n) j := by
    intro b ob p g e hb hl j hj ⟨b2, ob2, p2, g2, e2, hj2⟩
    obtain ⟨hor, o3, a1, p3, a2, _, a4⟩ := key b2 ob2 g2
    rw [e2] at a2; cases a2
    have := s.apart b ob p b2 o3 p2 j g a1 e e2 hj (a4 ▸ hj2)
    subst this
    rcases hor with h | ⟨q, hq, h⟩
    · exact hb h
    · exact hl q hq h
  have at_mix : ∀ b ob, (mixJ h l l' n').t.get b = some ob → (∃ x, (b, x) ∈ l' ∧ ob = x.ob) ∨ (h.t.get b = some ob ∧ ∀ q ∈ l, b ≠ q.1) := by
    intro b ob g
    rcases putX_at g with h1 | g
    · exact .inl h1
    · exact .inr (dropX_at g)
  -- each object, in the inner heap or as it was
  have each : ∀ b ob, (mixJ h l l' n').t.get b = some ob → (∃ ob', h2.t.get b = some ob' ∧ ∃ p, V' b = some p ∧ ObR E V' w' p ob ∧ foot E ob p = foot E ob' p) ∨ (b ≠ tabG ∧ h.t.get b = some ob ∧ ∃ p, V b = some p ∧ V' b = some p ∧ ObR E V' w' p ob ∧ ∀ j ∈ foot E ob p, j < w.heap.size ∧ ¬ Live E V' h2 j) := by
    intro b ob g
    rcases at_mix b ob g with ⟨x, h1, rfl⟩ | ⟨h1, h3⟩
    · exact .inl (lit_there s' (hl2 _ h1))
    · by_cases hb : b = tabG
      · subst hb
        obtain ⟨p, q1, q2⟩ := s'.ob _ _ hx2
        obtain ⟨hx, _⟩ := subJ_at q
        rw [hx] at h1; cases h1
        exact .inl ⟨_, hx2, p, q1, q2, rfl⟩
      · obtain ⟨p, q1, q2⟩ := s.ob b ob h1
        have hs := stay b ob p h1 q1 hb h3
        exact .inr ⟨hb, h1, p, q1, x'.le _ _ q1, q2.keep x'.le (fun j hj => (x'.keep j (q2.lt j hj) (hs j hj)).1) x'.size, fun j hj => ⟨q2.lt j hj, (x'.keep j (q2.lt j hj) (hs j hj)).2⟩⟩
  refine ⟨⟨fun b hb => s'.new b (Nat.le_trans hn' hb), s'.glob, fun b ob g => ?_, fun b ob p b' ob' p' j g g' e e' f f' => ?_⟩, ⟨x'.le, x'.size, Nat.le_trans hn (Nat.le_trans hnn hn'), fun j hj hnl => ?_, fun b hb => x'.old b (Nat.lt_of_lt_of_le hb hn), x'.out⟩⟩
  · rcases each b ob g with ⟨_, _, p, q1, q2, _⟩ | ⟨_, _, p, _, q1, q2, _⟩ <;> exact ⟨p, q1, q2⟩
  · rcases each b ob g with ⟨o1, a1, p1, a2, _, a4⟩ | ⟨_, a1, p1, a2, a3, _, a5⟩
    · rw [e] at a2; cases a2
      rcases each b' ob' g' with ⟨o2, b1, p2, b2, _, b4⟩ | ⟨_, b1, p2, b2, b3, _, b5⟩
      · rw [e'] at b2; cases b2
        exact s'.apart b o1 p b' o2 p' j a1 b1 e e' (a4 ▸ f) (b4 ▸ f')
      · rw [e'] at b3; cases b3
        exact absurd ⟨b, o1, p, a1, e, a4 ▸ f⟩ (b5 j f').2
    · rw [e] at a3; cases a3
      rcases each b' ob' g' with ⟨o2, b1, p2, b2, _, b4⟩ | ⟨_, b1, p2, b2, b3, _, b5⟩
      · rw [e'] at b2; cases b2
        exact absurd ⟨b', o2, p', b1, e', b4 ▸ f'⟩ (a5 j f).2
      · rw [e'] at b3; cases b3
        exact s.apart b ob p b' ob' p' j a1 b1 a2 b2 f f'
  · have hnl2 : ¬ Live E V (litJ l n) j := by
      rintro ⟨b, ob, p, g, e, f⟩
      obtain ⟨_, o1, a1, p1, a2, _, a4⟩ := key b ob g
      rw [e] at a2; cases a2
      exact hnl ⟨b, o1, p, a1, e, a4 ▸ f⟩
    obtain ⟨k1, k2⟩ := x'.keep j hj hnl2
    refine ⟨k1, fun ⟨b, ob, p, g, e, f⟩ => ?_⟩
    rcases each b ob g with ⟨o1, a1, p1, a2, _, a4⟩ | ⟨_, a1, p1, a2, a3, _, _⟩
    · rw [e] at a2; cases a2
      exact k2 ⟨b, o1, p, a1, e, a4 ▸ f⟩
    · rw [e] at a3; cases a3
      exact hnl ⟨b, ob, p, a1, a2, f⟩
/-- A call that is run from what is written out of a heap, and whose memory goes back into the heap, as it is written out. -/
noncomputable def mxO (l : List (Nat × Lx)) (n : Nat) (args : List AV) (z : AV) (l' : List (Nat × Lx)) (n' : Nat) (ar : List AV) (h : Hp Xo) : Option (AV × Hp Xo) := match decide (ar = args), Nat.ble h.next n, subJ l h with
  | true, true, true => some (z, mixJ h l l' n')
  | _, _, _ => none
noncomputable def mxRun (z : AV) (l' : List (Nat × Lx)) (n' : Nat) (r : Option (AV × Hp Xo)) : Bool := match r with
  | some (y, h) => match decide (y = z), Nat.ble h.next n', subJ l' h with
    | true, true, true => true
    | _, _, _ => false
  | none => false
theorem mx_ok {vals : Nat → Nat × Nat} {ent : List EnyF} (he : ∀ e ∈ ent, YOkV vals e.f e.g) {f : FuncId} {l l' : List (Nat × Lx)} {n n' k : Nat} {args : List AV} {z : AV} (q : mxRun z l' n' ((clK (iyV ent) k).call f args (litJ l n)) = true) : YOkV vals f (mxO l n args z l' n') := by
  intro ob hT ar h h' z' q' V w xs s hr
  unfold mxO at q'
  split at q'
  case h_2 => cases q'
  rename_i h1 h2 h3
  have h1 := of_decide_eq_true h1
  subst h1
  injection q' with q'; injection q' with q1 q2; subst q1; subst q2
  obtain ⟨s1, -⟩ := litJ_sim s h3 (Nat.le_of_ble_eq_true h2)
  rw [clK_eq] at q
  unfold mxRun at q
  split at q
  case h_2 => cases q
  rename_i y h2' hq
  split at q
  case h_2 => cases q
  rename_i a1 a2 a3
  have a1 := of_decide_eq_true a1
  subst a1
  have hA := tab_ok noGo
  have ok := clO_ok (N := nat_lit 100000) hA (ixP_ok (ob := ob) (vals := vals) (ks := [])) (iyV_ok hT he) izP_ok (fun C hC => drawO_ok hA ixP_ok hC (by kernel_rfl)) k
  refine (ok.call hq s1 hr).mono ?_
  rintro e w' ⟨u, rfl, V', hz, s', x'⟩
  obtain ⟨s2, x2⟩ := mixJ_sim s h3 (Nat.le_of_ble_eq_true h2) s' x' a3 (Nat.le_of_ble_eq_true a2)
  exact ⟨u, rfl, V', hz, s2, x2⟩
end Ev
end Go.Proofs.YtlkgdpdnhnakoaaGreatDoor
