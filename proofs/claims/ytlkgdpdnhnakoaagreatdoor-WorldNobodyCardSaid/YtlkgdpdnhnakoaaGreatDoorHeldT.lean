/- A region that draws its order, whose loads are taken first, and whose last store goes into what it loads; no program in sight. -/
import Derived.Deep.RegionHeld3
import Derived.Lib.Hide
namespace Go.Proofs.YtlkgdpdnhnakoaaGreatDoor

section
variable {P : Program} {md : Region.Mode} {ops : Array Oper} {Q : Exit → Act → World → Prop} {S : World → Prop} {s : Nat}
/-- Whatever order is picked; S holds behind each operation, till number s has come up. -/
def wpT (P : Program) (md : Region.Mode) (ops : Array Oper) (Q : Exit → Act → World → Prop) (S : World → Prop) (s : Nat) : Nat → Array Bool → Act → World → Prop
  | 0, l, a, w => Region.ready md ops l = [] ∧ Q .normal a w
  | f + 1, l, a, w => (Region.ready md ops l = [] → Q .normal a w) ∧ ∀ i ∈ Region.ready md ops l, wpOp P ops Q i (fun a' w' => (S w' ∨ (l.setIfInBounds i true).getD s false = true) ∧ wpT P md ops Q S s f (l.setIfInBounds i true) a' w') a w
theorem wpAny_of_T : ∀ (f : Nat) (l : Array Bool) (a : Act) (w : World), wpT P md ops Q S s f l a w → wpAny P md ops Q f l a w
  | 0, _, _, _, h => h
  | f + 1, _, _, _, h => ⟨h.1, fun i hi => wpOp_mono (fun a' w' q => wpAny_of_T f _ a' w' q.2) (h.2 i hi)⟩
/-- What came up waited for nothing that has not come up. -/
def DownL (md : Region.Mode) (ops : Array Oper) (l : Array Bool) : Prop := ∀ (j : Nat) (o : Oper), ops[j]? = some o → l.getD j false = true → ∀ e ∈ o.after, Region.binds md e = true → l.getD e.on false = true
theorem DownL.next {l : Array Bool} (h : DownL md ops l) {j : Nat} (hj : j ∈ Region.ready md ops l) : DownL md ops (l.setIfInBounds j true) := by
  intro k o ho hk e he hb
  refine getD_set_true ?_
  by_cases q : k = j
  · subst q
    obtain ⟨_, o', ho', hall⟩ := mem_ready.1 hj
    rw [ho] at ho'
    cases ho'
    exact hall e he hb
  · rw [getD_set_ne false (fun z => q z.symm)] at hk
    exact h k o ho hk e he hb
theorem DownL.start (n : Nat) : DownL md ops (Array.replicate n false) := by
  intro j o _ hj
  simp only [Array.getD_eq_getD_getElem?, Array.getElem?_replicate] at hj
  split at hj <;> cases hj
/-- Does j wait for i, at last? -/
def ancL (md : Region.Mode) (ops : Array Oper) : Nat → Nat → Nat → Bool
  | 0, _, _ => false
  | f + 1, i, j => ((ops[j]?).map fun o => o.after.toList.any fun e => Region.binds md e && (e.on == i || ancL md ops f i e.on)).getD false
theorem anc_listed {l : Array Bool} (h : DownL md ops l) {i : Nat} : ∀ (f j : Nat), (∀ o, ops[j]? = some o → ∀ e ∈ o.after, Region.binds md e = true → l.getD e.on false = true) → ancL md ops f i j = true → l.getD i false = true
  | 0, _, _, q => by cases q
  | f + 1, j, hj, q => by
    simp only [ancL] at q
    cases ho : ops[j]? with
    | none => rw [ho] at q; cases q
    | some o =>
      rw [ho] at q
      simp only [Option.map_some, Option.getD_some, List.any_eq_true, Bool.and_eq_true, Bool.or_eq_true, beq_iff_eq] at q
      obtain ⟨e, he, hb, hq⟩ := q
      have hl := hj o ho e (by simpa using he) hb
      rcases hq with rfl | hq
      · exact hl
      · exact anc_listed h f e.on (fun o' ho' => h e.on o' ho' hl) hq
theorem unlisted {l : Array Bool} {i : Nat} (h : l.getD i true = false) (q : l.getD i false = true) : False := by
  rcases Nat.lt_or_ge i l.size with z | z
  · simp [z] at h q; rw [h] at q; cases q
  · simp [Array.getElem?_eq_none z] at q
theorem set_listed {l : Array Bool} {i : Nat} (h : l.getD i true = false) : (l.setIfInBounds i true).getD i false = true := by
  rcases Nat.lt_or_ge i l.size with z | z
  · simp [z]
  · simp [Array.getElem?_eq_none z] at h
/-- Number i may be taken first: S tells what it yields, and s waits for it; or it yields so in whatever world. -/
theorem wpT_first {i : Nat} {oi : Oper} {v : Value} {S' : World → Prop} (N : Nat) (his : i ≠ s) (hi : ops[i]? = some oi) (hsel : ∀ (j : Nat) (o : Oper) cs b, ops[j]? = some o → o.op ≠ .select cs b)
    (hQ : ∀ c a w, Q (.panic c) (a.put oi.dst v) w → Q (.panic c) a w) (hT : (ancL md ops N i s = true ∧ ∀ w, S w → S' w) ∨ ∀ w, S' w) :
    ∀ (f : Nat) (l : Array Bool) (a : Act) (w : World), DownL md ops l →
      (∀ j oj, ops[j]? = some oj → j ≠ i → l.getD j true = false → (∀ e ∈ oj.after, Region.binds md e = true → e.on ≠ i) → oi.apart ops oj = true) →
      i ∈ Region.ready md ops l → YieldsIf P ops S' oi v a → S' w → (S w ∨ l.getD s false = true) →
      wpT P md ops Q S s f (l.setIfInBounds i true) (a.put oi.dst v) w → wpT P md ops Q S s (f + 1) l a w := by
  have keep : ∀ (l : Array Bool) (w : World), S w ∨ l.getD s false = true → S w ∨ (l.setIfInBounds i true).getD s false = true := fun l w h => h.imp_right (fun q => by rw [getD_set_ne false his]; exact q)
  intro f
  induction f with
  | zero =>
    intro l a w _ _ hr hy hS' hS H
    refine ⟨fun q => (by rw [q] at hr; cases hr), fun j hj => ?_⟩
    by_cases hji : j = i
    · subst hji; exact hy.wpOp hi hS' ⟨keep _ _ hS, H⟩
    · have := ready_mono hj hji
      rw [H.1] at this
      cases this
  | succ f ih =>
    intro l a w hd hfree hr hy hS' hS H
    refine ⟨fun q => (by rw [q] at hr; cases hr), fun j hj => ?_⟩
    by_cases hji : j = i
    · subst hji; exact hy.wpOp hi hS' ⟨keep _ _ hS, H⟩
    · have h1 := H.2 j (ready_mono hj hji)
      obtain ⟨hjun, oj, hoj, hall⟩ := mem_ready.1 hj
      have hiun := (mem_ready.1 hr).1
      have hnot : ∀ e ∈ oj.after, Region.binds md e = true → e.on ≠ i := fun e he hb q => unlisted hiun (q ▸ hall e he hb)
      have h2 := wpOp_putIf hoj (hfree j oj hoj hji hjun hnot) (fun cs b => hsel i oi cs b hi) (fun cs b => hsel j oj cs b hoj) hQ hy h1
      have hfree' : ∀ k ok, ops[k]? = some ok → k ≠ i → (l.setIfInBounds j true).getD k true = false → (∀ e ∈ ok.after, Region.binds md e = true → e.on ≠ i) → oi.apart ops ok = true := fun k ok hk hki hun hno => by
        refine hfree k ok hk hki ?_ hno
        by_cases hjk : j = k
        · subst hjk; exact hjun
        · rw [getD_set_ne true hjk] at hun; exact hun
      refine wpOp_mono (fun a' w' q => ?_) h2
      have hS2 : S w' ∨ (l.setIfInBounds j true).getD s false = true := by
        have := q.2.1
        rw [Array.setIfInBounds_comm _ _ (Ne.symm hji), getD_set_ne false his] at this
        exact this
      have hS3 : S' w' := by
        rcases hT with ⟨ha, hT⟩ | hT
        · rcases hS2 with z | z
          · exact hT w' z
          · have hdn := hd.next hj
            have hil : (l.setIfInBounds j true).getD i false = true := anc_listed hdn N s (fun o ho => hdn s o ho z) ha
            rw [getD_set_ne false hji] at hil
            exact (unlisted hiun hil).elim
        · exact hT w'
      refine ⟨hS2, ih _ a' w' (hd.next hj) hfree' (ready_mono hr (Ne.symm hji)) q.1 hS3 hS2 ?_⟩
      rw [Array.setIfInBounds_comm _ _ hji]
      exact q.2.2
/-- Take number i first, its slot known; s waits for it. -/
theorem wpT_take {i t : Nat} {oi : Oper} {v : Value} {f : Nat} {l : Array Bool} {a : Act} {w : World} (his : (i == s) = false) (hi : ops[i]? = some oi) (hd : oi.dst = some t)
    (hs : Region.noSelect ops = true) (hf : Region.free md ops l i = true) (hr : (Region.ready md ops l).contains i = true) (ha : ancL md ops 40 i s = true)
    (hQ : ∀ c a w, Q (.panic c) (a.put (some t) v) w → Q (.panic c) a w) (hy : YieldsIf P ops S oi v a) (hS : S w) (hD : DownL md ops l)
    (h : DownL md ops (l.setIfInBounds i true) → wpT P md ops Q S s f (l.setIfInBounds i true) (a.put (some t) v) w) : wpT P md ops Q S s (f + 1) l a w := by
  have hr' : i ∈ Region.ready md ops l := by simpa using hr
  refine wpT_first 40 (by simpa using his) hi (Region.noSelect_spec hs) (by rw [hd]; exact hQ) (.inl ⟨ha, fun _ q => q⟩) f l a w hD (Region.free_spec hi hf) hr' hy hS (.inl hS) ?_
  rw [hd]
  exact h (hD.next hr')
/-- Take number i first, its slot known; it yields so in whatever world. -/
theorem wpT_takeW {i t : Nat} {oi : Oper} {v : Value} {f : Nat} {l : Array Bool} {a : Act} {w : World} (his : (i == s) = false) (hi : ops[i]? = some oi) (hd : oi.dst = some t)
    (hs : Region.noSelect ops = true) (hf : Region.free md ops l i = true) (hr : (Region.ready md ops l).contains i = true)
    (hQ : ∀ c a w, Q (.panic c) (a.put (some t) v) w → Q (.panic c) a w) (hy : YieldsIf P ops (fun _ => True) oi v a) (hS : S w) (hD : DownL md ops l)
    (h : DownL md ops (l.setIfInBounds i true) → wpT P md ops Q S s f (l.setIfInBounds i true) (a.put (some t) v) w) : wpT P md ops Q S s (f + 1) l a w := by
  have hr' : i ∈ Region.ready md ops l := by simpa using hr
  refine wpT_first (S' := fun _ => True) 0 (by simpa using his) hi (Region.noSelect_spec hs) (by rw [hd]; exact hQ) (.inr fun _ => trivial) f l a w hD (Region.free_spec hi hf) hr' hy trivial (.inl hS) ?_
  rw [hd]
  exact h (hD.next hr')
/-- Take number i, its slot known, behind s; it yields so in whatever world. -/
theorem wpT_takeE {i t : Nat} {oi : Oper} {v : Value} {f : Nat} {l : Array Bool} {a : Act} {w : World} (his : (i == s) = false) (hl : l.getD s false = true) (hi : ops[i]? = some oi) (hd : oi.dst = some t)
    (hs : Region.noSelect ops = true) (hf : Region.free md ops l i = true) (hr : (Region.ready md ops l).contains i = true)
    (hQ : ∀ c a w, Q (.panic c) (a.put (some t) v) w → Q (.panic c) a w) (hy : YieldsIf P ops (fun _ => True) oi v a) (hD : DownL md ops l)
    (h : DownL md ops (l.setIfInBounds i true) → wpT P md ops Q S s f (l.setIfInBounds i true) (a.put (some t) v) w) : wpT P md ops Q S s (f + 1) l a w := by
  have hr' : i ∈ Region.ready md ops l := by simpa using hr
  refine wpT_first (S' := fun _ => True) 0 (by simpa using his) hi (Region.noSelect_spec hs) (by rw [hd]; exact hQ) (.inr fun _ => trivial) f l a w hD (Region.free_spec hi hf) hr' hy trivial (.inr hl) ?_
  rw [hd]
  exact h (hD.next hr')
/-- One alone comes up, and S holds behind it. -/
theorem wpT_one {i : Nat} {o : Oper} {f : Nat} {l : Array Bool} {a : Act} {w : World} (ho : ops[i]? = some o) (hr : Region.ready md ops l = [i]) (hD : DownL md ops l)
    (h : ∀ K' : Act → World → Prop, Shut (∀ a w, S w → (S w → DownL md ops (l.setIfInBounds i true) → wpT P md ops Q S s f (l.setIfInBounds i true) a w) → K' a w) → if Region.wanted o (yielded ops a.tmps) = true then Oper.wp P o a w K' Q else K' (a.put o.dst undef) w) :
    wpT P md ops Q S s (f + 1) l a w := by
  refine ⟨fun q => (by rw [q] at hr; cases hr), fun j hj => ?_⟩
  have hji : j = i := by rw [hr] at hj; simpa using hj
  subst hji
  exact wpOp_step ho (fun K' hK => h K' (fun a w hS hW => hK a w ⟨.inl hS, hW hS (hD.next hj)⟩))
/-- Number s comes up, alone. -/
theorem wpT_last {o : Oper} {f : Nat} {l : Array Bool} {a : Act} {w : World} (ho : ops[s]? = some o) (hr : Region.ready md ops l = [s]) (hD : DownL md ops l)
    (h : ∀ K' : Act → World → Prop, Shut (∀ a w, (DownL md ops (l.setIfInBounds s true) → wpT P md ops Q S s f (l.setIfInBounds s true) a w) → K' a w) → if Region.wanted o (yielded ops a.tmps) = true then Oper.wp P o a w K' Q else K' (a.put o.dst undef) w) :
    wpT P md ops Q S s (f + 1) l a w := by
  refine ⟨fun q => (by rw [q] at hr; cases hr), fun j hj => ?_⟩
  have hji : j = s := by rw [hr] at hj; simpa using hj
  subst hji
  have hu := (mem_ready.1 hj).1
  exact wpOp_step ho (fun K' hK => h K' (fun a w hW => hK a w ⟨.inr (set_listed hu), hW (hD.next hj)⟩))
theorem wpT_done {l : Array Bool} {a : Act} {w : World} (hr : Region.ready md ops l = []) (h : Q .normal a w) : ∀ f, wpT P md ops Q S s f l a w
  | 0 => ⟨hr, h⟩
  | _ + 1 => ⟨fun _ => h, by rw [hr]; simp⟩
/-- The beginning. -/
theorem wp_region_T (s : Nat) {id : Nat} {a : Act} {w : World} (hm : P.follows .mixedOrders = true) (hS : S w.drew)
    (h : S w.drew → DownL .any ops (Array.replicate ops.size false) → wpT P .any ops Q S s ops.size (Array.replicate ops.size false) a w.drew) : (Code.region id ops true).wp P Q a w :=
  wp_region_any hm (wpAny_of_T _ _ _ _ (h hS (DownL.start _)))
end
section
open Go.RowKit
variable {P : Program} {md : Region.Mode} {ops : Array Oper} {Q : Exit → Act → World → Prop} {S T : World → Prop} {s : Nat}
/-- Take number i first, its slot t; T tells what it yields. -/
theorem wpT_z (i t : Nat) (hq : Hid (∀ w, S w → T w)) {oi : Oper} {v : Value} {f : Nat} {l : Array Bool} {a a' : Act} {w : World} (hS : S w) (hD : DownL md ops l)
    (h : DownL md ops (l.setIfInBounds i true) → wpT P md ops Q S s f (l.setIfInBounds i true) a' w)
    (c1 : (i == s) = false := by rfl) (c2 : ops[i]? = some oi := by rfl) (c3 : oi.dst = some t := by rfl) (c4 : Region.noSelect ops = true := by kernel_rfl) (c5 : Region.free md ops l i = true := by kernel_rfl)
    (c6 : (Region.ready md ops l).contains i = true := by kernel_rfl) (c7 : ancL md ops 40 i s = true := by kernel_rfl)
    (c9 : Region.wanted oi (yielded ops a.tmps) = true := by rfl) (hv : ∀ w, T w → (execOp a.eval oi).run P w = .ok (.value v) w := by intro w hTw; go_simp; try with_reducible rfl)
    (c10 : a.put (some t) v = a' := by simp only [Act.put, List.setIfInBounds_toArray, List.set_cons_zero, List.set_cons_succ]; try rfl)
    (c8 : ∀ c a w, Q (.panic c) (a.put (some t) v) w → Q (.panic c) a w := by exact fun _ _ _ h => h) : wpT P md ops Q S s (f + 1) l a w :=
  wpT_take c1 c2 c3 c4 c5 c6 c7 c8 (.inl ⟨c9, fun w h => hv w (hq.out w h)⟩) hS hD (fun h' => by rw [c10]; exact h h')
/-- It yields so in whatever world. -/
theorem wpT_zw (i t : Nat) {oi : Oper} {v : Value} {f : Nat} {l : Array Bool} {a a' : Act} {w : World} (hS : S w) (hD : DownL md ops l)
    (h : DownL md ops (l.setIfInBounds i true) → wpT P md ops Q S s f (l.setIfInBounds i true) a' w)
    (c1 : (i == s) = false := by rfl) (c2 : ops[i]? = some oi := by rfl) (c3 : oi.dst = some t := by rfl) (c4 : Region.noSelect ops = true := by kernel_rfl) (c5 : Region.free md ops l i = true := by kernel_rfl)
    (c6 : (Region.ready md ops l).contains i = true := by kernel_rfl)
    (c9 : Region.wanted oi (yielded ops a.tmps) = true := by rfl) (hv : ∀ w, True → (execOp a.eval oi).run P w = .ok (.value v) w := by intro w _; go_simp; try with_reducible rfl)
    (c10 : a.put (some t) v = a' := by simp only [Act.put, List.setIfInBounds_toArray, List.set_cons_zero, List.set_cons_succ]; try rfl)
    (c8 : ∀ c a w, Q (.panic c) (a.put (some t) v) w → Q (.panic c) a w := by exact fun _ _ _ h => h) : wpT P md ops Q S s (f + 1) l a w :=
  wpT_takeW c1 c2 c3 c4 c5 c6 c8 (.inl ⟨c9, hv⟩) hS hD (fun h' => by rw [c10]; exact h h')
/-- Behind number s. -/
theorem wpT_ze (i t : Nat) {oi : Oper} {v : Value} {f : Nat} {l : Array Bool} {a a' : Act} {w : World} (hD : DownL md ops l)
    (h : DownL md ops (l.setIfInBounds i true) → wpT P md ops Q S s f (l.setIfInBounds i true) a' w)
    (c1 : (i == s) = false := by rfl) (c0 : l.getD s false = true := by kernel_rfl) (c2 : ops[i]? = some oi := by rfl) (c3 : oi.dst = some t := by rfl) (c4 : Region.noSelect ops = true := by kernel_rfl) (c5 : Region.free md ops l i = true := by kernel_rfl)
    (c6 : (Region.ready md ops l).contains i = true := by kernel_rfl)
    (c9 : Region.wanted oi (yielded ops a.tmps) = true := by rfl) (hv : ∀ w, True → (execOp a.eval oi).run P w = .ok (.value v) w := by intro w _; go_simp; try with_reducible rfl)
    (c10 : a.put (some t) v = a' := by simp only [Act.put, List.setIfInBounds_toArray, List.set_cons_zero, List.set_cons_succ]; try rfl)
    (c8 : ∀ c a w, Q (.panic c) (a.put (some t) v) w → Q (.panic c) a w := by exact fun _ _ _ h => h) : wpT P md ops Q S s (f + 1) l a w :=
  wpT_takeE c1 c0 c2 c3 c4 c5 c6 c8 (.inl ⟨c9, hv⟩) hD (fun h' => by rw [c10]; exact h h')
end
end Go.Proofs.YtlkgdpdnhnakoaaGreatDoor
