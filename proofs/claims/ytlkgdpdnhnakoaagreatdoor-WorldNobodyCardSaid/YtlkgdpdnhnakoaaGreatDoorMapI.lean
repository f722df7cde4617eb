/- A map keyed by int, entry by entry: look-up, store, clear, range; no program in sight. -/
import Derived.Test.YtlkgdpdnhnakoaaGreatDoorBase
import Derived.Maps.RangeWalk
import Derived.Maps.OwnOps
import Derived.Lib.SlKeysI
namespace Go.Proofs.YtlkgdpdnhnakoaaGreatDoor
open Go.RowKit Go.ChangeMaps Go.MapKept

/-- The entries of a map keyed by int: f tells what lies at a key. -/
structure EntsI (es : Array MapEntry) (clock : Nat) (f : Nat → Option Value) : Prop where
  stamped : Stamped es clock
  sound : ∀ e ∈ es.toList, ∃ n : Nat, e.key = .int .i64 (n : Nat) ∧ f n = some e.val
  all : ∀ n v, f n = some v → ∃ e ∈ es.toList, e.key = .int .i64 (n : Nat) ∧ e.val = v
/-- Block m is a map. -/
def MapI (w : World) (m : Nat) (f : Nat → Option Value) : Prop := ∃ es clock, w.heap[m]? = some (.map es clock) ∧ EntsI es clock f

theorem EntsI.empty (clock : Nat) : EntsI #[] clock (fun _ => none) := ⟨stamped_empty clock, by simp, fun n v h => by cases h⟩
theorem EntsI.keys {es : Array MapEntry} {clock : Nat} {f : Nat → Option Value} (h : EntsI es clock f) : ∀ x ∈ es.toList, IsKey (.int .i64) x.key := by
  intro x hx
  obtain ⟨n, e, _⟩ := h.sound x hx
  rw [e]; exact rfl
theorem EntsI.congr {es : Array MapEntry} {clock : Nat} {f g : Nat → Option Value} (h : EntsI es clock f) (e : ∀ n, f n = g n) : EntsI es clock g := by
  have : f = g := funext e
  rw [← this]; exact h
theorem MapI.congr {w : World} {m : Nat} {f g : Nat → Option Value} (h : MapI w m f) (e : ∀ n, f n = g n) : MapI w m g := by
  obtain ⟨es, c, hb, hE⟩ := h
  exact ⟨es, c, hb, hE.congr e⟩
theorem MapI.lt {w : World} {m : Nat} {f : Nat → Option Value} (h : MapI w m f) : m < w.heap.size := by
  obtain ⟨es, c, hb, _⟩ := h
  exact lt_of_block hb
theorem MapI.kept {w w' : World} {m : Nat} {f : Nat → Option Value} {fp : Nat → Prop} (h : MapI w m f) (k : Kept fp w w') (hn : ¬ fp m) : MapI w' m f := by
  obtain ⟨es, c, hb, hE⟩ := h
  exact ⟨es, c, k.obj hb hn, hE⟩
theorem MapI.ne {w : World} {m b : Nat} {f : Nat → Option Value} {cs : Array Value} {t : TypeId} (h : MapI w m f) (hb : Blk w b cs t) : ¬ b = m := by
  obtain ⟨es, c, hm, _⟩ := h
  intro e
  subst e
  have := hm.symm.trans hb
  cases this
theorem MapI.ne_cell {w : World} {m b o : Nat} {f : Nat → Option Value} {v : Value} (h : MapI w m f) (hb : w.cell? ⟨b, o, none⟩ = some v) : ¬ b = m := by
  obtain ⟨es, c, hm, _⟩ := h
  intro e
  subst e
  simp [World.cell?, hm] at hb
theorem MapI.new (w : World) : MapI (w.alloc (.map #[] 0)) w.heap.size (fun _ => none) := ⟨#[], 0, heap_alloc_new w _, EntsI.empty 0⟩
theorem EntsI.one {es : Array MapEntry} {clock : Nat} {f : Nat → Option Value} (h : EntsI es clock f) {x y : MapEntry} (hx : x ∈ es.toList) (hy : y ∈ es.toList) (e : x.key = y.key) : x = y :=
  entry_eq_of_key ((stamped_iff es clock).1 h.stamped).2.2 hx hy e

theorem Kept.setBlock {w : World} {m : Nat} {es : Array MapEntry} {c : Nat} (hb : w.heap[m]? = some (.map es c)) (o : Obj) : Kept (fun j => j = m) w (setBlock w m o) :=
  ⟨rfl, rfl, rfl, by simp [Go.ChangeMaps.setBlock], fun k _ hn => heap_setBlock_other hb o hn⟩

/-- m[n], n there or not. -/
theorem EntsI.find {es : Array MapEntry} {clock : Nat} {f : Nat → Option Value} (h : EntsI es clock f) (n : Nat) :
    (Instr.findNow (.int .i64) (.int .i64 (n : Nat)) es.toList 0 = some none ∧ (∀ x ∈ es.toList, x.key ≠ .int .i64 (n : Nat)) ∧ f n = none) ∨
    ∃ (j : Nat) (e : MapEntry), Instr.findNow (.int .i64) (.int .i64 (n : Nat)) es.toList 0 = some (some (j, e.val)) ∧ es[j]? = some e ∧ e.key = .int .i64 (n : Nat) ∧ f n = some e.val := by
  rcases findNow_spec (d := .int .i64) (k := .int .i64 (n : Nat)) rfl es.toList 0 h.keys with ⟨h1, h2⟩ | ⟨j, e, h1, h2, h3⟩
  · refine .inl ⟨h1, h2, ?_⟩
    cases hf : f n with
    | none => rfl
    | some v => obtain ⟨e, he, hk, _⟩ := h.all n v hf; exact absurd hk (h2 e he)
  · refine .inr ⟨j, e, by simpa using h1, by simpa using h2, h3, ?_⟩
    obtain ⟨n', hk, hf⟩ := h.sound e (List.mem_of_getElem? h2)
    rw [h3] at hk
    simp only [Value.int.injEq, true_and] at hk
    have : n = n' := by omega
    subst this
    exact hf

variable {P : Program}
theorem MapI.look {w : World} {m : Nat} {f : Nat → Option Value} (h : MapI w m f) {t k e : TypeId} (ht : P.underlying t = some (.map k e)) (hk : P.underlying k = some (.int .i64)) (n : Nat) {z : Value} (hz : (zeroValue e).run P w = .ok z w) (ok : Bool) :
    (Instr.lookup t (.map (some m)) (.int .i64 (n : Nat)) ok).run P w = .ok (if ok then .tuple #[(f n).getD z, .bool (f n).isSome] else (f n).getD z) w := by
  obtain ⟨es, c, hb, hE⟩ := h
  have hck := run_checkKey (P := P) (w := w) hk (k := .int .i64 (n : Nat)) (show IsKey (.int .i64) (.int .i64 (n : Nat)) from rfl) es.isEmpty 9999
  rcases hE.find n with ⟨h1, _, h3⟩ | ⟨j, e0, h1, _, _, h3⟩
  · simp [Instr.lookup, run_underlying ht, Go.MapKept.run_getObj_map hb, hck, run_findKey hk h1, hz, h3, Result.andThen]
  · simp [Instr.lookup, run_underlying ht, Go.MapKept.run_getObj_map hb, hck, run_findKey hk h1, h3, Result.andThen]

theorem MapI.store {w : World} {m : Nat} {f : Nat → Option Value} (h : MapI w m f) {t k e : TypeId} (ht : P.underlying t = some (.map k e)) (hk : P.underlying k = some (.int .i64)) (n : Nat) (v : Value) :
    ∃ w', (Instr.mapUpdate t (.map (some m)) (.int .i64 (n : Nat)) v).run P w = .ok () w' ∧ MapI w' m (fun j => if j = n then some v else f j) ∧ Kept (fun j => j = m) w w' ∧ w'.heap.size = w.heap.size := by
  obtain ⟨es, c, hb, hE⟩ := h
  have hck := run_checkKey (P := P) (w := w) hk (k := .int .i64 (n : Nat)) (show IsKey (.int .i64) (.int .i64 (n : Nat)) from rfl) false 9999
  rcases hE.find n with ⟨h1, h2, h3⟩ | ⟨j, e0, h1, hj, hke, h3⟩
  · refine ⟨setBlock w m (.map (es.push { key := .int .i64 (n : Nat), val := v, born := c }) (c + 1)), ?_, ⟨_, _, heap_setBlock_same hb _, stamped_push hE.stamped h2, ?_, ?_⟩, Kept.setBlock hb _, by simp [Go.ChangeMaps.setBlock]⟩
    · simp [Instr.mapUpdate, run_underlying ht, Go.MapKept.run_getObj_map hb, hck, run_findKey hk h1, Go.MapKept.run_setObj_map _ hb, Result.andThen]
      rfl
    · intro x hx
      simp only [Array.toList_push, List.mem_append, List.mem_singleton] at hx
      rcases hx with hx | rfl
      · obtain ⟨n', e1, e2⟩ := hE.sound x hx
        refine ⟨n', e1, ?_⟩
        have : n' ≠ n := fun q => h2 x hx (by rw [e1, q])
        simp [this, e2]
      · exact ⟨n, rfl, by simp⟩
    · intro n' v' hv
      by_cases q : n' = n
      · subst q
        simp at hv
        exact ⟨⟨.int .i64 (n' : Nat), v, c⟩, by simp, rfl, hv⟩
      · simp [q] at hv
        obtain ⟨x, hx, e1, e2⟩ := hE.all n' v' hv
        exact ⟨x, by simp [Array.mem_toList_iff.1 hx], e1, e2⟩
  · have hkf : ∀ e', es[j]? = some e' → ({ e' with key := .int .i64 (n : Nat), val := v } : MapEntry).key = e'.key := fun e' he' => by rw [hj] at he'; cases he'; exact hke.symm
    refine ⟨setBlock w m (.map (es.modify j fun e' => { e' with key := .int .i64 (n : Nat), val := v }) c), ?_, ⟨_, _, heap_setBlock_same hb _, stamped_modify hE.stamped _ _ (fun _ _ => rfl) (fun e' _ he' => hkf e' he'), ?_, ?_⟩, Kept.setBlock hb _, by simp [Go.ChangeMaps.setBlock]⟩
    · simp [Instr.mapUpdate, run_underlying ht, Go.MapKept.run_getObj_map hb, hck, run_findKey hk h1, hj, hke, run_keyThatStays (show IsKey (.int .i64) (.int .i64 (n : Nat)) from rfl), Go.MapKept.run_setObj_map _ hb, Result.andThen]
      rfl
    · intro x hx
      obtain ⟨i, hi⟩ := List.getElem?_of_mem hx
      rw [Array.getElem?_toList, Array.getElem?_modify] at hi
      by_cases q : j = i
      · subst q
        simp only [if_pos, hj, Option.map_some, Option.some.injEq] at hi
        subst hi
        exact ⟨n, rfl, by simp⟩
      · simp only [q, if_false] at hi
        have hx' : x ∈ es.toList := by rw [← Array.getElem?_toList] at hi; exact List.mem_of_getElem? hi
        obtain ⟨n', e1, e2⟩ := hE.sound x hx'
        refine ⟨n', e1, ?_⟩
        have : n' ≠ n := by
          intro q2
          have := hE.one hx' (List.mem_of_getElem? (by rw [Array.getElem?_toList]; exact hj)) (by rw [e1, hke, q2])
          subst this
          have hnd := hE.stamped.2.1
          rw [← Array.getElem?_toList] at hi hj
          have a1 : (es.toList.map (·.born))[i]? = some x.born := by rw [List.getElem?_map, hi]; rfl
          have a2 : (es.toList.map (·.born))[j]? = some x.born := by rw [List.getElem?_map, hj]; rfl
          obtain ⟨b1, c1⟩ := List.getElem?_eq_some_iff.1 a1
          obtain ⟨b2, c2⟩ := List.getElem?_eq_some_iff.1 a2
          rcases Nat.lt_or_gt_of_ne q with q' | q'
          · exact List.pairwise_iff_getElem.1 hnd j i b2 b1 q' (c2.trans c1.symm)
          · exact List.pairwise_iff_getElem.1 hnd i j b1 b2 q' (c1.trans c2.symm)
        simp [this, e2]
    · intro n' v' hv
      by_cases q : n' = n
      · subst q
        simp at hv
        refine ⟨{ e0 with key := .int .i64 (n' : Nat), val := v }, ?_, rfl, hv⟩
        refine List.mem_of_getElem? (i := j) ?_
        rw [Array.getElem?_toList, Array.getElem?_modify, if_pos rfl, hj]
        rfl
      · simp [q] at hv
        obtain ⟨x, hx, e1, e2⟩ := hE.all n' v' hv
        obtain ⟨i, hi⟩ := List.getElem?_of_mem hx
        rw [Array.getElem?_toList] at hi
        refine ⟨x, List.mem_of_getElem? (i := i) ?_, e1, e2⟩
        rw [Array.getElem?_toList, Array.getElem?_modify]
        have : ¬ j = i := by
          intro q2
          subst q2
          rw [hj] at hi
          cases hi
          rw [hke] at e1
          simp only [Value.int.injEq, true_and] at e1
          omega
        simp only [this, if_false, hi]

theorem MapI.clear {w : World} {m : Nat} {f : Nat → Option Value} (h : MapI w m f) {t k e ty : TypeId} (ht : P.underlying t = some (.map k e)) :
    ∃ w', (Builtin.clear_ #[t] ty #[.map (some m)]).run P w = .ok (.tuple #[]) w' ∧ MapI w' m (fun _ => none) ∧ Kept (fun j => j = m) w w' ∧ w'.heap.size = w.heap.size := by
  obtain ⟨es, c, hb, hE⟩ := h
  refine ⟨setBlock w m (.map #[] c), ?_, ⟨_, _, heap_setBlock_same hb _, EntsI.empty c⟩, Kept.setBlock hb _, by simp [Go.ChangeMaps.setBlock]⟩
  simp [Builtin.clear_, run_underlying ht, Go.MapKept.run_getObj_map hb, Go.MapKept.run_setObj_map _ hb, Result.andThen]
  rfl

/-- A range over a map, under way: left n: the entry at n is still to come. -/
structure RangesI (w : World) (m r : Nat) (f : Nat → Option Value) (left : Nat → Bool) (cnt : Nat) : Prop where
  is : ∃ es clock since seen c0, w.heap[m]? = some (.map es clock) ∧ EntsI es clock f ∧ w.heap[r]? = some (.mapIter (some m) since seen c0) ∧ (∀ x ∈ es.toList, x.born < since) ∧
    (leftOf es seen).size = cnt ∧ (∀ x ∈ es.toList, ∀ n : Nat, x.key = .int .i64 (n : Nat) → left n = !seen.contains x.born) ∧ (∀ n, left n = true → (f n).isSome = true) ∧ since ≤ c0 ∧ since ≤ clock
theorem RangesI.map {w : World} {m r : Nat} {f : Nat → Option Value} {left : Nat → Bool} {cnt : Nat} (h : RangesI w m r f left cnt) : MapI w m f := by
  obtain ⟨es, c, _, _, _, hb, hE, _⟩ := h.is
  exact ⟨es, c, hb, hE⟩
theorem RangesI.it {w : World} {m r : Nat} {f : Nat → Option Value} {left : Nat → Bool} {cnt : Nat} (h : RangesI w m r f left cnt) : ∃ since seen c0, w.heap[r]? = some (.mapIter (some m) since seen c0) := by
  obtain ⟨es, c, a, b, d, hb, hE, hr, _⟩ := h.is
  exact ⟨a, b, d, hr⟩
theorem RangesI.lt {w : World} {m r : Nat} {f : Nat → Option Value} {left : Nat → Bool} {cnt : Nat} (h : RangesI w m r f left cnt) : r < w.heap.size := by
  obtain ⟨_, _, _, hr⟩ := h.it
  exact lt_of_block hr
theorem RangesI.left_eq {w : World} {m r : Nat} {f : Nat → Option Value} {left : Nat → Bool} {cnt : Nat} (h : RangesI w m r f left cnt) : w.rangeLeft m r = cnt := by
  obtain ⟨es, c, _, _, _, hb, _, hr, _, hc, _⟩ := h.is
  simp only [World.rangeLeft, hb, hr]
  exact hc
theorem RangesI.kept {w w' : World} {m r : Nat} {f : Nat → Option Value} {left : Nat → Bool} {cnt : Nat} {fp : Nat → Prop} (h : RangesI w m r f left cnt) (k : Kept fp w w') (hm : ¬ fp m) (hr : ¬ fp r) : RangesI w' m r f left cnt := by
  obtain ⟨es, c, a, b, d, h1, h2, h3, h4⟩ := h.is
  exact ⟨es, c, a, b, d, k.obj h1 hm, h2, k.obj h3 hr, h4⟩
theorem leftOf_nil (es : Array MapEntry) : leftOf es #[] = es := by
  unfold leftOf
  exact Array.filter_eq_self.2 (fun x _ => by simp)
theorem MapI.range {w : World} {m : Nat} {f : Nat → Option Value} (h : MapI w m f) {t k e : TypeId} (ht : P.underlying t = some (.map k e)) :
    ∃ w' cnt, (Instr.range t (.map (some m))).run P w = .ok (.pointer (some ⟨w.heap.size, 0, none⟩)) w' ∧ RangesI w' m w.heap.size f (fun n => (f n).isSome) cnt ∧ Kept (fun _ => False) w w' ∧ w'.heap.size = w.heap.size + 1 := by
  have hlt := h.lt
  obtain ⟨es, c, hb, hE⟩ := h
  refine ⟨w.alloc (.mapIter (some m) c #[] c), es.size, ?_, ⟨es, c, c, #[], c, (Below.heap_alloc _ _ m hlt).trans hb, hE, heap_alloc_new w _, hE.stamped.1, by rw [leftOf_nil], ?_, fun n h => h, Nat.le_refl _, Nat.le_refl _⟩, (Kept.refl _ w).alloc _, by simp⟩
  · simp [Instr.range, run_underlying ht, Go.MapKept.run_getObj_map hb, Result.andThen, go_sem]
  · intro x hx n e
    obtain ⟨n', e1, e2⟩ := hE.sound x hx
    rw [e] at e1
    simp only [Value.int.injEq, true_and] at e1
    have : n = n' := by omega
    subst this
    simp [e2]
/-- The step: nothing is left, or some entry has come. -/
theorem RangesI.next {w : World} {m r : Nat} {f : Nat → Option Value} {left : Nat → Bool} {cnt : Nat} (h : RangesI w m r f left cnt) (ty : TypeId) :
    ((Instr.next (.pointer (some ⟨r, 0, none⟩)) false ty).run P w = .ok (.tuple #[.bool false]) w ∧ ∀ n, left n = false) ∨
    ∃ (n : Nat) (v : Value) (w' : World) (cnt' : Nat), (Instr.next (.pointer (some ⟨r, 0, none⟩)) false ty).run P w = .ok (.tuple #[.bool true, .int .i64 (n : Nat), v]) w' ∧ f n = some v ∧ left n = true ∧ RangesI w' m r f (fun j => left j && !decide (j = n)) cnt' ∧ cnt' < cnt ∧
      w'.heap.size = w.heap.size ∧ Kept (fun j => j = r) w w' ∧ (Instr.entry (.pointer (some ⟨r, 0, none⟩))).run P w' = .ok (.tuple #[.int .i64 (n : Nat), v]) w' := by
  obtain ⟨es, c, since, seen, c0, hb, hE, hr, hold, hc, hl, hs, hle, hsk⟩ := h.is
  have hmr : m ≠ r := by intro q; rw [q, hr] at hb; cases hb
  subst hc
  rcases run_next_at (P := P) w ty r m since c0 seen es c hr hb hold hle with ⟨h0, hrun⟩ | ⟨e, he, w1, hal, hrun⟩
  · refine .inl ⟨hrun, fun n => ?_⟩
    cases hq : left n with
    | false => rfl
    | true =>
      obtain ⟨v, hv⟩ := Option.isSome_iff_exists.1 (hs n hq)
      obtain ⟨x, hx, e1, _⟩ := hE.all n v hv
      have := hl x hx n e1
      rw [hq, all_seen es seen h0 x hx] at this
      cases this
  · obtain ⟨hem, hes⟩ := mem_left he
    obtain ⟨n, e1, e2⟩ := hE.sound e hem
    have hr1 : w1.heap[r]? = some (.mapIter (some m) since seen c0) := by rcases hal with rfl | rfl <;> exact hr
    have hb1 : w1.heap[m]? = some (.map es c) := by rcases hal with rfl | rfl <;> exact hb
    have hset := heap_set (o' := .mapIter (some m) since (seen.push e.born) c) hr1
    have hb' : (setBlock w1 r (.mapIter (some m) since (seen.push e.born) c)).heap[m]? = some (.map es c) := (hset.2 m hmr).trans hb1
    refine .inr ⟨n, e.val, _, _, by rw [hrun, e1], e2, by rw [hl e hem n e1, hes]; rfl,
      ⟨es, c, since, seen.push e.born, c, hb', hE, hset.1, hold, rfl, fun x hx n' ex => ?_, fun n' hq => hs n' (by simp at hq; exact hq.1), hsk, hsk⟩, left_shrinks es seen e he, ?_, ?_, ?_⟩
    · rw [hl x hx n' ex, contains_push]
      have : (x.born == e.born) = decide (n' = n) := by
        by_cases q : n' = n
        · subst q
          have := hE.one hx hem (ex.trans e1.symm)
          subst this
          simp
        · have : ¬ x.born = e.born := by
            intro qb
            have := born_inj hE.stamped.2.1 hx hem qb
            subst this
            rw [e1] at ex
            simp only [Value.int.injEq, true_and] at ex
            omega
          simp [q, this]
      rw [this]
      cases seen.contains x.born <;> cases decide (n' = n) <;> rfl
    · rcases hal with rfl | rfl <;> simp [Go.ChangeMaps.setBlock]
    · rcases hal with rfl | rfl <;> exact ⟨rfl, rfl, rfl, by simp [Go.ChangeMaps.setBlock], fun i _ hi => hset.2 i hi⟩
    · rw [run_entry_at _ r m since seen es c e hset.1 hb' hem hE.stamped.2.1, e1]

section
variable (w : World) {ops : Array Oper} {rest : List Oper} {o : Oper} {a : Act} {Q : Exit → Act → World → Prop}
/-- 'range m'. -/
theorem wpList_rangeI (hg : o.guard = none) (x : Operand) (t : TypeId) (hop : o.op = Op.range t x) {k e : TypeId} (ht : P.underlying t = some (.map k e)) {m : Nat} {f : Nat → Option Value} (hm : a.eval x = .map (some m)) (h : MapI w m f)
    (hK : ∀ w' cnt, RangesI w' m w.heap.size f (fun n => (f n).isSome) cnt → Kept (fun _ => False) w w' → w'.heap.size = w.heap.size + 1 → wpList P ops Q rest (a.put o.dst (.pointer (some ⟨w.heap.size, 0, none⟩))) w') :
    wpList P ops Q (o :: rest) a w := by
  refine wpList_plain hg fun K' hK' => ?_
  obtain ⟨w', cnt, hrun, r1, r2, r3⟩ := h.range ht
  unfold Oper.wp
  simp [execOp, hop, hm, hrun, Result.andThen]
  exact hK' _ _ (hK w' cnt r1 r2 r3)
/-- The step of a range. -/
theorem wpList_nextI (hg : o.guard = none) (it : Operand) (hop : o.op = Op.next it false) {m r : Nat} {f : Nat → Option Value} {left : Nat → Bool} {cnt : Nat} (hit : a.eval it = .pointer (some ⟨r, 0, none⟩)) (h : RangesI w m r f left cnt)
    (hDone : (∀ n, left n = false) → wpList P ops Q rest (a.put o.dst (.tuple #[.bool false])) w)
    (hMore : ∀ (n : Nat) (v : Value) (w' : World) (cnt' : Nat), f n = some v → left n = true → RangesI w' m r f (fun j => left j && !decide (j = n)) cnt' → cnt' < cnt → w'.heap.size = w.heap.size → Kept (fun j => j = r) w w' →
      (Instr.entry (.pointer (some ⟨r, 0, none⟩))).run P w' = .ok (.tuple #[.int .i64 (n : Nat), v]) w' → wpList P ops Q rest (a.put o.dst (.tuple #[.bool true, .int .i64 (n : Nat), v])) w') :
    wpList P ops Q (o :: rest) a w := by
  refine wpList_plain hg fun K' hK' => ?_
  unfold Oper.wp
  rcases h.next (P := P) o.type with ⟨hrun, hl⟩ | ⟨n, v, w', cnt', hrun, h1, h2, h3, h4, h5, h6, h7⟩
  · simp [execOp, hop, hit, hrun, Result.andThen]
    exact hK' _ _ (hDone hl)
  · simp [execOp, hop, hit, hrun, Result.andThen]
    exact hK' _ _ (hMore n v w' cnt' h1 h2 h3 h4 h5 h6 h7)
end

theorem nodup_lt : ∀ (N : Nat) (l : List Nat), l.Nodup → (∀ x ∈ l, x < N) → l.length ≤ N
  | 0, l, _, h => by
    cases l with
    | nil => simp
    | cons a l => exact absurd (h a (by simp)) (by omega)
  | N + 1, l, hn, h => by
    by_cases q : N ∈ l
    · have := nodup_lt N (l.erase N) (hn.erase N) (fun x hx => by
        have h1 := (hn.mem_erase_iff).1 hx
        have := h x h1.2
        omega)
      rw [List.length_erase_of_mem q] at this
      omega
    · have := nodup_lt N l hn (fun x hx => by
        have := h x hx
        have : x ≠ N := fun e => q (e ▸ hx)
        omega)
      omega
def keyN (e : MapEntry) : Nat := match e.key with | .int _ x => x.toNat | _ => 0
theorem EntsI.keyN {es : Array MapEntry} {clock : Nat} {f : Nat → Option Value} (h : EntsI es clock f) {e : MapEntry} (he : e ∈ es.toList) : e.key = .int .i64 (YtlkgdpdnhnakoaaGreatDoor.keyN e : Nat) ∧ f (YtlkgdpdnhnakoaaGreatDoor.keyN e) = some e.val := by
  obtain ⟨n, h1, h2⟩ := h.sound e he
  have : YtlkgdpdnhnakoaaGreatDoor.keyN e = n := by simp [YtlkgdpdnhnakoaaGreatDoor.keyN, h1]
  rw [this]
  exact ⟨h1, h2⟩
theorem EntsI.nodup {es : Array MapEntry} {clock : Nat} {f : Nat → Option Value} (h : EntsI es clock f) : (es.toList.map YtlkgdpdnhnakoaaGreatDoor.keyN).Nodup := by
  refine List.pairwise_map.2 (((stamped_iff es clock).1 h.stamped).2.2.imp_of_mem fun {p q} hp hq hne e => hne ?_)
  rw [(h.keyN hp).1, (h.keyN hq).1, e]
theorem EntsI.size {es : Array MapEntry} {clock : Nat} {f : Nat → Option Value} (h : EntsI es clock f) {N : Nat} (hf : ∀ n, (f n).isSome = true → n < N) : es.size ≤ N := by
  have := nodup_lt N (es.toList.map YtlkgdpdnhnakoaaGreatDoor.keyN) h.nodup (fun x hx => by
    obtain ⟨e, he, rfl⟩ := List.mem_map.1 hx
    exact hf _ (by rw [(h.keyN he).2]; rfl))
  simpa using this

end Go.Proofs.YtlkgdpdnhnakoaaGreatDoor
