/- A map keyed by whatever kind, entry by entry: look-up, store, delete; no program in sight. -/
import Derived.Test.YtpgghajkpjhieaaGreatDoorBase
import Derived.Maps.RangeWalk
import Derived.Maps.OwnOps
import Derived.MapKept
import Derived.Sort.EncStr
import Derived.StringKeys
import Derived.Sort.KeysCollected
namespace Go.Proofs.YtpgghajkpjhieaaGreatDoor
open Go.RowKit Go.ChangeMaps Go.MapKept Go.Sort

/-- How keys stand as values. -/
structure KeyE {K : Type} (d : TypeDesc) (ek : K → Value) : Prop where
  is : ∀ k, IsKey d (ek k)
  inj : ∀ a b, ek a = ek b → a = b
theorem keyE_str : KeyE .string Value.string := ⟨fun _ => trivial, fun _ _ h => by injection h⟩
theorem keyE_int : KeyE (.int .i64) (Value.int .i64) := ⟨fun _ => rfl, fun _ _ h => by injection h⟩
section
variable {K : Type} [DecidableEq K] {d : TypeDesc} {ek : K → Value}
/-- The entries of a map: f tells what lies at a key. -/
structure EntsK (d : TypeDesc) (ek : K → Value) (es : Array MapEntry) (clock : Nat) (f : K → Option Value) : Prop where
  ke : KeyE d ek
  stamped : Stamped es clock
  sound : ∀ e ∈ es.toList, ∃ n, e.key = ek n ∧ f n = some e.val
  all : ∀ n v, f n = some v → ∃ e ∈ es.toList, e.key = ek n ∧ e.val = v
/-- Block m is a map. -/
def MapK (d : TypeDesc) (ek : K → Value) (w : World) (m : Nat) (f : K → Option Value) : Prop := ∃ es clock, w.heap[m]? = some (.map es clock) ∧ EntsK d ek es clock f

omit [DecidableEq K] in
theorem EntsK.empty (h : KeyE d ek) (clock : Nat) : EntsK d ek #[] clock (fun _ => none) := ⟨h, stamped_empty clock, by simp, fun n v h => by cases h⟩
omit [DecidableEq K] in
theorem EntsK.keys {es : Array MapEntry} {clock : Nat} {f : K → Option Value} (h : EntsK d ek es clock f) : ∀ x ∈ es.toList, IsKey d x.key := by
  intro x hx
  obtain ⟨n, e, _⟩ := h.sound x hx
  rw [e]; exact h.ke.is n
omit [DecidableEq K] in
theorem MapK.congr {w : World} {m : Nat} {f g : K → Option Value} (h : MapK d ek w m f) (e : ∀ n, f n = g n) : MapK d ek w m g := by
  have : f = g := funext e
  rw [← this]; exact h
omit [DecidableEq K] in
theorem MapK.lt {w : World} {m : Nat} {f : K → Option Value} (h : MapK d ek w m f) : m < w.heap.size := by
  obtain ⟨es, c, hb, _⟩ := h
  exact lt_of_block hb
omit [DecidableEq K] in
theorem MapK.kept {w w' : World} {m : Nat} {f : K → Option Value} {fp : Nat → Prop} (h : MapK d ek w m f) (k : Kept fp w w') (hn : ¬ fp m) : MapK d ek w' m f := by
  obtain ⟨es, c, hb, hE⟩ := h
  exact ⟨es, c, k.obj hb hn, hE⟩
omit [DecidableEq K] in
theorem MapK.same {w w' : World} {m : Nat} {f : K → Option Value} (h : MapK d ek w m f) (k : Same w w') : MapK d ek w' m f := h.kept k (fun h => h)
omit [DecidableEq K] in
theorem MapK.ne {w : World} {m b : Nat} {f : K → Option Value} {cs : Array Value} {t : TypeId} (h : MapK d ek w m f) (hb : Blk w b cs t) : ¬ b = m := by
  obtain ⟨es, c, hm, _⟩ := h
  intro e
  subst e
  have := hm.symm.trans hb
  cases this
omit [DecidableEq K] in
theorem MapK.new (h : KeyE d ek) (w : World) : MapK d ek (w.alloc (.map #[] 0)) w.heap.size (fun _ => none) := ⟨#[], 0, heap_alloc_new w _, EntsK.empty h 0⟩
omit [DecidableEq K] in
theorem EntsK.one {es : Array MapEntry} {clock : Nat} {f : K → Option Value} (h : EntsK d ek es clock f) {x y : MapEntry} (hx : x ∈ es.toList) (hy : y ∈ es.toList) (e : x.key = y.key) : x = y :=
  entry_eq_of_key ((stamped_iff es clock).1 h.stamped).2.2 hx hy e
theorem Kept.setBlockK {w : World} {m : Nat} {es : Array MapEntry} {c : Nat} (hb : w.heap[m]? = some (.map es c)) (o : Obj) : Kept (fun j => j = m) w (setBlock w m o) :=
  ⟨rfl, rfl, rfl, by simp [Go.ChangeMaps.setBlock], fun k _ hn => heap_setBlock_other hb o hn⟩

omit [DecidableEq K] in
/-- m[n], n there or not. -/
theorem EntsK.find {es : Array MapEntry} {clock : Nat} {f : K → Option Value} (h : EntsK d ek es clock f) (n : K) :
    (Instr.findNow d (ek n) es.toList 0 = some none ∧ (∀ x ∈ es.toList, x.key ≠ ek n) ∧ f n = none) ∨
    ∃ (j : Nat) (e : MapEntry), Instr.findNow d (ek n) es.toList 0 = some (some (j, e.val)) ∧ es[j]? = some e ∧ e.key = ek n ∧ f n = some e.val := by
  rcases findNow_spec (d := d) (k := ek n) (h.ke.is n) es.toList 0 h.keys with ⟨h1, h2⟩ | ⟨j, e, h1, h2, h3⟩
  · refine .inl ⟨h1, h2, ?_⟩
    cases hf : f n with
    | none => rfl
    | some v => obtain ⟨e, he, hk, _⟩ := h.all n v hf; exact absurd hk (h2 e he)
  · refine .inr ⟨j, e, by simpa using h1, by simpa using h2, h3, ?_⟩
    obtain ⟨n', hk, hf⟩ := h.sound e (List.mem_of_getElem? h2)
    rw [h3] at hk
    have := h.ke.inj _ _ hk
    subst this
    exact hf

variable {P : Program}
omit [DecidableEq K] in
theorem MapK.look {w : World} {m : Nat} {f : K → Option Value} (h : MapK d ek w m f) {t k e : TypeId} (ht : P.underlying t = some (.map k e)) (hk : P.underlying k = some d) (n : K) {z : Value} (hz : (zeroValue e).run P w = .ok z w) (ok : Bool) :
    (Instr.lookup t (.map (some m)) (ek n) ok).run P w = .ok (if ok then .tuple #[(f n).getD z, .bool (f n).isSome] else (f n).getD z) w := by
  obtain ⟨es, c, hb, hE⟩ := h
  have hck := run_checkKey (P := P) (w := w) hk (k := ek n) (hE.ke.is n) es.isEmpty 9999
  rcases hE.find n with ⟨h1, _, h3⟩ | ⟨j, e0, h1, _, _, h3⟩
  · simp [Instr.lookup, run_underlying ht, Go.MapKept.run_getObj_map hb, hck, run_findKey hk h1, hz, h3, Result.andThen]
  · simp [Instr.lookup, run_underlying ht, Go.MapKept.run_getObj_map hb, hck, run_findKey hk h1, h3, Result.andThen]

theorem MapK.store {w : World} {m : Nat} {f : K → Option Value} (h : MapK d ek w m f) {t k e : TypeId} (ht : P.underlying t = some (.map k e)) (hk : P.underlying k = some d) (n : K) (v : Value) :
    ∃ w', (Instr.mapUpdate t (.map (some m)) (ek n) v).run P w = .ok () w' ∧ MapK d ek w' m (fun j => if j = n then some v else f j) ∧ Kept (fun j => j = m) w w' ∧ w'.heap.size = w.heap.size := by
  obtain ⟨es, c, hb, hE⟩ := h
  have hck := run_checkKey (P := P) (w := w) hk (k := ek n) (hE.ke.is n) false 9999
  rcases hE.find n with ⟨h1, h2, h3⟩ | ⟨j, e0, h1, hj, hke, h3⟩
  · refine ⟨setBlock w m (.map (es.push { key := ek n, val := v, born := c }) (c + 1)), ?_, ⟨_, _, heap_setBlock_same hb _, hE.ke, stamped_push hE.stamped h2, ?_, ?_⟩, Kept.setBlockK hb _, by simp [Go.ChangeMaps.setBlock]⟩
    · simp [Instr.mapUpdate, run_underlying ht, Go.MapKept.run_getObj_map hb, hck, run_findKey hk h1, Go.MapKept.run_setObj_map _ hb, Result.andThen]
      rfl
    · intro x hx
      simp only [Array.toList_push, List.mem_append, List.mem_singleton] at hx
      rcases hx with hx | rfl
      · obtain ⟨n', e1, e2⟩ := hE.sound x hx
        refine ⟨n', e1, ?_⟩
        have : n' ≠ n := fun q => h2 x hx (by rw [e1, q])
        simp [this, e2]
      · exact ⟨n, rfl, by simp⟩
    · intro n' v' hv
      by_cases q : n' = n
      · subst q
        simp at hv
        exact ⟨⟨ek n', v, c⟩, by simp, rfl, hv⟩
      · simp [q] at hv
        obtain ⟨x, hx, e1, e2⟩ := hE.all n' v' hv
        exact ⟨x, by simp [Array.mem_toList_iff.1 hx], e1, e2⟩
  · have hkf : ∀ e', es[j]? = some e' → ({ e' with key := ek n, val := v } : MapEntry).key = e'.key := fun e' he' => by rw [hj] at he'; cases he'; exact hke.symm
    refine ⟨setBlock w m (.map (es.modify j fun e' => { e' with key := ek n, val := v }) c), ?_, ⟨_, _, heap_setBlock_same hb _, hE.ke, stamped_modify hE.stamped _ _ (fun _ _ => rfl) (fun e' _ he' => hkf e' he'), ?_, ?_⟩, Kept.setBlockK hb _, by simp [Go.ChangeMaps.setBlock]⟩
    · simp [Instr.mapUpdate, run_underlying ht, Go.MapKept.run_getObj_map hb, hck, run_findKey hk h1, hj, hke, run_keyThatStays (hE.ke.is n), Go.MapKept.run_setObj_map _ hb, Result.andThen]
      rfl
    · intro x hx
      obtain ⟨i, hi⟩ := List.getElem?_of_mem hx
      rw [Array.getElem?_toList, Array.getElem?_modify] at hi
      by_cases q : j = i
      · subst q
        simp only [if_pos, hj, Option.map_some, Option.some.injEq] at hi
        subst hi
        exact ⟨n, rfl, by simp⟩
      · simp only [q, if_false] at hi
        have hx' : x ∈ es.toList := by rw [← Array.getElem?_toList] at hi; exact List.mem_of_getElem? hi
        obtain ⟨n', e1, e2⟩ := hE.sound x hx'
        refine ⟨n', e1, ?_⟩
        have : n' ≠ n := by
          intro q2
          have := hE.one hx' (List.mem_of_getElem? (by rw [Array.getElem?_toList]; exact hj)) (by rw [e1, hke, q2])
          subst this
          have hnd := hE.stamped.2.1
          rw [← Array.getElem?_toList] at hi hj
          have a1 : (es.toList.map (·.born))[i]? = some x.born := by rw [List.getElem?_map, hi]; rfl
          have a2 : (es.toList.map (·.born))[j]? = some x.born := by rw [List.getElem?_map, hj]; rfl
          obtain ⟨b1, c1⟩ := List.getElem?_eq_some_iff.1 a1
          obtain ⟨b2, c2⟩ := List.getElem?_eq_some_iff.1 a2
          rcases Nat.lt_or_gt_of_ne q with q' | q'
          · exact List.pairwise_iff_getElem.1 hnd j i b2 b1 q' (c2.trans c1.symm)
          · exact List.pairwise_iff_getElem.1 hnd i j b1 b2 q' (c1.trans c2.symm)
        simp [this, e2]
    · intro n' v' hv
      by_cases q : n' = n
      · subst q
        simp at hv
        refine ⟨{ e0 with key := ek n', val := v }, ?_, rfl, hv⟩
        refine List.mem_of_getElem? (i := j) ?_
        rw [Array.getElem?_toList, Array.getElem?_modify, if_pos rfl, hj]
        rfl
      · simp [q] at hv
        obtain ⟨x, hx, e1, e2⟩ := hE.all n' v' hv
        obtain ⟨i, hi⟩ := List.getElem?_of_mem hx
        rw [Array.getElem?_toList] at hi
        refine ⟨x, List.mem_of_getElem? (i := i) ?_, e1, e2⟩
        rw [Array.getElem?_toList, Array.getElem?_modify]
        have : ¬ j = i := by
          intro q2
          subst q2
          rw [hj] at hi
          cases hi
          rw [hke] at e1
          exact q (hE.ke.inj _ _ e1).symm
        simp only [this, if_false, hi]

/-- delete(m, n). -/
theorem MapK.drop {w : World} {m : Nat} {f : K → Option Value} (h : MapK d ek w m f) {t k e : TypeId} (ht : P.underlying t = some (.map k e)) (hk : P.underlying k = some d) (n : K) :
    ∃ w', (∀ ty, (Builtin.delete_ #[t, k] ty #[.map (some m), ek n]).run P w = .ok (.tuple #[]) w') ∧ MapK d ek w' m (fun j => if j = n then none else f j) ∧ Kept (fun j => j = m) w w' ∧ w'.heap.size = w.heap.size := by
  obtain ⟨es, c, hb, hE⟩ := h
  have hck := run_checkKey (P := P) (w := w) hk (k := ek n) (hE.ke.is n) es.isEmpty 9999
  rcases hE.find n with ⟨h1, h2, h3⟩ | ⟨j, e0, h1, hj, hke, h3⟩
  · refine ⟨setBlock w m (.map es c), ?_, ⟨_, _, heap_setBlock_same hb _, hE.ke, hE.stamped, ?_, ?_⟩, Kept.setBlockK hb _, by simp [Go.ChangeMaps.setBlock]⟩
    · intro ty
      simp [Builtin.delete_, run_underlying ht, Go.MapKept.run_getObj_map hb, hck, run_findKey hk h1, Go.MapKept.run_setObj_map _ hb, Result.andThen]
      rfl
    · intro x hx
      obtain ⟨n', e1, e2⟩ := hE.sound x hx
      refine ⟨n', e1, ?_⟩
      show (if n' = n then none else f n') = _
      rw [if_neg (fun q => h2 x hx (by rw [e1, q]))]; exact e2
    · intro n' v hv
      by_cases q : n' = n
      · simp [q] at hv
      · simp [q] at hv; exact hE.all n' v hv
  · have hnd := hE.stamped.2.2
    have at_ : ∀ i x, es.toList[i]? = some x → x.key = ek n → i = j := by
      intro i x hi hx
      have a1 : (es.toList.map (·.key))[i]? = some (ek n) := by rw [List.getElem?_map, hi]; simp [hx]
      have a2 : (es.toList.map (·.key))[j]? = some (ek n) := by rw [List.getElem?_map, Array.getElem?_toList, hj]; simp [hke]
      obtain ⟨b1, c1⟩ := List.getElem?_eq_some_iff.1 a1
      obtain ⟨b2, c2⟩ := List.getElem?_eq_some_iff.1 a2
      rcases Nat.lt_trichotomy i j with q | q | q
      · exact absurd (c1.trans c2.symm) (List.pairwise_iff_getElem.1 hnd i j b1 b2 q)
      · exact q
      · exact absurd (c2.trans c1.symm) (List.pairwise_iff_getElem.1 hnd j i b2 b1 q)
    have hin : j < es.size := by
      obtain ⟨b, _⟩ := Array.getElem?_eq_some_iff.1 hj
      exact b
    have her : (es.eraseIdxIfInBounds j).toList = es.toList.eraseIdx j := by
      unfold Array.eraseIdxIfInBounds
      rw [dif_pos hin, Array.toList_eraseIdx]
    refine ⟨setBlock w m (.map (es.eraseIdxIfInBounds j) c), ?_, ⟨_, _, heap_setBlock_same hb _, hE.ke, stamped_erase hE.stamped j, ?_, ?_⟩, Kept.setBlockK hb _, by simp [Go.ChangeMaps.setBlock]⟩
    · intro ty
      simp [Builtin.delete_, run_underlying ht, Go.MapKept.run_getObj_map hb, hck, run_findKey hk h1, Go.MapKept.run_setObj_map _ hb, Result.andThen]
      rfl
    · intro x hx
      rw [her] at hx
      obtain ⟨i, hij, hi⟩ := List.mem_eraseIdx_iff_getElem?.1 hx
      obtain ⟨n', e1, e2⟩ := hE.sound x (List.mem_of_getElem? hi)
      refine ⟨n', e1, ?_⟩
      show (if n' = n then none else f n') = _
      rw [if_neg (fun q => hij (at_ i x hi (by rw [e1, q])))]; exact e2
    · intro n' v hv
      by_cases q : n' = n
      · simp [q] at hv
      · simp [q] at hv
        obtain ⟨x, hx, e1, e2⟩ := hE.all n' v hv
        obtain ⟨i, hi⟩ := List.getElem?_of_mem hx
        refine ⟨x, ?_, e1, e2⟩
        rw [her]
        refine List.mem_eraseIdx_iff_getElem?.2 ⟨i, ?_, hi⟩
        intro q2
        subst q2
        rw [Array.getElem?_toList, hj] at hi
        cases hi
        exact q (hE.ke.inj _ _ (e1.symm.trans hke))
end
/-- The bytes of an entry's key. -/
def keyB (e : MapEntry) : List UInt8 := match e.key with | .string s => s.data.toList | _ => []
theorem keyE_enc : KeyE .string encStr := ⟨fun _ => trivial, fun a b h => by
  injection h with h
  injection h with h
  have := congrArg Array.toList h
  simpa using this⟩
abbrev MapS (w : World) (m : Nat) (f : List UInt8 → Option Value) : Prop := MapK .string encStr w m f
theorem EntsK.keyB {es : Array MapEntry} {clock : Nat} {f : List UInt8 → Option Value} (h : EntsK .string encStr es clock f) {e : MapEntry} (he : e ∈ es.toList) : e.key = encStr (YtpgghajkpjhieaaGreatDoor.keyB e) ∧ f (YtpgghajkpjhieaaGreatDoor.keyB e) = some e.val := by
  obtain ⟨n, h1, h2⟩ := h.sound e he
  have : YtpgghajkpjhieaaGreatDoor.keyB e = n := by simp [YtpgghajkpjhieaaGreatDoor.keyB, h1]
  rw [this]
  exact ⟨h1, h2⟩
theorem EntsK.nodupB {es : Array MapEntry} {clock : Nat} {f : List UInt8 → Option Value} (h : EntsK .string encStr es clock f) : (es.toList.map YtpgghajkpjhieaaGreatDoor.keyB).Nodup := by
  refine List.pairwise_map.2 (((stamped_iff es clock).1 h.stamped).2.2.imp_of_mem fun {p q} hp hq hne e => hne ?_)
  rw [(h.keyB hp).1, (h.keyB hq).1, e]
theorem EntsK.memB {es : Array MapEntry} {clock : Nat} {f : List UInt8 → Option Value} (h : EntsK .string encStr es clock f) (k : List UInt8) : k ∈ es.toList.map YtpgghajkpjhieaaGreatDoor.keyB ↔ (f k).isSome = true := by
  rw [List.mem_map]
  constructor
  · rintro ⟨e, he, rfl⟩
    rw [(h.keyB he).2]; rfl
  · intro hk
    obtain ⟨v, hv⟩ := Option.isSome_iff_exists.1 hk
    obtain ⟨e, he, h1, _⟩ := h.all k v hv
    refine ⟨e, he, ?_⟩
    simp [YtpgghajkpjhieaaGreatDoor.keyB, h1]
theorem nodup_len {α : Type} [DecidableEq α] : ∀ (l m : List α), l.Nodup → (∀ x ∈ l, x ∈ m) → l.length ≤ m.length
  | [], m, _, _ => Nat.zero_le _
  | x :: l, m, h, hs => by
    have hx := hs x (by simp)
    have h2 := List.nodup_cons.1 h
    have := nodup_len l (m.erase x) h2.2 (fun y hy => by
      have : y ≠ x := fun q => h2.1 (q ▸ hy)
      exact (List.mem_erase_of_ne this).2 (hs y (List.mem_cons_of_mem _ hy)))
    rw [List.length_erase_of_mem hx] at this
    have : 0 < m.length := List.length_pos_of_mem hx
    simp; omega
/-- maps.Keys' word. -/
theorem MapK.ownsS {P : Program} {w : World} {m : Nat} {f : List UInt8 → Option Value} (h : MapS w m f) {k : TypeId} (hk : P.underlying k = some .string) (ks : List (List UInt8)) (hN : ks.length ≤ maxLen) (hf : ∀ n, (f n).isSome = true → n ∈ ks) (hkl : ∀ n, (f n).isSome = true → n.length ≤ maxLen) :
    ∃ D : DataW Unit, w.ownsMap P k (fun _ => some (.nil, [])) m ks.length D ∧ (Go.strKeys D).Nodup ∧ ∀ x, x ∈ Go.strKeys D ↔ (f x).isSome = true := by
  obtain ⟨es, c, hb, hE⟩ := h
  have hsz : es.size ≤ ks.length := by
    have := nodup_len _ ks hE.nodupB (fun x hx => hf x ((hE.memB x).1 hx))
    simpa using this
  have hrd : ∀ x ∈ es.toList, Go.WideElems.rd P k (fun _ => some ((.nil : DataW Unit), ([] : List MemPlace))) x = some (.string (keyB x), .nil) := by
    intro x hx
    have h1 := hE.keyB hx
    have : keyOf P k x.key = some (.string (keyB x)) := by
      rw [h1.1]
      exact Go.WideMaps.keyOf_string_mk hk (by have := hkl _ ((hE.memB _).1 (List.mem_map_of_mem hx)); simpa [ByteArray.size] using this)
    simp [Go.WideElems.rd, this]
  have e : ((es.toList.map (Go.WideElems.rg P k (fun _ => some ((.nil : DataW Unit), ([] : List MemPlace))))).map fun p => Go.strOf p.1) = es.toList.map keyB := by
    rw [List.map_map]
    refine List.map_congr_left fun x hx => ?_
    show Go.strOf (Go.WideElems.rg P k _ x).1 = _
    rw [Go.WideElems.rg_of (hrd x hx)]
    rfl
  refine ⟨_, ⟨es, c, hb, ⟨Nat.le_trans hsz hN, hE.stamped, fun x hx => ⟨_, hrd x hx⟩⟩, hsz, rfl⟩, ?_⟩
  have hp := ((Go.WideShapes.sorted_perm (es.toList.map (Go.WideElems.rg P k (fun _ => some ((.nil : DataW Unit), ([] : List MemPlace)))))).map fun p => Go.strOf p.1)
  rw [e] at hp
  exact ⟨hp.nodup_iff.2 hE.nodupB, fun x => hp.mem_iff.trans (hE.memB x)⟩
end Go.Proofs.YtpgghajkpjhieaaGreatDoor
