/- Plain lemmas on worlds and blocks; no program in sight. -/
import Derived.WalkKit
import Derived.WalkSpells
import Derived.WalkLawsBesides
import Derived.Lib.Hide
import Derived.Deep.Draws
namespace Go.Proofs.YtlkgdpdnhnakoaaGreatDoor
open Go.RowKit

/-- w' is w, but for blocks that fp names, and new blocks. -/
structure Kept (fp : Nat → Prop) (w w' : World) : Prop where
  os : w'.os = w.os
  tape : w'.tape = w.tape
  output : w'.output = w.output
  size : w.heap.size ≤ w'.heap.size
  block : ∀ k, k < w.heap.size → ¬ fp k → w'.heap[k]? = w.heap[k]?

theorem Kept.refl (fp : Nat → Prop) (w : World) : Kept fp w w := ⟨rfl, rfl, rfl, Nat.le_refl _, fun _ _ _ => rfl⟩

theorem Kept.trans {fp : Nat → Prop} {a b c : World} (h : Kept fp a b) (k : Kept fp b c) : Kept fp a c :=
  ⟨k.os.trans h.os, k.tape.trans h.tape, k.output.trans h.output, Nat.le_trans h.size k.size, fun i hi hn => (k.block i (Nat.lt_of_lt_of_le hi h.size) hn).trans (h.block i hi hn)⟩

theorem Kept.mono {fp fp' : Nat → Prop} {w w' : World} (h : Kept fp w w') (hf : ∀ k, k < w.heap.size → fp k → fp' k) : Kept fp' w w' :=
  ⟨h.os, h.tape, h.output, h.size, fun i hi hn => h.block i hi (fun hk => hn (hf i hi hk))⟩

/-- A step whose own footprint lies in fp, or among what is new since a. -/
theorem Kept.step {fp fq : Nat → Prop} {a b c : World} (h : Kept fp a b) (k : Kept fq b c) (hf : ∀ i, i < a.heap.size → fq i → fp i) : Kept fp a c :=
  ⟨k.os.trans h.os, k.tape.trans h.tape, k.output.trans h.output, Nat.le_trans h.size k.size, fun i hi hn => (k.block i (Nat.lt_of_lt_of_le hi h.size) (fun hq => hn (hf i hi hq))).trans (h.block i hi hn)⟩

theorem Kept.drew {fp : Nat → Prop} {a w : World} (h : Kept fp a w) : Kept fp a w.drew := ⟨h.os, h.tape, h.output, h.size, h.block⟩
theorem Kept.drewN {fp : Nat → Prop} {a w : World} (h : Kept fp a w) (n : Nat) : Kept fp a (w.drewN n) := ⟨h.os, h.tape, h.output, h.size, h.block⟩

theorem Kept.alloc {fp : Nat → Prop} {a w : World} (h : Kept fp a w) (o : Obj) : Kept fp a (w.alloc o) :=
  h.step (fq := fun _ => False) ⟨rfl, rfl, rfl, by simp, fun k hk _ => Below.heap_alloc _ _ _ hk⟩ (fun _ _ h => h.elim)

theorem Kept.setCell {fp : Nat → Prop} {a w : World} (h : Kept fp a w) {p : Addr} (hp : p.block < a.heap.size → fp p.block) (u : Value) : Kept fp a (w.setCell p u) :=
  h.step (fq := fun k => k = p.block) ⟨rfl, rfl, rfl, by simp [World.setCell], fun k _ hk => Below.heap_setCell _ _ _ _ hk⟩ (fun i hi e => by subst e; exact hp hi)

/-- A store into the one block. -/
theorem Kept.setG {g : Nat} {a w : World} (h : Kept (fun k => k = g) a w) (i : Nat) (u : Value) : Kept (fun k => k = g) a (w.setCell ⟨g, i, none⟩ u) := h.setCell (fun _ => rfl) u
/-- A store into a block that is new since a. -/
theorem Kept.setNew {fp : Nat → Prop} {a w : World} (h : Kept fp a w) {p : Addr} (hp : a.heap.size ≤ p.block) (u : Value) : Kept fp a (w.setCell p u) :=
  h.setCell (fun hl => absurd hl (by omega)) u

theorem Kept.grown {fp : Nat → Prop} {a w w' : World} {row : Option Nat} (h : Kept fp a w) (hg : w.grownBy w' row) (hr : ∀ k, row = some k → k < a.heap.size → fp k) : Kept fp a w' :=
  h.step (fq := fun k => row = some k) ⟨hg.os, hg.tape, hg.output, hg.size, fun k hk hn => hg.block k hk (fun e => hn e.symm)⟩ (fun i hi e => hr i e hi)

theorem Kept.cell {fp : Nat → Prop} {w w' : World} (h : Kept fp w w') {p : Addr} (hp : p.block < w.heap.size) (hn : ¬ fp p.block) : w'.cell? p = w.cell? p := World.cell?_of_block (w := w) (h.block p.block hp hn)
theorem Kept.frozen {fp : Nat → Prop} {w w' : World} (h : Kept fp w w') {p : Addr} (hp : p.block < w.heap.size) (hn : ¬ fp p.block) : w'.frozen? p = w.frozen? p := World.frozen?_of_block (w := w) (h.block p.block hp hn)

theorem Kept.obj {fp : Nat → Prop} {w w' : World} (h : Kept fp w w') {b : Nat} {o : Obj} (hb : w.heap[b]? = some o) (hn : ¬ fp b) : w'.heap[b]? = some o := by
  rw [h.block b (lt_of_block hb) hn]; exact hb

theorem Kept.below {fp : Nat → Prop} {w w' : World} (h : Kept fp w w') {B : Nat} (hB : B ≤ w.heap.size) (hf : ∀ k, k < B → ¬ fp k) : Below B w w' :=
  ⟨h.os, h.tape, h.output, h.size, fun k hk => h.block k (by omega) (hf k hk)⟩

theorem Kept.of_below {w w' : World} (h : Below w.heap.size w w') : Kept (fun _ => False) w w' :=
  ⟨h.os, h.tape, h.output, h.size, fun k hk _ => h.block k hk⟩

/-- A block of cells that nothing froze. -/
abbrev Blk (w : World) (b : Nat) (cs : Array Value) (t : TypeId) : Prop := w.heap[b]? = some (.cells cs t (0, 0))

theorem Blk.cell {w : World} {b : Nat} {cs : Array Value} {t : TypeId} (h : Blk w b cs t) (i : Nat) {v : Value} (hv : cs[i]? = some v) : w.cell? ⟨b, i, none⟩ = some v := by
  simp [World.cell?, h, hv]
theorem Blk.free {w : World} {b : Nat} {cs : Array Value} {t : TypeId} (h : Blk w b cs t) (i : Nat) : w.frozen? ⟨b, i, none⟩ = false := by
  simp [World.frozen?, h]
theorem Blk.lt {w : World} {b : Nat} {cs : Array Value} {t : TypeId} (h : Blk w b cs t) : b < w.heap.size := lt_of_block h

theorem Blk.alloc {w : World} {b : Nat} {cs : Array Value} {t : TypeId} (h : Blk w b cs t) (o : Obj) : Blk (w.alloc o) b cs t := by
  have := h.lt; show (w.alloc o).heap[b]? = _; rw [Below.heap_alloc _ _ _ this]; exact h
theorem Blk.new (w : World) (cs : Array Value) (t : TypeId) : Blk (w.alloc (.cells cs t)) w.heap.size cs t := heap_alloc_new w _
theorem Blk.new' (w : World) (cs : Array Value) (t : TypeId) {b : Nat} (h : b = w.heap.size) : Blk (w.alloc (.cells cs t)) b cs t := by subst h; exact heap_alloc_new w _
theorem Blk.drew {w : World} {b : Nat} {cs : Array Value} {t : TypeId} (h : Blk w b cs t) : Blk w.drew b cs t := h
theorem Blk.drewN {w : World} {b : Nat} {cs : Array Value} {t : TypeId} (h : Blk w b cs t) (n : Nat) : Blk (w.drewN n) b cs t := h
theorem Blk.other {w : World} {b : Nat} {cs : Array Value} {t : TypeId} (h : Blk w b cs t) {p : Addr} (hp : b ≠ p.block) (v : Value) : Blk (w.setCell p v) b cs t := by
  show (w.setCell p v).heap[b]? = _; rw [Below.heap_setCell _ _ _ _ hp]; exact h
theorem Blk.set {w : World} {b : Nat} {cs : Array Value} {t : TypeId} (h : Blk w b cs t) (i : Nat) (v : Value) : Blk (w.setCell ⟨b, i, none⟩ v) b (cs.setIfInBounds i v) t := by
  have hlt := h.lt
  have h' : w.heap[b] = .cells cs t (0, 0) := by
    have h0 : w.heap[b]? = some (.cells cs t (0, 0)) := h
    simpa [Array.getElem?_eq_getElem hlt] using h0
  show (w.heap.modify b _)[b]? = _
  rw [Array.getElem?_eq_getElem (by simpa using hlt), Array.getElem_modify_self, h']
  rfl
theorem Blk.kept {w w' : World} {b : Nat} {cs : Array Value} {t : TypeId} {fp : Nat → Prop} (h : Blk w b cs t) (k : Kept fp w w') (hn : ¬ fp b) : Blk w' b cs t := k.obj h hn

theorem u64_wrap (x : Int) (h0 : 0 ≤ x) (h1 : x < 18446744073709551616) : IntKind.u64.wrap x = x := by
  rw [IntKind.wrap_u64]; exact Int.emod_eq_of_lt h0 h1
theorem ret_int {k : IntKind} {a b : Int} (h : a = b) : Ending.returned (.int k a) = .returned (.int k b) := by rw [h]

/-- Nothing that was there has turned. -/
abbrev Same (w w' : World) : Prop := Kept (fun _ => False) w w'

theorem Calls.boxes1 {P : Program} {f : FuncId} {args : Array Value} {w : World} {c1 : Array Value} {t1 : TypeId} {R : Ending → World → Prop}
    (h : ∀ W, Blk W w.heap.size c1 t1 → Same w W → W.heap.size = w.heap.size + 1 → Calls P f args W R) : Calls P f args (w.alloc (.cells c1 t1)) R :=
  h _ (Blk.new w _ _) ((Kept.refl _ w).alloc _) (by simp)
theorem Calls.boxes2 {P : Program} {f : FuncId} {args : Array Value} {w : World} {c1 c2 : Array Value} {t1 t2 : TypeId} {R : Ending → World → Prop}
    (h : ∀ W, Blk W w.heap.size c1 t1 → Blk W (w.heap.size + 1) c2 t2 → Same w W → W.heap.size = w.heap.size + 1 + 1 → Calls P f args W R) : Calls P f args ((w.alloc (.cells c1 t1)).alloc (.cells c2 t2)) R :=
  h _ ((Blk.new w _ _).alloc _) (Blk.new' _ _ _ (by simp)) (((Kept.refl _ w).alloc _).alloc _) (by simp)
theorem Calls.boxes3 {P : Program} {f : FuncId} {args : Array Value} {w : World} {c1 c2 c3 : Array Value} {t1 t2 t3 : TypeId} {R : Ending → World → Prop}
    (h : ∀ W, Blk W w.heap.size c1 t1 → Blk W (w.heap.size + 1) c2 t2 → Blk W (w.heap.size + 1 + 1) c3 t3 → Same w W → W.heap.size = w.heap.size + 1 + 1 + 1 → Calls P f args W R) :
    Calls P f args (((w.alloc (.cells c1 t1)).alloc (.cells c2 t2)).alloc (.cells c3 t3)) R :=
  h _ (((Blk.new w _ _).alloc _).alloc _) ((Blk.new' _ _ _ (by simp)).alloc _) (Blk.new' _ _ _ (by simp)) ((((Kept.refl _ w).alloc _).alloc _).alloc _) (by simp)

end Go.Proofs.YtlkgdpdnhnakoaaGreatDoor
