/- GSl: Sl, Sl2. -/
import Derived.Test.YtlkgdpdnhnakoaaGreatDoorBase
import Derived.OwnWalk
import Derived.Maps.AppendAt
import Derived.Laws.AppendOwnNone
import Derived.Deep.AppendLies
import Derived.Deep.RegionHeld3
namespace Go.Proofs.YtlkgdpdnhnakoaaGreatDoor
open Go.RowKit
/-- The elements of a slice that is read, as numbers. -/
def NatsAt (w : World) (k : IntKind) (a : Option Addr) (xs : List Nat) : Prop :=
  xs = [] ∨ ∃ b off, a = some ⟨b, off, none⟩ ∧ b < w.heap.size ∧ ∀ i x, xs[i]? = some x → w.cell? ⟨b, off + i, none⟩ = some (.int k ((x : Nat) : Int))
def IntsAt (w : World) (k : IntKind) (a : Option Addr) (xs : List Int) : Prop :=
  xs = [] ∨ ∃ b off, a = some ⟨b, off, none⟩ ∧ b < w.heap.size ∧ ∀ i x, xs[i]? = some x → w.cell? ⟨b, off + i, none⟩ = some (.int k x)
theorem NatsAt.kept {w w' : World} {k : IntKind} {a : Option Addr} {xs : List Nat} {fp : Nat → Prop} (h : NatsAt w k a xs) (hk : Kept fp w w') (hn : ∀ x, a = some x → ¬ fp x.block) : NatsAt w' k a xs := by
  rcases h with h | ⟨b, off, rfl, hb, hc⟩
  · exact .inl h
  · exact .inr ⟨b, off, rfl, Nat.lt_of_lt_of_le hb hk.size, fun i x hx => (hk.cell (p := ⟨b, off + i, none⟩) hb (hn ⟨b, off, none⟩ rfl)).trans (hc i x hx)⟩
theorem NatsAt.same {w w' : World} {k : IntKind} {a : Option Addr} {xs : List Nat} (h : NatsAt w k a xs) (hk : Kept (fun _ => False) w w') : NatsAt w' k a xs := h.kept hk (fun _ _ h => h)
theorem IntsAt.kept {w w' : World} {k : IntKind} {a : Option Addr} {xs : List Int} {fp : Nat → Prop} (h : IntsAt w k a xs) (hk : Kept fp w w') (hn : ∀ x, a = some x → ¬ fp x.block) : IntsAt w' k a xs := by
  rcases h with h | ⟨b, off, rfl, hb, hc⟩
  · exact .inl h
  · exact .inr ⟨b, off, rfl, Nat.lt_of_lt_of_le hb hk.size, fun i x hx => (hk.cell (p := ⟨b, off + i, none⟩) hb (hn ⟨b, off, none⟩ rfl)).trans (hc i x hx)⟩
theorem IntsAt.same {w w' : World} {k : IntKind} {a : Option Addr} {xs : List Int} (h : IntsAt w k a xs) (hk : Kept (fun _ => False) w w') : IntsAt w' k a xs := h.kept hk (fun _ _ h => h)
/-- One element, where there is one. -/
theorem NatsAt.at {w : World} {k : IntKind} {a : Option Addr} {xs : List Nat} (h : NatsAt w k a xs) {i : Nat} (hi : i < xs.length) :
    ∃ b off x, a = some ⟨b, off, none⟩ ∧ b < w.heap.size ∧ xs[i]? = some x ∧ w.cell? ⟨b, off + i, none⟩ = some (.int k ((x : Nat) : Int)) := by
  rcases h with rfl | ⟨b, off, rfl, hb, hc⟩
  · simp at hi
  · exact ⟨b, off, xs[i], rfl, hb, List.getElem?_eq_getElem hi, hc i _ (List.getElem?_eq_getElem hi)⟩
theorem IntsAt.at {w : World} {k : IntKind} {a : Option Addr} {xs : List Int} (h : IntsAt w k a xs) {i : Nat} (hi : i < xs.length) :
    ∃ b off x, a = some ⟨b, off, none⟩ ∧ b < w.heap.size ∧ xs[i]? = some x ∧ w.cell? ⟨b, off + i, none⟩ = some (.int k x) := by
  rcases h with rfl | ⟨b, off, rfl, hb, hc⟩
  · simp at hi
  · exact ⟨b, off, xs[i], rfl, hb, List.getElem?_eq_getElem hi, hc i _ (List.getElem?_eq_getElem hi)⟩
/-- A piece of a slice. -/
theorem NatsAt.drop {w : World} {k : IntKind} {b off : Nat} {xs : List Nat} (h : NatsAt w k (some ⟨b, off, none⟩) xs) (n : Nat) : NatsAt w k (some ⟨b, off + n, none⟩) (xs.drop n) := by
  rcases h with rfl | ⟨b', off', e, hb, hc⟩
  · exact .inl (by simp)
  · simp only [Option.some.injEq, Addr.mk.injEq, and_true] at e
    obtain ⟨rfl, rfl⟩ := e
    exact .inr ⟨b, off + n, rfl, hb, fun i x hx => by rw [List.getElem?_drop] at hx; rw [Nat.add_assoc]; exact hc _ x hx⟩
theorem NatsAt.take {w : World} {k : IntKind} {a : Option Addr} {xs : List Nat} (h : NatsAt w k a xs) (n : Nat) : NatsAt w k a (xs.take n) := by
  rcases h with rfl | ⟨b', off', rfl, hb, hc⟩
  · exact .inl (by simp)
  · exact .inr ⟨b', off', rfl, hb, fun i x hx => hc i x (by rw [List.getElem?_take] at hx; split at hx; exact hx; cases hx)⟩
/-- A slice of numbers of the call's own. -/
def OwnN (w : World) (base : Nat) (e : TypeId) (k : IntKind) (v : Value) (xs : List Nat) : Prop := w.ownsRow base e 1 v xs.length (xs.map fun x => Value.int k ((x : Nat) : Int))
def OwnZ (w : World) (base : Nat) (e : TypeId) (k : IntKind) (v : Value) (xs : List Int) : Prop := w.ownsRow base e 1 v xs.length (xs.map (Value.int k))
theorem ownsRow_kept {w w' : World} {base : Nat} {e : TypeId} {size : Nat} {v : Value} {n : Nat} {xs : List Value} {fp : Nat → Prop} (h : w.ownsRow base e size v n xs) (hk : Kept fp w w') (hn : ∀ g, v.ownBlock = some g → ¬ fp g) : w'.ownsRow base e size v n xs := by
  refine ⟨h.1, ?_⟩
  rcases h.2 with h2 | ⟨g, cap, cur, rfl, hb, hg, rest⟩
  · exact .inl h2
  · exact .inr ⟨g, cap, cur, rfl, hb, hk.obj hg (hn g rfl), rest⟩
theorem ownsRow_base {w : World} {base base' : Nat} {e : TypeId} {size : Nat} {v : Value} {n : Nat} {xs : List Value} (h : w.ownsRow base e size v n xs) (hb : base' ≤ base) : w.ownsRow base' e size v n xs := by
  refine ⟨h.1, ?_⟩
  rcases h.2 with h2 | ⟨g, cap, cur, rfl, hbg, rest⟩
  · exact .inl h2
  · exact .inr ⟨g, cap, cur, rfl, Nat.le_trans hb hbg, rest⟩
theorem OwnN.kept {w w' : World} {base : Nat} {e : TypeId} {k : IntKind} {v : Value} {xs : List Nat} {fp : Nat → Prop} (h : OwnN w base e k v xs) (hk : Kept fp w w') (hn : ∀ g, v.ownBlock = some g → ¬ fp g) : OwnN w' base e k v xs := ownsRow_kept h hk hn
theorem OwnN.same {w w' : World} {base : Nat} {e : TypeId} {k : IntKind} {v : Value} {xs : List Nat} (h : OwnN w base e k v xs) (hk : Kept (fun _ => False) w w') : OwnN w' base e k v xs := ownsRow_kept h hk (fun _ _ h => h)
theorem OwnN.base {w : World} {base base' : Nat} {e : TypeId} {k : IntKind} {v : Value} {xs : List Nat} (h : OwnN w base e k v xs) (hb : base' ≤ base) : OwnN w base' e k v xs := ownsRow_base h hb
theorem OwnZ.kept {w w' : World} {base : Nat} {e : TypeId} {k : IntKind} {v : Value} {xs : List Int} {fp : Nat → Prop} (h : OwnZ w base e k v xs) (hk : Kept fp w w') (hn : ∀ g, v.ownBlock = some g → ¬ fp g) : OwnZ w' base e k v xs := ownsRow_kept h hk hn
theorem OwnZ.same {w w' : World} {base : Nat} {e : TypeId} {k : IntKind} {v : Value} {xs : List Int} (h : OwnZ w base e k v xs) (hk : Kept (fun _ => False) w w') : OwnZ w' base e k v xs := ownsRow_kept h hk (fun _ _ h => h)
theorem OwnZ.base {w : World} {base base' : Nat} {e : TypeId} {k : IntKind} {v : Value} {xs : List Int} (h : OwnZ w base e k v xs) (hb : base' ≤ base) : OwnZ w base' e k v xs := ownsRow_base h hb
/-- What is owned can be read. -/
theorem OwnN.read {w : World} {base : Nat} {e : TypeId} {k : IntKind} {v : Value} {xs : List Nat} (h : OwnN w base e k v xs) :
    ∃ a cap, v = .slice a xs.length cap ∧ xs.length ≤ cap ∧ cap ≤ maxLen ∧ (a = none → cap = 0) ∧ NatsAt w k a xs ∧ ∀ x, a = some x → base ≤ x.block ∧ x.block < w.heap.size ∧ x.off = 0 ∧ x.spot = none := by
  have hs := h
  rcases h.2 with ⟨rfl, h0⟩ | ⟨g, cap, cur, rfl, hb, hg, hn, hm, hcs, htake⟩
  · have : xs = [] := List.eq_nil_of_length_eq_zero h0
    subst this
    exact ⟨none, 0, rfl, Nat.le_refl _, Nat.zero_le _, fun _ => rfl, .inl rfl, by simp⟩
  · refine ⟨some ⟨g, 0, none⟩, cap, rfl, hn, hm, by simp, ?_, ?_⟩
    · refine .inr ⟨g, 0, rfl, lt_of_block hg, fun i x hx => ?_⟩
      have hi : i < xs.length := (List.getElem?_eq_some_iff.1 hx).1
      have := World.ownsRow.cellAt hs i (by omega)
      rw [Nat.zero_add, this, List.getElem?_map, hx]
      rfl
    · intro x hx
      simp at hx
      subst hx
      exact ⟨hb, lt_of_block hg, rfl, rfl⟩
theorem OwnZ.read {w : World} {base : Nat} {e : TypeId} {k : IntKind} {v : Value} {xs : List Int} (h : OwnZ w base e k v xs) :
    ∃ a cap, v = .slice a xs.length cap ∧ xs.length ≤ cap ∧ cap ≤ maxLen ∧ (a = none → cap = 0) ∧ IntsAt w k a xs ∧ ∀ x, a = some x → base ≤ x.block ∧ x.block < w.heap.size ∧ x.off = 0 ∧ x.spot = none := by
  have hs := h
  rcases h.2 with ⟨rfl, h0⟩ | ⟨g, cap, cur, rfl, hb, hg, hn, hm, hcs, htake⟩
  · have : xs = [] := List.eq_nil_of_length_eq_zero h0
    subst this
    exact ⟨none, 0, rfl, Nat.le_refl _, Nat.zero_le _, fun _ => rfl, .inl rfl, by simp⟩
  · refine ⟨some ⟨g, 0, none⟩, cap, rfl, hn, hm, by simp, ?_, ?_⟩
    · refine .inr ⟨g, 0, rfl, lt_of_block hg, fun i x hx => ?_⟩
      have hi : i < xs.length := (List.getElem?_eq_some_iff.1 hx).1
      have := World.ownsRow.cellAt hs i (by omega)
      rw [Nat.zero_add, this, List.getElem?_map, hx]
      rfl
    · intro x hx
      simp at hx
      subst hx
      exact ⟨hb, lt_of_block hg, rfl, rfl⟩
theorem OwnN.made {w : World} {base : Nat} {e : TypeId} {k : IntKind} {v : Value} {n : Nat} (h : w.ownsRow base e 1 v n (madeCells (Value.int k 0).cells (n * 1)).toList) : OwnN w base e k v (List.replicate n 0) := by
  rw [show (Value.int k 0).cells = #[Value.int k 0] from rfl, Nat.mul_one, toList_madeCells_one] at h
  unfold OwnN
  rw [List.length_replicate, List.map_replicate]
  exact h
theorem OwnZ.made {w : World} {base : Nat} {e : TypeId} {k : IntKind} {v : Value} {n : Nat} (h : w.ownsRow base e 1 v n (madeCells (Value.int k 0).cells (n * 1)).toList) : OwnZ w base e k v (List.replicate n 0) := by
  rw [show (Value.int k 0).cells = #[Value.int k 0] from rfl, Nat.mul_one, toList_madeCells_one] at h
  unfold OwnZ
  rw [List.length_replicate, List.map_replicate]
  exact h
/-- A store into what is owned. -/
theorem OwnN.set {w : World} {base : Nat} {e : TypeId} {k : IntKind} {g n cap : Nat} {xs : List Nat} (h : OwnN w base e k (.slice (some ⟨g, 0, none⟩) n cap) xs) (hn : xs.length = n) (j : Nat) (u : Nat) :
    OwnN (w.setCell ⟨g, j, none⟩ (.int k ((u : Nat) : Int))) base e k (.slice (some ⟨g, 0, none⟩) n cap) (xs.set j u) := by
  subst hn
  have := (World.ownsRow.stored h j (.int k ((u : Nat) : Int))).1
  unfold OwnN
  rw [List.length_set, List.map_set]
  exact this
theorem OwnZ.set {w : World} {base : Nat} {e : TypeId} {k : IntKind} {g n cap : Nat} {xs : List Int} (h : OwnZ w base e k (.slice (some ⟨g, 0, none⟩) n cap) xs) (hn : xs.length = n) (j : Nat) (u : Int) :
    OwnZ (w.setCell ⟨g, j, none⟩ (.int k u)) base e k (.slice (some ⟨g, 0, none⟩) n cap) (xs.set j u) := by
  subst hn
  have := (World.ownsRow.stored h j (.int k u)).1
  unfold OwnZ
  rw [List.length_set, List.map_set]
  exact this
theorem OwnN.cell {w : World} {base : Nat} {e : TypeId} {k : IntKind} {g n cap : Nat} {xs : List Nat} (h : OwnN w base e k (.slice (some ⟨g, 0, none⟩) n cap) xs) (hn : xs.length = n) {j x : Nat} (hx : xs[j]? = some x) : w.cell? ⟨g, j, none⟩ = some (.int k ((x : Nat) : Int)) := by
  subst hn
  have hj : j < xs.length := (List.getElem?_eq_some_iff.1 hx).1
  rw [World.ownsRow.cellAt h j (by omega), List.getElem?_map, hx]; rfl
theorem OwnZ.cell {w : World} {base : Nat} {e : TypeId} {k : IntKind} {g n cap : Nat} {xs : List Int} (h : OwnZ w base e k (.slice (some ⟨g, 0, none⟩) n cap) xs) (hn : xs.length = n) {j : Nat} {x : Int} (hx : xs[j]? = some x) : w.cell? ⟨g, j, none⟩ = some (.int k x) := by
  subst hn
  have hj : j < xs.length := (List.getElem?_eq_some_iff.1 hx).1
  rw [World.ownsRow.cellAt h j (by omega), List.getElem?_map, hx]; rfl
theorem OwnN.free {w : World} {base : Nat} {e : TypeId} {k : IntKind} {g n cap : Nat} {xs : List Nat} (h : OwnN w base e k (.slice (some ⟨g, 0, none⟩) n cap) xs) (hn : xs.length = n) (j : Nat) : w.frozen? ⟨g, j, none⟩ = false := by
  subst hn; exact World.ownsRow.frozenAt h j
theorem OwnZ.free {w : World} {base : Nat} {e : TypeId} {k : IntKind} {g n cap : Nat} {xs : List Int} (h : OwnZ w base e k (.slice (some ⟨g, 0, none⟩) n cap) xs) (hn : xs.length = n) (j : Nat) : w.frozen? ⟨g, j, none⟩ = false := by
  subst hn; exact World.ownsRow.frozenAt h j
theorem OwnN.lt {w : World} {base : Nat} {e : TypeId} {k : IntKind} {g n cap : Nat} {xs : List Nat} (h : OwnN w base e k (.slice (some ⟨g, 0, none⟩) n cap) xs) : base ≤ g ∧ g < w.heap.size := World.ownsRow.lt h g rfl
theorem OwnZ.lt {w : World} {base : Nat} {e : TypeId} {k : IntKind} {g n cap : Nat} {xs : List Int} (h : OwnZ w base e k (.slice (some ⟨g, 0, none⟩) n cap) xs) : base ≤ g ∧ g < w.heap.size := World.ownsRow.lt h g rfl
theorem OwnN.nats {w : World} {base : Nat} {e : TypeId} {k : IntKind} {g n cap : Nat} {xs : List Nat} (h : OwnN w base e k (.slice (some ⟨g, 0, none⟩) n cap) xs) : NatsAt w k (some ⟨g, 0, none⟩) xs := by
  obtain ⟨a, c, e, _, _, _, hat, _⟩ := h.read
  simp only [Value.slice.injEq] at e
  rw [e.1]; exact hat
theorem OwnN.len {w : World} {base : Nat} {e : TypeId} {k : IntKind} {a : Option Addr} {n cap : Nat} {xs : List Nat} (h : OwnN w base e k (.slice a n cap) xs) : n = xs.length ∧ xs.length ≤ cap ∧ cap ≤ maxLen := by
  obtain ⟨a, c, e, h1, h2, _⟩ := h.read
  simp only [Value.slice.injEq] at e
  obtain ⟨_, rfl, rfl⟩ := e
  exact ⟨rfl, h1, h2⟩
theorem OwnZ.len {w : World} {base : Nat} {e : TypeId} {k : IntKind} {a : Option Addr} {n cap : Nat} {xs : List Int} (h : OwnZ w base e k (.slice a n cap) xs) : n = xs.length ∧ xs.length ≤ cap ∧ cap ≤ maxLen := by
  obtain ⟨a, c, e, h1, h2, _⟩ := h.read
  simp only [Value.slice.injEq] at e
  obtain ⟨_, rfl, rfl⟩ := e
  exact ⟨rfl, h1, h2⟩
/-- Behind a law on make or append. -/
theorem Kept.grownNew {fp : Nat → Prop} {a w w' : World} {row : Option Nat} (h : Kept fp a w) (hg : w.grownBy w' row) (hr : ∀ k, row = some k → a.heap.size ≤ k) : Kept fp a w' :=
  h.grown hg (fun k hk hlt => absurd (hr k hk) (by omega))
/-- append on a slice of the call's own, of whatever is read. -/
theorem wpList_appendN {P : Program} {w : World} {ops : Array Oper} {rest : List Oper} {o : Oper} {a : Act} {Q : Exit → Act → World → Prop} (hgd : o.guard = none) (s x : Operand) (t : TypeId)
    (ho : o.op = .call { callee := .builtin .append, args := #[s, x], argTypes := #[t, t] })
    (base : Nat) (e : TypeId) (k : IntKind) (bytes : Nat) (ht : P.underlying t = some (.slice e)) (hi : (P.info? e).map (fun i => (i.zero, i.size, i.bytes)) = some (some (.int k 0), 1, bytes)) (hby : 1 ≤ bytes)
    (v : Value) (xs : List Nat) (hs : a.eval s = v) (hown : OwnN w base e k v xs)
    (ao : Option Addr) (m c : Nat) (ys : List Nat) (hx : a.eval x = .slice ao m c) (hm : m = ys.length) (hat : NatsAt w k ao ys) (hnil : ao = none → c = 0)
    (hbytes : (xs.length + ys.length) * bytes ≤ 140737488355328) (hbase : base ≤ w.heap.size)
    (h : ∀ v' w', OwnN w' base e k v' (xs ++ ys) → w.grownBy w' v.ownBlock → (v'.ownBlock = v.ownBlock ∨ v'.ownBlock = some w.heap.size) → wpList P ops Q rest (a.put o.dst v') w') : wpList P ops Q (o :: rest) a w := by
  obtain ⟨i, hi, hz0, hz1, hz2⟩ := info_parts hi
  subst hm
  have hlen : xs.length + ys.length ≤ maxLen := by
    have : (xs.length + ys.length) * 1 ≤ (xs.length + ys.length) * bytes := Nat.mul_le_mul_left _ hby
    unfold maxLen; omega
  cases ao with
  | none =>
    obtain rfl := hnil rfl
    have : ys = [] := by rcases hat with h | ⟨_, _, h, _⟩; exact h; cases h
    subst this
    refine wpList_append_own_none hgd s x t ho base e i 1 ht hi v xs.length _ hs hown hx ?_
    refine h v w (by rw [List.append_nil]; exact hown) ⟨rfl, rfl, rfl, Nat.le_refl _, fun _ _ _ => rfl⟩ (.inl rfl)
  | some ad =>
    refine wpList_append_own_at (w := w) hgd s x t ho base e i (.int k 0) 1 bytes ht hi hz0 hz1 hz2 rfl (by decide) v xs.length _ hs hown ad ys.length c (ys.map (fun x : Nat => Value.int k ((x : Nat) : Int))) hx (by simp) ?_ ?_ hlen hbytes hbase ?_
    · intro j u hu
      rw [List.getElem?_map] at hu
      rcases hat with rfl | ⟨b, off, e, hb, hc⟩
      · simp at hu
      · simp only [Option.some.injEq] at e
        subst e
        obtain ⟨x, hx, rfl⟩ := Option.map_eq_some_iff.1 hu
        have := hc j x hx
        unfold Addr.add
        split
        · subst j; simpa using this
        · exact this
    · intro u hu
      obtain ⟨x, _, rfl⟩ := List.mem_map.1 hu
      rfl
    · intro v' w' h1 h2 _ h4
      refine h v' w' ?_ h2 h4
      unfold OwnN
      rw [List.length_append, List.map_append]
      exact h1
/-- A block of the call's own, owned whole. -/
theorem OwnN.blk {w : World} {base g n : Nat} {e : TypeId} {k : IntKind} {xs : List Nat} (h : Blk w g (xs.map fun x => Value.int k ((x : Nat) : Int)).toArray e) (hn : n = xs.length) (hb : base ≤ g) (hm : xs.length ≤ maxLen) : OwnN w base e k (.slice (some ⟨g, 0, none⟩) n n) xs := by
  subst hn
  exact ⟨by simp, .inr ⟨g, xs.length, _, rfl, hb, h, Nat.le_refl _, hm, by simp, by simp [List.take_of_length_le]⟩⟩
theorem OwnZ.blk {w : World} {base g n : Nat} {e : TypeId} {k : IntKind} {xs : List Int} (h : Blk w g (xs.map (Value.int k)).toArray e) (hn : n = xs.length) (hb : base ≤ g) (hm : xs.length ≤ maxLen) : OwnZ w base e k (.slice (some ⟨g, 0, none⟩) n n) xs := by
  subst hn
  exact ⟨by simp, .inr ⟨g, xs.length, _, rfl, hb, h, Nat.le_refl _, hm, by simp, by simp [List.take_of_length_le]⟩⟩
end Go.Proofs.YtlkgdpdnhnakoaaGreatDoor
namespace Go.Proofs.YtlkgdpdnhnakoaaGreatDoor
open Go.RowKit
theorem run_appendN {P : Program} (w : World) (t ty : TypeId) (base : Nat) (e : TypeId) (k : IntKind) (bytes : Nat) (ht : P.underlying t = some (.slice e)) (hi : (P.info? e).map (fun i => (i.zero, i.size, i.bytes)) = some (some (.int k 0), 1, bytes)) (hby : 1 ≤ bytes)
    (v : Value) (xs : List Nat) (hown : OwnN w base e k v xs) (ao : Option Addr) (m c : Nat) (ys : List Nat) (hm : m = ys.length) (hat : NatsAt w k ao ys) (hnil : ao = none → c = 0)
    (hbytes : (xs.length + ys.length) * bytes ≤ 140737488355328) (hbase : base ≤ w.heap.size) :
    ∃ v' w', (Builtin.append_ #[t, t] ty #[v, .slice ao m c]).run P w = .ok v' w' ∧ OwnN w' base e k v' (xs ++ ys) ∧ w.grownBy w' v.ownBlock ∧ (v'.ownBlock = v.ownBlock ∨ v'.ownBlock = some w.heap.size) := by
  obtain ⟨i, hi, hz0, hz1, hz2⟩ := info_parts hi
  subst hm
  have hlen : xs.length + ys.length ≤ maxLen := by
    have : (xs.length + ys.length) * 1 ≤ (xs.length + ys.length) * bytes := Nat.mul_le_mul_left _ hby
    unfold maxLen; omega
  cases ao with
  | none =>
    obtain rfl := hnil rfl
    have : ys = [] := by rcases hat with h | ⟨_, _, h, _⟩; exact h; cases h
    subst this
    exact ⟨v, w, run_append_owned_none (P := P) (w := w) base t ty e i 1 ht hi v _ _ hown, by rw [List.append_nil]; exact hown, World.grownBy.refl w _, .inl rfl⟩
  | some ad =>
    have hc : ∀ j u, (ys.map (fun x : Nat => Value.int k ((x : Nat) : Int)))[j]? = some u → w.cell? (ad.add j) = some u := by
      intro j u hu
      rw [List.getElem?_map] at hu
      rcases hat with rfl | ⟨b, off, e, hb, hc⟩
      · simp at hu
      · simp only [Option.some.injEq] at e
        subst e
        obtain ⟨x, hx, rfl⟩ := Option.map_eq_some_iff.1 hu
        have := hc j x hx
        unfold Addr.add
        split
        · subst j; simpa using this
        · exact this
    have h1 : ∀ u ∈ ys.map (fun x : Nat => Value.int k ((x : Nat) : Int)), u.oneCell' = true := by
      intro u hu
      obtain ⟨x, _, rfl⟩ := List.mem_map.1 hu
      rfl
    obtain ⟨v', w', hrun, h2, h3, _, h5⟩ := run_append_own_at (P := P) w base t ty e i (.int k 0) 1 bytes ht hi hz0 hz1 hz2 rfl (by decide) v xs.length _ hown ad ys.length c _ (by simp) hc h1 hlen hbytes hbase
    refine ⟨v', w', hrun, ?_, h3, h5⟩
    unfold OwnN
    rw [List.length_append, List.map_append]
    exact h2
end Go.Proofs.YtlkgdpdnhnakoaaGreatDoor
