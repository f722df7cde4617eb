/- append on a slice of the call's own, in a region that draws its order. -/
import Derived.Test.YtlkgdpdnhnakoaaGreatDoorSl
import Derived.Deep.AppendLies
import Derived.Deep.RegionHeld3
namespace Go.Proofs.YtlkgdpdnhnakoaaGreatDoor
open Go.RowKit

theorem run_appendN {P : Program} (w : World) (t ty : TypeId) (base : Nat) (e : TypeId) (k : IntKind) (bytes : Nat) (ht : P.underlying t = some (.slice e)) (hi : (P.info? e).map (fun i => (i.zero, i.size, i.bytes)) = some (some (.int k 0), 1, bytes)) (hby : 1 ≤ bytes)
    (v : Value) (xs : List Nat) (hown : OwnN w base e k v xs) (ao : Option Addr) (m c : Nat) (ys : List Nat) (hm : m = ys.length) (hat : NatsAt w k ao ys) (hnil : ao = none → c = 0)
    (hbytes : (xs.length + ys.length) * bytes ≤ 140737488355328) (hbase : base ≤ w.heap.size) :
    ∃ v' w', (Builtin.append_ #[t, t] ty #[v, .slice ao m c]).run P w = .ok v' w' ∧ OwnN w' base e k v' (xs ++ ys) ∧ w.grownBy w' v.ownBlock ∧ (v'.ownBlock = v.ownBlock ∨ v'.ownBlock = some w.heap.size) := by
  obtain ⟨i, hi, hz0, hz1, hz2⟩ := info_parts hi
  subst hm
  have hlen : xs.length + ys.length ≤ maxLen := by
    have : (xs.length + ys.length) * 1 ≤ (xs.length + ys.length) * bytes := Nat.mul_le_mul_left _ hby
    unfold maxLen; omega
  cases ao with
  | none =>
    obtain rfl := hnil rfl
    have : ys = [] := by rcases hat with h | ⟨_, _, h, _⟩; exact h; cases h
    subst this
    exact ⟨v, w, run_append_owned_none (P := P) (w := w) base t ty e i 1 ht hi v _ _ hown, by rw [List.append_nil]; exact hown, World.grownBy.refl w _, .inl rfl⟩
  | some ad =>
    have hc : ∀ j u, (ys.map (fun x : Nat => Value.int k ((x : Nat) : Int)))[j]? = some u → w.cell? (ad.add j) = some u := by
      intro j u hu
      rw [List.getElem?_map] at hu
      rcases hat with rfl | ⟨b, off, e, hb, hc⟩
      · simp at hu
      · simp only [Option.some.injEq] at e
        subst e
        obtain ⟨x, hx, rfl⟩ := Option.map_eq_some_iff.1 hu
        have := hc j x hx
        unfold Addr.add
        split
        · subst j; simpa using this
        · exact this
    have h1 : ∀ u ∈ ys.map (fun x : Nat => Value.int k ((x : Nat) : Int)), u.oneCell' = true := by
      intro u hu
      obtain ⟨x, _, rfl⟩ := List.mem_map.1 hu
      rfl
    obtain ⟨v', w', hrun, h2, h3, _, h5⟩ := run_append_own_at (P := P) w base t ty e i (.int k 0) 1 bytes ht hi hz0 hz1 hz2 rfl (by decide) v xs.length _ hown ad ys.length c _ (by simp) hc h1 hlen hbytes hbase
    refine ⟨v', w', hrun, ?_, h3, h5⟩
    unfold OwnN
    rw [List.length_append, List.map_append]
    exact h2

theorem step_appendN {P : Program} {w : World} {ops : Array Oper} {o : Oper} {a : Act} {K : Act → World → Prop} {Q : Exit → Act → World → Prop} {E : Prop} (hgd : o.guard = none) (s x : Operand) (t : TypeId)
    (ho : o.op = .call { callee := .builtin .append, args := #[s, x], argTypes := #[t, t] })
    (base : Nat) (e : TypeId) (k : IntKind) (bytes : Nat) (ht : P.underlying t = some (.slice e)) (hi : (P.info? e).map (fun i => (i.zero, i.size, i.bytes)) = some (some (.int k 0), 1, bytes)) (hby : 1 ≤ bytes)
    (v : Value) (xs : List Nat) (hs : a.eval s = v) (hown : OwnN w base e k v xs) (ao : Option Addr) (m c : Nat) (ys : List Nat) (hx : a.eval x = .slice ao m c) (hm : m = ys.length) (hat : NatsAt w k ao ys) (hnil : ao = none → c = 0)
    (hbytes : (xs.length + ys.length) * bytes ≤ 140737488355328) (hbase : base ≤ w.heap.size)
    (h : ∀ v' w', OwnN w' base e k v' (xs ++ ys) → w.grownBy w' v.ownBlock → (v'.ownBlock = v.ownBlock ∨ v'.ownBlock = some w.heap.size) → K (a.put o.dst v') w') :
    if Region.wanted o (yielded ops a.tmps) = true then Oper.wp P o a w K Q else E := by
  have hw : Region.wanted o (yielded ops a.tmps) = true := by simp [Region.wanted, hgd]
  rw [if_pos hw]
  obtain ⟨v', w', hrun, h2, h3, h5⟩ := run_appendN (P := P) w t o.type base e k bytes ht hi hby v xs hown ao m c ys hm hat hnil hbytes hbase
  unfold Oper.wp execOp
  simp only [ho, resolve, invoke, builtin, Sem.run_bind, Sem.run_pure, Result.andThen_ok, List.map_toArray, List.map_cons, List.map_nil, hs, hx, hrun]
  exact h v' w' h2 h3 h5

end Go.Proofs.YtlkgdpdnhnakoaaGreatDoor
