/- What a reading says of cells, over any program. -/
import Derived.Test.YtlkgdpdnhnakoaaGreatDoorBase
import Derived.ProofKit
import Derived.OpenShut
import Derived.Deep.Slices
namespace Go.Proofs.YtlkgdpdnhnakoaaGreatDoor
open Go.ChangeShapes Go.WideShapes Go.ChangeAt Go.RowKit

theorem addr_add (b off n : Nat) : (⟨b, off, none⟩ : Addr).add n = ⟨b, off + n, none⟩ := by
  unfold Addr.add
  split <;> simp_all

section
variable {H : Type} {enc : TypeId × Value → H} {P : Program} {w : World} {base : Nat} {spare : Nat → Bool} {held : Bool}

/-- A slice: it has no elements, or they lie in a block side by side, each with its own reading. -/
theorem slice_read {t e : TypeId} {C : Nat} {fuel : Nat} {a : Option Addr} {len cap : Nat} {x : DataW H × List MemPlace} (ht : P.underlying t = some (.slice e)) (hC : P.cellsOf e = C) (hpos : 0 < C)
    (h : DataW.trod enc P w base spare held fuel t [.slice a len cap] = some x) :
    len ≤ cap ∧ cap ≤ maxLen ∧ (a = none → len = 0 ∧ cap = 0) ∧ (len = 0 ∨ ∃ b off, a = some ⟨b, off, none⟩ ∧ b < w.heap.size ∧ ∀ i, i < len → ∃ (n : Nat) (cs : List Value) (y : DataW H × List MemPlace), cs.length = C ∧ (∀ j, j < C → w.cell? ⟨b, off + i * C + j, none⟩ = cs[j]?) ∧
      DataW.trod enc P w base spare held n e cs = some y) := by
  rcases Deep.open_slice ht h with ⟨hcs, _⟩ | ⟨x, l, c, m, n, D, Pl, hcs, _, hl, hm, hmm, _, hi⟩
  · simp at hcs
    obtain ⟨rfl, rfl, rfl⟩ := hcs
    exact ⟨Nat.le_refl _, Nat.zero_le _, fun _ => ⟨rfl, rfl⟩, .inl rfl⟩
  · simp at hcs
    obtain ⟨rfl, rfl, rfl⟩ := hcs
    refine ⟨hl, hm, fun h => by simp at h, ?_⟩
    rw [hC] at hi
    have hle : len ≤ m := by rw [hmm]; split <;> omega
    rcases Nat.eq_zero_or_pos len with h0 | hp
    · exact .inl h0
    · right
      have each : ∀ i, i < len → ∃ (n : Nat) (cs : List Value) (y : DataW H × List MemPlace), cs.length = C ∧ (∀ j, j < C → w.cell? ((x.add (i * C)).add j) = cs[j]?) ∧ DataW.trod enc P w base spare held n e cs = some y := by
        intro i hlt
        obtain ⟨cs', hc, ht'⟩ := hi i (by omega)
        obtain ⟨_, hcl, hat⟩ := World.cells?_some hc
        exact ⟨_, cs', _, hcl, hat, ht'⟩
      obtain ⟨_, cs, _, hcl, hat, _⟩ := each 0 hp
      have hc0 := hat 0 hpos
      have hsome : cs[0]? = some (cs[0]'(by omega)) := List.getElem?_eq_getElem (by omega)
      rw [hsome] at hc0
      simp only [Nat.zero_mul] at hc0
      have e0 : (x.add 0).add 0 = x := by simp [Addr.add]
      rw [e0] at hc0
      obtain ⟨b, off, spot⟩ := x
      have hspot : spot = none := World.cell?_spot hc0
      subst hspot
      refine ⟨b, off, rfl, World.block_lt_of_cell? (w := w) (a := ⟨b, off, none⟩) hc0, fun i hlt => ?_⟩
      obtain ⟨n', cs', y, h1, h2, h3⟩ := each i hlt
      exact ⟨n', cs', y, h1, fun j hj => by have := h2 j hj; rwa [addr_add, addr_add] at this, h3⟩

end
end Go.Proofs.YtlkgdpdnhnakoaaGreatDoor
