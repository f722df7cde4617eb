/- A disk in the heap: its blocks, and how they are framed. -/
import Derived.Test.YtlmpkonfclnceaaSecP
import Derived.Test.YtlmpkonfclnceaaMapI
import Derived.Test.YtlmpkonfclnceaaAuto
import Derived.Deep.MidRow
namespace Go.Proofs.Ytlmpkonfclnceaa
open Go.RowKit

def encB (l : List Nat) : List Value := l.map fun x => Value.int .u8 (x : Nat)
theorem encB_len (l : List Nat) : (encB l).length = l.length := by simp [encB]
theorem encB_one (l : List Nat) : ∀ v ∈ encB l, v.oneCell' = true := by
  intro v hv
  obtain ⟨x, _, rfl⟩ := List.mem_map.1 hv
  rfl
/-- A sector's bytes as a value. -/
def secV (l : List Nat) : Value := .agg (encB l).toArray
/-- What is safe lies in block b. -/
structure SafeAt (w : World) (b : Nat) (s : List Sec) : Prop where
  at_ : ∀ n x, s[n]? = some x → w.rangeAt b (n * 256) (encB x.safe)
  there : w.there b 0 (s.length * 256)
  lt : b < w.heap.size
/-- What waits. -/
def waitF (s : List Sec) (n : Nat) : Option Value := if waitsAt s n then some (secV (s.getD n sec0).has) else none
theorem waitF_some (s : List Sec) (n : Nat) : (waitF s n).isSome = waitsAt s n := by unfold waitF; cases waitsAt s n <;> rfl
theorem waitF_lt {s : List Sec} {n : Nat} (h : (waitF s n).isSome = true) : n < s.length := waitsAt_lt (by rw [← waitF_some]; exact h)

/-- Cells that lie in a block stay. -/
theorem rangeAt_kept {w w' : World} {fp : Nat → Prop} {b o : Nat} {cs : List Value} (h : w.rangeAt b o cs) (k : Kept fp w w') (hb : b < w.heap.size) (hn : ¬ fp b) : w'.rangeAt b o cs := fun j v hv => by
  rw [k.cell (p := ⟨b, o + j, none⟩) hb hn]; exact h j v hv
theorem there_kept {w w' : World} {fp : Nat → Prop} {b o n : Nat} (h : w.there b o n) (k : Kept fp w w') (hb : b < w.heap.size) (hn : ¬ fp b) : w'.there b o n := fun j hj => by
  rw [k.cell (p := ⟨b, o + j, none⟩) hb hn, k.frozen (p := ⟨b, o + j, none⟩) hb hn]; exact h j hj
theorem SafeAt.kept {w w' : World} {fp : Nat → Prop} {b : Nat} {s : List Sec} (h : SafeAt w b s) (k : Kept fp w w') (hn : ¬ fp b) : SafeAt w' b s :=
  ⟨fun n x hx => rangeAt_kept (h.at_ n x hx) k h.lt hn, there_kept h.there k h.lt hn, Nat.lt_of_lt_of_le h.lt k.size⟩
theorem SafeAt.alike {w : World} {b : Nat} {s s' : List Sec} (h : SafeAt w b s) (e : s'.map (·.safe) = s.map (·.safe)) : SafeAt w b s' := by
  refine ⟨fun n x hx => ?_, ?_, h.lt⟩
  · have : (s.map (·.safe))[n]? = some x.safe := by rw [← e, List.getElem?_map, hx]; rfl
    rw [List.getElem?_map, Option.map_eq_some_iff] at this
    obtain ⟨y, hy, e2⟩ := this
    rw [← e2]
    exact h.at_ n y hy
  · have := congrArg List.length e
    simp at this
    rw [this]; exact h.there
theorem Kept.setCells {fp : Nat → Prop} {a w : World} (h : Kept fp a w) {b : Nat} (hb : b < a.heap.size → fp b) (vs : List Value) : ∀ o, Kept fp a (w.setCells b o vs) := by
  induction vs generalizing w with
  | nil => intro o; exact h
  | cons v vs ih => intro o; exact ih (h.setCell (p := ⟨b, o, none⟩) hb v) (o + 1)
theorem SafeAt.put {w : World} {b : Nat} {s : List Sec} (h : SafeAt w b s) (hs : ∀ x ∈ s, x.OK) {n : Nat} (hn : n < s.length) {y : Sec} (hy : y.safe.length = 256) : SafeAt (w.setCells b (n * 256) (encB y.safe)) b (s.set n y) := by
  have ht : w.there b (n * 256) (encB y.safe).length := fun j hj => by
    rw [encB_len, hy] at hj
    have := h.there (n * 256 + j) (by
      have : (n + 1) * 256 ≤ s.length * 256 := Nat.mul_le_mul_right _ hn
      omega)
    rwa [Nat.zero_add] at this
  refine ⟨fun m x hx => ?_, ?_, ?_⟩
  · rw [List.getElem?_set] at hx
    by_cases e : n = m
    · subst e
      rw [if_pos rfl, if_pos hn] at hx
      cases hx
      exact World.rangeAt_setCells_same _ _ _ _ ht
    · rw [if_neg e] at hx
      refine World.rangeAt_setCells_apart (h.at_ m x hx) _ _ _ (.inr ?_)
      rw [encB_len, encB_len, hy, (hs x (List.mem_of_getElem? hx)).safeL]
      omega
  · rw [List.length_set]
    exact World.there_setCells h.there _ _ _
  · exact Nat.lt_of_lt_of_le h.lt ((Kept.refl (fun j => j = b) w).setCells (fun _ => rfl) _ _).size

end Go.Proofs.Ytlmpkonfclnceaa
