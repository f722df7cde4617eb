/- What walks of the store lean on. -/
import Derived.Test.YtlkgdpdnhnakoaaGreatDoorHeldT
import Derived.Test.YtlkgdpdnhnakoaaGreatDoorGRow
import Derived.Test.YtlkgdpdnhnakoaaGreatDoorGCpy
import Derived.Test.YtlkgdpdnhnakoaaGreatDoorGBlk
import Derived.Deep.RegionHeld3
import Derived.Deep.Cut
import Derived.Shelf.Abstract
import Derived.Lib.QuietBelow
import Derived.Lib.MinMax
namespace Go.Proofs.YtlkgdpdnhnakoaaGreatDoor
open Go.RowKit Go.Sort

theorem cutWl {P : Program} {c : Code} {Q : Exit → Act → World → Prop} {a : Act} {w : World} (R : World → Prop) (h : R w) (k : ∀ wn, R wn → Code.wp P c Q a wn) : Code.wp P c Q a w := k w h
theorem cutE {Q : Exit → Act → World → Prop} {e : Exit} {a : Act} {w : World} (R : World → Prop) (h : R w) (k : ∀ wn, R wn → Q e a wn) : Q e a w := k w h
theorem Blk.ty {w : World} {b : Nat} {cs cs' : Array Value} {t t' : TypeId} (h : Blk w b cs t) (h' : Blk w b cs' t') : t = t' := by
  have := h.symm.trans h'
  cases this
  rfl
theorem Calls.quiet_samK {P : Program} {f : FuncId} {args : Array Value} {w : World} {d : Nat} {os : Array Obj} {v : Value}
    (h : Calls P f args (grow (redrawn w d) os) fun e w' => e = .returned v ∧ Same (grow (redrawn w d) os) w') : Calls P f args (grow (redrawn w d) os) fun e w'' => e = .returned v ∧ ∃ p : Regrown, w'' = grow (redrawn w p.d) p.os :=
  Calls.regrown_of (h.mono fun _ _ ⟨he, hk⟩ => ⟨he, hk.below (Nat.le_refl _) (fun _ _ q => q)⟩)
section
variable {P : Program} {md : Region.Mode} {ops : Array Oper} {Q : Exit → Act → World → Prop} {S : World → Prop} {s : Nat}
theorem cutT {f : Nat} {l : Array Bool} {a : Act} {w : World} (R : World → Prop) (h : R w) (k : ∀ wn, R wn → wpT P md ops Q S s f l a wn) : wpT P md ops Q S s f l a w := k w h
/-- One alone comes up, behind s. -/
theorem wpT_oneE {i : Nat} {o : Oper} {f : Nat} {l : Array Bool} {a : Act} {w : World} (his : (i == s) = false) (hl : l.getD s false = true) (ho : ops[i]? = some o) (hr : Region.ready md ops l = [i]) (hD : DownL md ops l)
    (h : ∀ K' : Act → World → Prop, Shut (∀ a w, (DownL md ops (l.setIfInBounds i true) → wpT P md ops Q S s f (l.setIfInBounds i true) a w) → K' a w) → if Region.wanted o (yielded ops a.tmps) = true then Oper.wp P o a w K' Q else K' (a.put o.dst undef) w) :
    wpT P md ops Q S s (f + 1) l a w := by
  refine ⟨fun q => (by rw [q] at hr; cases hr), fun j hj => ?_⟩
  have hji : j = i := by rw [hr] at hj; simpa using hj
  subst hji
  exact wpOp_step ho (fun K' hK => h K' (fun a w hW => hK a w ⟨.inr (by rw [getD_set_ne false (by simpa using his)]; exact hl), hW (hD.next hj)⟩))
/-- One of two comes up; S holds behind it. -/
theorem wpT_two {i j : Nat} {oi oj : Oper} {f : Nat} {l : Array Bool} {a : Act} {w : World} (hoi : ops[i]? = some oi) (hoj : ops[j]? = some oj) (hr : Region.ready md ops l = [i, j]) (hD : DownL md ops l)
    (h1 : ∀ K' : Act → World → Prop, Shut (∀ a w, S w → (S w → DownL md ops (l.setIfInBounds i true) → wpT P md ops Q S s f (l.setIfInBounds i true) a w) → K' a w) → if Region.wanted oi (yielded ops a.tmps) = true then Oper.wp P oi a w K' Q else K' (a.put oi.dst undef) w)
    (h2 : ∀ K' : Act → World → Prop, Shut (∀ a w, S w → (S w → DownL md ops (l.setIfInBounds j true) → wpT P md ops Q S s f (l.setIfInBounds j true) a w) → K' a w) → if Region.wanted oj (yielded ops a.tmps) = true then Oper.wp P oj a w K' Q else K' (a.put oj.dst undef) w) :
    wpT P md ops Q S s (f + 1) l a w := by
  refine ⟨fun q => (by rw [q] at hr; cases hr), fun m hm => ?_⟩
  have hmi : m = i ∨ m = j := by rw [hr] at hm; simpa using hm
  rcases hmi with rfl | rfl
  · exact wpOp_step hoi (fun K' hK => h1 K' (fun a w hS hW => hK a w ⟨.inl hS, hW hS (hD.next hm)⟩))
  · exact wpOp_step hoj (fun K' hK => h2 K' (fun a w hS hW => hK a w ⟨.inl hS, hW hS (hD.next hm)⟩))
end
end Go.Proofs.YtlkgdpdnhnakoaaGreatDoor
