/- GRef: Ref3a, Ref3b, Ref3c, Ref3d, Ref3e, Ref3f, Ref3g, Ref3h, SecRd, Do3, Same3, Both3. -/
import Derived.Test.YtlkgdpdnhnakoaaGreatDoorGSecB
import Derived.Test.YtlkgdpdnhnakoaaGreatDoorEl
import Derived.Test.YtlkgdpdnhnakoaaGreatDoorBase
import Derived.ProofKit
import Derived.OpenShut
import Derived.Deep.Slices
import Derived.Lib.SmallJoins
import Derived.Lib.QuietBelow
import Derived.Deep.QuietTactic
import Derived.BigQuiet
namespace Go.Proofs.YtlkgdpdnhnakoaaGreatDoor
open Go.RowKit

/-- A document's disk as a value. -/
def refV (a : Option Addr) (n c : Nat) (D : Dsk) : Value := .agg #[.slice a n c, .bool D.off, .int .i64 D.calls, .int .i64 D.after, .bool D.done]
/-- Sectors in memory. -/
def SecsAt (w : World) (a : Option Addr) (s : List Sec) : Prop := s = [] ∨ ∃ b off, a = some ⟨b, off, none⟩ ∧ b < w.heap.size ∧ ∀ (i : Nat) (x : Sec), s[i]? = some x →
  w.cell? ⟨b, off + i * 3, none⟩ = some (.string (strN x.has)) ∧ w.cell? ⟨b, off + i * 3 + 1, none⟩ = some (.string (strN x.safe)) ∧ w.cell? ⟨b, off + i * 3 + 2, none⟩ = some (.bool x.waits)
theorem SecsAt.same {w w' : World} {a : Option Addr} {s : List Sec} (h : SecsAt w a s) (k : Same w w') : SecsAt w' a s := by
  rcases h with h | ⟨b, off, rfl, hb, hc⟩
  · exact .inl h
  · have e : ∀ j, w'.cell? ⟨b, j, none⟩ = w.cell? ⟨b, j, none⟩ := fun j => k.cell (p := ⟨b, j, none⟩) hb (fun h => h)
    exact .inr ⟨b, off, rfl, Nat.lt_of_lt_of_le hb k.size, fun i x hx => by rw [e, e, e]; exact hc i x hx⟩

end Go.Proofs.YtlkgdpdnhnakoaaGreatDoor

namespace Go.Proofs.YtlkgdpdnhnakoaaGreatDoor
open Go.RowKit

end Go.Proofs.YtlkgdpdnhnakoaaGreatDoor

namespace Go.Proofs.YtlkgdpdnhnakoaaGreatDoor
open Go.RowKit

/-- What is new since w. -/
def Far (w : World) (a : Option Addr) : Prop := ∀ x, a = some x → w.heap.size ≤ x.block
theorem Far.mono {w w' : World} {a : Option Addr} (h : Far w' a) (k : w.heap.size ≤ w'.heap.size) : Far w a := fun x hx => Nat.le_trans k (h x hx)
section
attribute [local go_sem ↓] exec_app semAt_app
attribute [local go_sem] isApp_lit appA appX
end
end Go.Proofs.YtlkgdpdnhnakoaaGreatDoor

namespace Go.Proofs.YtlkgdpdnhnakoaaGreatDoor
open Go.RowKit

section
attribute [local go_sem ↓] exec_app semAt_app
attribute [local go_sem] isApp_lit appA appX
end
end Go.Proofs.YtlkgdpdnhnakoaaGreatDoor

namespace Go.Proofs.YtlkgdpdnhnakoaaGreatDoor
open Go.RowKit

section
attribute [local go_sem ↓] exec_app semAt_app
attribute [local go_sem] isApp_lit appA appX
end
end Go.Proofs.YtlkgdpdnhnakoaaGreatDoor

namespace Go.Proofs.YtlkgdpdnhnakoaaGreatDoor
open Go.RowKit

/-- A document's disk that a call left, and what it told. -/
def RefT (w w' : World) (a0 : Option Addr) (e : Ending) (D : Dsk) (k : Nat) : Prop := ∃ a c, e = .returned (.tuple #[refV a D.s.length c D, .int .i64 (k : Nat)]) ∧ (SecsAt w' a D.s ∧ (a = a0 ∨ Far w a)) ∧ Same w w'
theorem RefT.of {w w' : World} {a : Option Addr} {c : Nat} {D : Dsk} {k : Nat} (h : SecsAt w a D.s) (kk : Same w w') : RefT w w' a (.returned (.tuple #[refV a D.s.length c D, .int .i64 (k : Nat)])) D k := ⟨a, c, rfl, ⟨h.same kk, .inl rfl⟩, kk⟩
/-- Sectors lie elsewhere than in a block that has no text. -/
theorem SecsAt.apart {w w' : World} {a : Option Addr} {s : List Sec} {g : Nat} {cs : Array Value} {t : TypeId} (h : SecsAt w a s) (hb : Blk w g cs t) (hk : Kept (fun j => j = g) w w') (hne : ∀ (i : Nat) (x : ByteArray), cs[i]? ≠ some (.string x)) : SecsAt w' a s := by
  cases s with
  | nil => exact .inl rfl
  | cons x s =>
    rcases h with h | ⟨b, o, rfl, hlt, hc⟩
    · cases h
    · have hbg : b ≠ g := by
        intro q
        subst q
        have := (hc 0 x rfl).1
        rw [cell_blk hb] at this
        exact hne _ _ this
      have e : ∀ j, w'.cell? ⟨b, j, none⟩ = w.cell? ⟨b, j, none⟩ := fun j => hk.cell (p := ⟨b, j, none⟩) hlt hbg
      exact .inr ⟨b, o, rfl, Nat.lt_of_lt_of_le hlt hk.size, fun i x hx => by rw [e, e, e]; exact hc i x hx⟩
end Go.Proofs.YtlkgdpdnhnakoaaGreatDoor

namespace Go.Proofs.YtlkgdpdnhnakoaaGreatDoor
open Go.RowKit

/-- The fates that are left, as a value. -/
def FatesV (w : World) (v : Value) (f : List Nat) : Prop := ∃ a l c, v = .slice a l c ∧ l = f.length ∧ l ≤ c ∧ NatsAt w .u8 a f
theorem FatesV.same {w w' : World} {v : Value} {f : List Nat} (h : FatesV w v f) (k : Same w w') : FatesV w' v f := by
  obtain ⟨a, l, c, h1, h2, h3, h4⟩ := h
  exact ⟨a, l, c, h1, h2, h3, h4.same k⟩
section
attribute [local go_sem ↓] exec_app semAt_app
attribute [local go_sem] isApp_lit appA appX
end
end Go.Proofs.YtlkgdpdnhnakoaaGreatDoor

namespace Go.Proofs.YtlkgdpdnhnakoaaGreatDoor
open Go.RowKit

theorem FatesV.apart {w w' : World} {v : Value} {f : List Nat} {g : Nat} {cs : Array Value} {t : TypeId} (h : FatesV w v f) (hb : Blk w g cs t) (hk : Kept (fun j => j = g) w w') (hne : ∀ (i : Nat) (x : Int), cs[i]? ≠ some (.int .u8 x)) : FatesV w' v f := by
  obtain ⟨a, l, c, h1, h2, h3, h4⟩ := h
  exact ⟨a, l, c, h1, h2, h3, h4.apart hb hk hne⟩

end Go.Proofs.YtlkgdpdnhnakoaaGreatDoor

namespace Go.Proofs.YtlkgdpdnhnakoaaGreatDoor
open Go.ChangeShapes Go.WideShapes Go.ChangeAt Go.RowKit

section
variable {H : Type} {enc : TypeId × Value → H} {P : Program} {w : World} {base : Nat} {spare : Nat → Bool} {held : Bool}
end

/-- An act, in a block. -/
structure ActAt (W : World) (b o : Nat) (k : Nat) (n : Int) (c u : Nat) (dn : Bool) (fa : Option Addr) (fl fc : Nat) (fs : List Nat) : Prop where
  c0 : W.cell? ⟨b, o, none⟩ = some (.int .u8 (k : Nat))
  c1 : W.cell? ⟨b, o + 1, none⟩ = some (.int .i64 n)
  c2 : W.cell? ⟨b, o + 2, none⟩ = some (.int .u8 (c : Nat))
  c3 : W.cell? ⟨b, o + 3, none⟩ = some (.int .u8 (u : Nat))
  c4 : W.cell? ⟨b, o + 4, none⟩ = some (.bool dn)
  c5 : W.cell? ⟨b, o + 5, none⟩ = some (.slice fa fl fc)
  kb : k < 256
  nb : -9223372036854775808 ≤ n ∧ n ≤ 9223372036854775807
  cb : c < 256
  ub : u < 256
  fl_ : fl = fs.length
  fc_ : fl ≤ fc
  fb : Bts fs
  at_ : NatsAt W .u8 fa fs

section
variable {H : Type} {enc : TypeId × Value → H} {W : World} {base : Nat} {v : Value} {d : DataW H} {p : List MemPlace}
theorem ActAt.same {w w' : World} {b o k : Nat} {n : Int} {c u : Nat} {dn : Bool} {fa : Option Addr} {fl fc : Nat} {fs : List Nat} (h : ActAt w b o k n c u dn fa fl fc fs) (q : Same w w') (hb : b < w.heap.size) : ActAt w' b o k n c u dn fa fl fc fs := by
  have e : ∀ j, w'.cell? ⟨b, j, none⟩ = w.cell? ⟨b, j, none⟩ := fun j => q.cell (p := ⟨b, j, none⟩) hb (fun h => h)
  exact ⟨by rw [e]; exact h.c0, by rw [e]; exact h.c1, by rw [e]; exact h.c2, by rw [e]; exact h.c3, by rw [e]; exact h.c4, by rw [e]; exact h.c5, h.kb, h.nb, h.cb, h.ub, h.fl_, h.fc_, h.fb, h.at_.same q⟩
end
end Go.Proofs.YtlkgdpdnhnakoaaGreatDoor

namespace Go.Proofs.YtlkgdpdnhnakoaaGreatDoor
open Go.RowKit

theorem SecsAt.kept {w w' : World} {fp : Nat → Prop} {a : Option Addr} {s : List Sec} (h : SecsAt w a s) (k : Kept fp w w') (hn : s = [] ∨ ∀ x, a = some x → ¬ fp x.block) : SecsAt w' a s := by
  rcases hn with h0 | hn
  · exact .inl h0
  · rcases h with h | ⟨b, off, rfl, hb, hc⟩
    · exact .inl h
    · have e : ∀ j, w'.cell? ⟨b, j, none⟩ = w.cell? ⟨b, j, none⟩ := fun j => k.cell (p := ⟨b, j, none⟩) hb (hn ⟨b, off, none⟩ rfl)
      exact .inr ⟨b, off, rfl, Nat.lt_of_lt_of_le hb k.size, fun i x hx => by rw [e, e, e]; exact hc i x hx⟩

end Go.Proofs.YtlkgdpdnhnakoaaGreatDoor

namespace Go.Proofs.YtlkgdpdnhnakoaaGreatDoor
open Go.RowKit Go.Sort

theorem Calls.quiet_same3 {P : Program} {f : FuncId} {args : Array Value} {w : World} {d : Nat} {os : Array Obj} {v : Value}
    (h : Calls P f args (grow (redrawn w d) os) fun e w' => e = .returned v ∧ w' = grow (redrawn w d) os) : Calls P f args (grow (redrawn w d) os) fun e w'' => e = .returned v ∧ ∃ p : Regrown, w'' = grow (redrawn w p.d) p.os :=
  Calls.regrown_of (h.mono fun _ _ ⟨h1, h2⟩ => ⟨h1, h2 ▸ Below.refl _ _⟩)

end Go.Proofs.YtlkgdpdnhnakoaaGreatDoor

namespace Go.Proofs.YtlkgdpdnhnakoaaGreatDoor
open Go.RowKit Go.Sort

end Go.Proofs.YtlkgdpdnhnakoaaGreatDoor
