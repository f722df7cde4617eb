/- Events, and how they lie in memory; no program in sight. -/
import Derived.Test.YtpgghajkpjhieaaGreatDoorEl
import Derived.Test.YtpgghajkpjhieaaGreatDoorMapK
import Derived.Test.YtpgghajkpjhieaaGreatDoorSymP
namespace Go.Proofs.YtpgghajkpjhieaaGreatDoor
open Go.RowKit Go.Sort

/-- An event. -/
structure HEv where
  k : Nat
  x : Int
  t : Int
  key : List UInt8
  val : List UInt8
  is : Bool
  deriving Inhabited
/-- The cells of an event. -/
def encH (e : HEv) : List Value := [.int .u8 (e.k : Nat), .int .i64 e.x, .int .i64 e.t, encStr e.key, encStr e.val, .bool e.is]
def evE : Enc HEv := ⟨6, encH, fun _ => rfl, by decide, fun e v hv => by simp [encH] at hv; rcases hv with rfl | rfl | rfl | rfl | rfl | rfl <;> rfl⟩
/-- A pair of a key and a value. -/
abbrev HPr := List UInt8 × List UInt8
def encP (p : HPr) : List Value := [encStr p.1, encStr p.2]
def prE : Enc HPr := ⟨2, encP, fun _ => rfl, by decide, fun e v hv => by simp [encP] at hv; rcases hv with rfl | rfl <;> rfl⟩
/-- By times. -/
def ltT (a b : HEv) : Bool := decide (a.t < b.t)
def cfT (a b : HEv) : Int := if a.t < b.t then -1 else if b.t < a.t then 1 else 0
theorem wkT : Wk ltT := ⟨fun x y h => by simp [ltT] at h ⊢; omega, fun x y z h1 h2 => by simp [ltT] at h1 h2 ⊢; omega⟩
theorem cfT_lt (a b : HEv) : cfT a b < 0 ↔ ltT a b = true := by
  unfold cfT ltT
  simp only [decide_eq_true_eq]
  split
  · simp_all
  · split <;> omega
end Go.Proofs.YtpgghajkpjhieaaGreatDoor
