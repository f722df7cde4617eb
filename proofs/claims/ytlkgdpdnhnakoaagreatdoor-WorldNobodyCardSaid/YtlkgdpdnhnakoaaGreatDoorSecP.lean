/- A disk that forgets, in plain words; no program in sight. -/
import Derived.Test.YtlkgdpdnhnakoaaGreatDoorBase
import Derived.RowKit
namespace Go.Proofs.YtlkgdpdnhnakoaaGreatDoor
open Go.RowKit

/-- A sector: what it has, what is safe of it, whether it waits. -/
structure Sec where
  has : List Nat
  safe : List Nat
  waits : Bool
/-- A disk. -/
structure Dsk where
  s : List Sec
  off : Bool
  calls : Int
  after : Int
  done : Bool

def Bts (l : List Nat) : Prop := ∀ x ∈ l, x < 256
structure Sec.OK (x : Sec) : Prop where
  hasL : x.has.length = 256
  hasB : Bts x.has
  safeL : x.safe.length = 256
  safeB : Bts x.safe
  still : x.waits = false → x.has = x.safe
structure Dsk.OK (d : Dsk) : Prop where
  secs : ∀ x ∈ d.s, x.OK
  few : d.s.length ≤ 4096
  aft : -1 ≤ d.after ∧ d.after < 9223372036854775808
  cal : -9223372036854775808 ≤ d.calls ∧ d.calls < 9223372036854775808

def zeros : List Nat := List.replicate 256 0
def sec0 : Sec := ⟨zeros, zeros, false⟩
/-- How many sectors a new disk has. -/
def secsOf (n : Int) : Nat := (max 0 (min n 4096)).toNat
def newD (n : Int) : Dsk := ⟨List.replicate (secsOf n) sec0, false, 0, -1, false⟩
/-- The errors of a sector's number. -/
def errD (d : Dsk) (n : Int) : Nat := if d.off then 8 else if n < 0 ∨ (d.s.length : Int) ≤ n then 9 else 0
/-- A call that found no error: s is what it leaves. -/
def callD (d : Dsk) (s : List Sec) : Dsk × Nat :=
  (⟨if d.after = 0 ∧ d.done = false then d.s else s, decide (d.after = 0), wrap64 (d.calls + 1), if d.after = -1 then -1 else d.after - 1, d.done⟩, if d.after = 0 then 8 else 0)
def putS (s : List Sec) (n : Nat) (b : List Nat) : List Sec := s.set n ⟨b, (s.getD n sec0).safe, true⟩
def writeD (d : Dsk) (n : Int) (b : List Nat) : Dsk × Nat :=
  if errD d n = 0 then (if b.length = 256 then callD d (putS d.s n.toNat b) else (d, 2)) else (d, errD d n)
def settleS (x : Sec) : Sec := ⟨x.has, x.has, false⟩
def settle (s : List Sec) : List Sec := s.map settleS
def syncD (d : Dsk) : Dsk × Nat := if d.off then (d, 8) else callD d (settle d.s)
def waitsAt (s : List Sec) (n : Nat) : Bool := (s.getD n sec0).waits
def waitsOf (s : List Sec) : List Nat := (List.range s.length).filter (waitsAt s)

def take1 : List Nat → Nat × List Nat
  | [] => (0, [])
  | x :: r => (x, r)
/-- How much is kept, and the fates that are left. -/
def keepOf (f : List Nat) : Nat × List Nat :=
  if (take1 f).1 % 4 = 2 then (256, (take1 f).2) else if (take1 f).1 % 4 = 3 then take1 (take1 f).2 else (0, (take1 f).2)
def powOne (x : Sec) (k : Nat) : Sec := ⟨x.has.take k ++ x.safe.drop k, x.safe, x.waits⟩
def powF (st : List Sec × List Nat) (n : Nat) : List Sec × List Nat := (st.1.set n (powOne (st.1.getD n sec0) (keepOf st.2).1), (keepOf st.2).2)
def powS (s : List Sec) (f : List Nat) : List Sec := settle ((waitsOf s).foldl powF (s, f)).1
def powerD (d : Dsk) (f : List Nat) : Dsk := ⟨powS d.s f, false, d.calls, -1, false⟩

theorem take1_bts {f : List Nat} (h : Bts f) : (take1 f).1 < 256 ∧ Bts (take1 f).2 := by
  cases f with
  | nil => exact ⟨by simp [take1], by simp [take1, Bts]⟩
  | cons x r => exact ⟨h x (by simp), fun y hy => h y (by simp [take1] at hy; simp [hy])⟩
theorem keepOf_le {f : List Nat} (h : Bts f) : (keepOf f).1 ≤ 256 ∧ Bts (keepOf f).2 := by
  unfold keepOf
  have h1 := take1_bts h
  split
  · exact ⟨Nat.le_refl _, h1.2⟩
  · split
    · have h2 := take1_bts h1.2
      exact ⟨by omega, h2.2⟩
    · exact ⟨by simp, h1.2⟩
theorem zeros_len : zeros.length = 256 := List.length_replicate
theorem zeros_bts : Bts zeros := fun x hx => by rw [List.eq_of_mem_replicate hx]; decide
theorem sec0_ok : sec0.OK := ⟨zeros_len, zeros_bts, zeros_len, zeros_bts, fun _ => rfl⟩
theorem getD_ok {s : List Sec} (h : ∀ x ∈ s, x.OK) (n : Nat) : (s.getD n sec0).OK := by
  rw [List.getD_eq_getElem?_getD]
  cases e : s[n]? with
  | none => exact sec0_ok
  | some x => exact h x (List.mem_of_getElem? e)
theorem Bts.app {a b : List Nat} (h : Bts a) (k : Bts b) : Bts (a ++ b) := fun x hx => by rcases List.mem_append.1 hx with q | q; exact h x q; exact k x q
theorem Bts.take {a : List Nat} (h : Bts a) (n : Nat) : Bts (a.take n) := fun x hx => h x (List.mem_of_mem_take hx)
theorem Bts.drop {a : List Nat} (h : Bts a) (n : Nat) : Bts (a.drop n) := fun x hx => h x (List.mem_of_mem_drop hx)
theorem powOne_len {x : Sec} (h : x.OK) {k : Nat} (hk : k ≤ 256) : (powOne x k).has.length = 256 := by
  simp [powOne, h.hasL, h.safeL]; omega
theorem powOne_ok {x : Sec} (h : x.OK) {k : Nat} (hk : k ≤ 256) (hw : x.waits = true) : (powOne x k).OK :=
  ⟨powOne_len h hk, (h.hasB.take k).app (h.safeB.drop k), h.safeL, h.safeB, fun q => by simp [powOne, hw] at q⟩
theorem settle_ok {s : List Sec} (h : ∀ x ∈ s, x.OK) : ∀ x ∈ settle s, x.OK := by
  intro x hx
  obtain ⟨y, hy, rfl⟩ := List.mem_map.1 hx
  exact ⟨(h y hy).hasL, (h y hy).hasB, (h y hy).hasL, (h y hy).hasB, fun _ => rfl⟩
theorem set_ok {s : List Sec} (h : ∀ x ∈ s, x.OK) (n : Nat) {y : Sec} (hy : y.OK) : ∀ x ∈ s.set n y, x.OK := by
  intro x hx
  rcases List.mem_or_eq_of_mem_set hx with q | rfl
  · exact h x q
  · exact hy
theorem putS_ok {s : List Sec} (h : ∀ x ∈ s, x.OK) (n : Nat) {b : List Nat} (hl : b.length = 256) (hb : Bts b) : ∀ x ∈ putS s n b, x.OK :=
  set_ok h n ⟨hl, hb, (getD_ok h n).safeL, (getD_ok h n).safeB, fun q => by cases q⟩
theorem getD_set (s : List Sec) (n m : Nat) (y : Sec) : (s.set n y).getD m sec0 = if m = n ∧ n < s.length then y else s.getD m sec0 := by
  rw [List.getD_eq_getElem?_getD, List.getD_eq_getElem?_getD, List.getElem?_set]
  by_cases h : n = m
  · subst h
    by_cases h2 : n < s.length
    · simp [h2]
    · rw [List.getElem?_eq_none (by omega)]
      simp [h2]
  · rw [if_neg h, if_neg (fun q => h q.1.symm)]
theorem waitsAt_lt {s : List Sec} {n : Nat} (h : waitsAt s n = true) : n < s.length := by
  unfold waitsAt at h
  rw [List.getD_eq_getElem?_getD] at h
  cases e : s[n]? with
  | none => rw [e] at h; cases h
  | some x => exact (List.getElem?_eq_some_iff.1 e).1
theorem powF_len (st : List Sec × List Nat) (n : Nat) : (powF st n).1.length = st.1.length := by simp [powF]
theorem powF_waits (st : List Sec × List Nat) (n m : Nat) : waitsAt (powF st n).1 m = waitsAt st.1 m := by
  simp only [waitsAt, powF, getD_set]
  split
  · rename_i h; rw [h.1]; rfl
  · rfl

/-- What is kept on the way. -/
structure PowI (s : List Sec) (st : List Sec × List Nat) : Prop where
  len : st.1.length = s.length
  ok : ∀ x ∈ st.1, x.OK
  fates : Bts st.2
  waits : ∀ m, waitsAt st.1 m = waitsAt s m
  safe : ∀ m, (st.1.getD m sec0).safe = (s.getD m sec0).safe
theorem PowI.start {s : List Sec} {f : List Nat} (h : ∀ x ∈ s, x.OK) (hf : Bts f) : PowI s (s, f) := ⟨rfl, h, hf, fun _ => rfl, fun _ => rfl⟩
theorem PowI.step {s : List Sec} {st : List Sec × List Nat} (h : PowI s st) {n : Nat} (hn : waitsAt s n = true) : PowI s (powF st n) := by
  have hk := keepOf_le h.fates
  refine ⟨(powF_len st n).trans h.len, ?_, hk.2, fun m => (powF_waits st n m).trans (h.waits m), fun m => ?_⟩
  · exact set_ok h.ok n (powOne_ok (getD_ok h.ok n) hk.1 (by have := h.waits n; rw [hn] at this; exact this))
  · simp only [powF, getD_set]
    split
    · rename_i q; rw [q.1]; exact h.safe n
    · exact h.safe m
theorem settle_len (s : List Sec) : (settle s).length = s.length := by simp [settle]
theorem powS_len (s : List Sec) (f : List Nat) : (powS s f).length = s.length := by
  unfold powS
  rw [settle_len]
  have : ∀ (l : List Nat) (st : List Sec × List Nat), (l.foldl powF st).1.length = st.1.length := by
    intro l
    induction l with
    | nil => intro st; rfl
    | cons n l ih => intro st; rw [List.foldl_cons, ih, powF_len]
  exact this _ _

theorem callD_ok {d : Dsk} (h : d.OK) {s : List Sec} (hs : ∀ x ∈ s, x.OK) (hl : s.length = d.s.length) : (callD d s).1.OK := by
  unfold callD
  refine ⟨?_, ?_, ?_, ?_⟩
  · dsimp only
    split
    · exact h.secs
    · exact hs
  · dsimp only
    split
    · exact h.few
    · rw [hl]; exact h.few
  · have := h.aft
    dsimp only
    constructor <;> split <;> omega
  · dsimp only
    unfold wrap64
    omega
theorem newD_ok (n : Int) : (newD n).OK := ⟨fun x hx => by rw [List.eq_of_mem_replicate hx]; exact sec0_ok, by simp [newD, secsOf]; omega, by simp [newD], by simp [newD]⟩
theorem putS_len (s : List Sec) (n : Nat) (b : List Nat) : (putS s n b).length = s.length := by simp [putS]
theorem writeD_ok {d : Dsk} (h : d.OK) (n : Int) {b : List Nat} (hb : Bts b) : (writeD d n b).1.OK := by
  unfold writeD
  split
  · split
    · rename_i hl
      exact callD_ok h (putS_ok h.secs _ hl hb) (putS_len _ _ _)
    · exact h
  · exact h
theorem syncD_ok {d : Dsk} (h : d.OK) : (syncD d).1.OK := by
  unfold syncD
  split
  · exact h
  · exact callD_ok h (settle_ok h.secs) (settle_len _)

end Go.Proofs.YtlkgdpdnhnakoaaGreatDoor
