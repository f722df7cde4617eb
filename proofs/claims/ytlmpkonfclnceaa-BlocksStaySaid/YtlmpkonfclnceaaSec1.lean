/- A disk's plain calls: asked, at, Off, Size, Calls, Break. -/
import Derived.Test.YtlmpkonfclnceaaProg
import Derived.Test.YtlmpkonfclnceaaSecW
namespace Go.Proofs.Ytlmpkonfclnceaa
open Go.RowKit

def cellsD (bs cap m : Nat) (D : Dsk) : Array Value := #[.slice (some ⟨bs, 0, none⟩) D.s.length cap, .map (some m), .bool D.off, .int .i64 D.calls, .int .i64 D.after, .bool D.done]
/-- Block d is the disk D; bs has what is safe, m what waits. -/
structure DiskIn (w : World) (d bs cap m : Nat) (D : Dsk) : Prop where
  box : Blk w d (cellsD bs cap m D) 98
  safe : SafeAt w bs D.s
  map : MapI w m (waitF D.s)
  apart : d ≠ bs
  nm : m ≠ bs
  ok : D.OK
  cap : D.s.length ≤ cap
def Of3 (d bs m : Nat) (k : Nat) : Prop := k = d ∨ k = bs ∨ k = m
theorem DiskIn.kept {w w' : World} {fp : Nat → Prop} {d bs cap m : Nat} {D : Dsk} (h : DiskIn w d bs cap m D) (k : Kept fp w w') (h1 : ¬ fp d) (h2 : ¬ fp bs) (h3 : ¬ fp m) : DiskIn w' d bs cap m D :=
  ⟨h.box.kept k h1, h.safe.kept k h2, h.map.kept k h3, h.apart, h.nm, h.ok, h.cap⟩
theorem DiskIn.same {w w' : World} {d bs cap m : Nat} {D : Dsk} (h : DiskIn w d bs cap m D) (k : Same w w') : DiskIn w' d bs cap m D := h.kept k (fun h => h) (fun h => h) (fun h => h)
theorem DiskIn.ne1 {w : World} {d bs cap m : Nat} {D : Dsk} (h : DiskIn w d bs cap m D) : m ≠ d := by
  obtain ⟨es, c, hb, _⟩ := h.map
  intro e
  rw [e] at hb
  have := hb.symm.trans h.box
  cases this
theorem DiskIn.ne2 {w : World} {d bs cap m : Nat} {D : Dsk} (h : DiskIn w d bs cap m D) : m ≠ bs := h.nm
theorem DiskIn.ptr {w : World} {d bs cap m : Nat} {D : Dsk} (h : DiskIn w d bs cap m D) : ∀ i, w.cell? ⟨d, i, none⟩ = (cellsD bs cap m D)[i]? := cell_blk h.box

theorem sd_asked {w : World} {d bs cap m : Nat} {D : Dsk} (h : DiskIn w d bs cap m D) :
    Calls Try.prog 57 #[.pointer (some ⟨d, 0, none⟩)] w fun e w' => e = .returned (.int .i64 ((if D.off then 8 else 0 : Nat) : Nat)) ∧ w' = w := by
  have p0 := h.ptr
  obtain ⟨s, off, calls, after, done⟩ := D
  simp only [cellsD] at p0
  clear h
  go_enter Try.func57, Try.ntmps57
  cases off
  all_goals
    go_wp2_with fail
    go_ret
    exact ⟨rfl, rfl⟩
theorem sd_asked_nil (w : World) :
    Calls Try.prog 57 #[.pointer none] w fun e w' => e = .returned (.int .i64 1) ∧ w' = w := by
  go_enter Try.func57, Try.ntmps57
  go_wp2_with fail
  go_ret
  exact ⟨rfl, rfl⟩

theorem sd_at {w : World} {d bs cap m : Nat} {D : Dsk} (h : DiskIn w d bs cap m D) (n : Int) :
    Calls Try.prog 54 #[.pointer (some ⟨d, 0, none⟩), .int .i64 n] w fun e w' => e = .returned (.int .i64 (errD D n : Nat)) ∧ w' = w := by
  have p0 := h.ptr
  have A := Lib.hid (sd_asked h)
  obtain ⟨s, off, calls, after, done⟩ := D
  simp only [cellsD] at p0
  simp only [errD]
  clear h
  go_enter Try.func54, Try.ntmps54
  go_wp2_with fail
  refine A.out.mono ?_
  rintro e w' ⟨rfl, rfl⟩
  clear A
  cases off
  · by_cases h1 : n < 0
    · go_wp2_with fail
      go_ret
      exact ⟨by simp, rfl⟩
    · by_cases h2 : (s.length : Int) ≤ n
      · go_wp2_with fail
        go_ret
        exact ⟨rfl, rfl⟩
      · go_wp2_with fail
        go_ret
        exact ⟨rfl, rfl⟩
  · go_wp2_with fail
    go_ret
    exact ⟨rfl, rfl⟩
theorem sd_at_nil (w : World) (n : Int) :
    Calls Try.prog 54 #[.pointer none, .int .i64 n] w fun e w' => e = .returned (.int .i64 1) ∧ w' = w := by
  have A := Lib.hid (sd_asked_nil w)
  go_enter Try.func54, Try.ntmps54
  go_wp2_with fail
  refine A.out.mono ?_
  rintro e w' ⟨rfl, rfl⟩
  go_wp2_with fail
  go_ret
  exact ⟨rfl, rfl⟩

theorem sd_off {w : World} {d bs cap m : Nat} {D : Dsk} (h : DiskIn w d bs cap m D) :
    Calls Try.prog 27 #[.pointer (some ⟨d, 0, none⟩)] w fun e w' => e = .returned (.bool D.off) ∧ w' = w := by
  have p0 := h.ptr
  simp only [cellsD] at p0
  clear h
  go_enter Try.func27, Try.ntmps27
  go_wp2_with fail
  go_ret
  exact ⟨rfl, rfl⟩
theorem sd_size {w : World} {d bs cap m : Nat} {D : Dsk} (h : DiskIn w d bs cap m D) :
    Calls Try.prog 23 #[.pointer (some ⟨d, 0, none⟩)] w fun e w' => e = .returned (.int .i64 (D.s.length : Nat)) ∧ w' = w := by
  have p0 := h.ptr
  simp only [cellsD] at p0
  clear h
  go_enter Try.func23, Try.ntmps23
  go_wp2_with fail
  go_ret
  exact ⟨rfl, rfl⟩
theorem sd_calls {w : World} {d bs cap m : Nat} {D : Dsk} (h : DiskIn w d bs cap m D) :
    Calls Try.prog 25 #[.pointer (some ⟨d, 0, none⟩)] w fun e w' => e = .returned (.int .i64 D.calls) ∧ w' = w := by
  have p0 := h.ptr
  simp only [cellsD] at p0
  clear h
  go_enter Try.func25, Try.ntmps25
  go_wp2_with fail
  go_ret
  exact ⟨rfl, rfl⟩

theorem sd_break {w : World} {d bs cap m : Nat} {D : Dsk} (h : DiskIn w d bs cap m D) (a : Int) (ha : a < 9223372036854775808) (o : Bool) :
    Calls Try.prog 26 #[.pointer (some ⟨d, 0, none⟩), .int .i64 a, .bool o] w fun e w' => e = .returned (.int .i64 ((breakD D a o).2 : Nat)) ∧ DiskIn w' d bs cap m (breakD D a o).1 ∧ Kept (fun k => k = d) w w' := by
  have p0 := h.ptr
  have f0 := h.box.free
  have A := Lib.hid (sd_asked h)
  have H := Lib.hid h
  have OK := breakD_ok h.ok ha o
  have OK := Lib.hid OK
  have hm := h.ne1
  clear h
  obtain ⟨s, off, calls, after, done⟩ := D
  simp only [cellsD] at p0
  go_enter Try.func26, Try.ntmps26
  go_wp2_with fail
  refine A.out.mono ?_
  rintro e w' ⟨rfl, rfl⟩
  clear A
  cases off
  · by_cases h1 : a < 0
    · go_wp2_with fail
      go_ret
      exact ⟨by simp [breakD, h1], by simpa [breakD, h1] using H.out, Kept.refl _ _⟩
    · go_wp2_with fail
      go_ret
      have k := ((Kept.refl (fun k => k = d) w').setG 4 (.int .i64 a)).setG 5 (.bool o)
      have e1 : breakD ⟨s, false, calls, after, done⟩ a o = (⟨s, false, calls, a, o⟩, 0) := by simp [breakD, h1]
      have OK' := OK.out
      rw [e1] at OK' ⊢
      exact ⟨rfl, ⟨(H.out.box.set 4 _).set 5 _, H.out.safe.kept k (fun q => H.out.apart q.symm), H.out.map.kept k (fun q => hm q), H.out.apart, H.out.nm, OK', H.out.cap⟩, k⟩
  · go_wp2_with fail
    go_ret
    exact ⟨rfl, H.out, Kept.refl _ _⟩
end Go.Proofs.Ytlmpkonfclnceaa
