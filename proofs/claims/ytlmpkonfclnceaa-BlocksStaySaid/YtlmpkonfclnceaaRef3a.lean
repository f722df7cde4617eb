/- The document's disk: at, Break, Read. -/
import Derived.Test.YtlmpkonfclnceaaStrD
namespace Go.Proofs.Ytlmpkonfclnceaa
open Go.RowKit

/-- A document's disk as a value. -/
def refV (a : Option Addr) (n c : Nat) (D : Dsk) : Value := .agg #[.slice a n c, .bool D.off, .int .i64 D.calls, .int .i64 D.after, .bool D.done]
/-- The cells of sectors, side by side. -/
def cells3 (s : List Sec) : List Value := s.flatMap fun x => [.string (strN x.has), .string (strN x.safe), .bool x.waits]
/-- Sectors in memory. -/
def SecsAt (w : World) (a : Option Addr) (s : List Sec) : Prop := s = [] ∨ ∃ b off, a = some ⟨b, off, none⟩ ∧ b < w.heap.size ∧ ∀ (i : Nat) (x : Sec), s[i]? = some x →
  w.cell? ⟨b, off + i * 3, none⟩ = some (.string (strN x.has)) ∧ w.cell? ⟨b, off + i * 3 + 1, none⟩ = some (.string (strN x.safe)) ∧ w.cell? ⟨b, off + i * 3 + 2, none⟩ = some (.bool x.waits)
theorem SecsAt.same {w w' : World} {a : Option Addr} {s : List Sec} (h : SecsAt w a s) (k : Same w w') : SecsAt w' a s := by
  rcases h with h | ⟨b, off, rfl, hb, hc⟩
  · exact .inl h
  · have e : ∀ j, w'.cell? ⟨b, j, none⟩ = w.cell? ⟨b, j, none⟩ := fun j => k.cell (p := ⟨b, j, none⟩) hb (fun h => h)
    exact .inr ⟨b, off, rfl, Nat.lt_of_lt_of_le hb k.size, fun i x hx => by rw [e, e, e]; exact hc i x hx⟩

set_option maxHeartbeats 800000 in
theorem rs_at (a : Option Addr) (n c : Nat) (D : Dsk) (hn : n = D.s.length) (i : Int) (w : World) :
    Calls Try.prog 97 #[refV a n c D, .int .i64 i] w fun e w' => e = .returned (.int .i64 (errD D i : Nat)) ∧ Same w w' := by
  obtain ⟨s, off, calls, after, done⟩ := D
  subst hn
  simp only [refV, errD]
  go_enter Try.func97, Try.ntmps97
  cases off
  · by_cases h1 : i < 0
    · go_wp2_with fail
      go_ret
      exact ⟨by simp, (Kept.refl _ w).alloc _⟩
    · by_cases h2 : (s.length : Int) ≤ i
      · go_wp2_with fail
        go_ret
        exact ⟨by simp, (Kept.refl _ w).alloc _⟩
      · go_wp2_with fail
        go_ret
        exact ⟨by simp, (Kept.refl _ w).alloc _⟩
  · go_wp2_with fail
    go_ret
    exact ⟨rfl, (Kept.refl _ w).alloc _⟩

set_option maxHeartbeats 800000 in
theorem rs_break (a : Option Addr) (n c : Nat) (D : Dsk) (x : Int) (o : Bool) (w : World) :
    Calls Try.prog 63 #[refV a n c D, .int .i64 x, .bool o] w fun e w' => e = .returned (.tuple #[refV a n c (breakD D x o).1, .int .i64 ((breakD D x o).2 : Nat)]) ∧ Same w w' := by
  obtain ⟨s, off, calls, after, done⟩ := D
  cases off
  · by_cases h1 : x < 0
    · have e1 : breakD ⟨s, false, calls, after, done⟩ x o = (⟨s, false, calls, after, done⟩, 2) := by simp [breakD, h1]
      rw [e1]
      simp only [refV]
      go_enter Try.func63, Try.ntmps63
      go_wp2_with fail
      refine bodyPost_ret (results_two_tmp rfl _ _ _ _ _ _ rfl (Blk.new' _ _ _ (by simp)) Try.underlying43 rfl (by kernel_rfl)) rfl ?_
      exact ⟨rfl, ((Kept.refl _ w).alloc _).alloc _⟩
    · have e1 : breakD ⟨s, false, calls, after, done⟩ x o = (⟨s, false, calls, x, o⟩, 0) := by simp [breakD, h1]
      rw [e1]
      simp only [refV]
      go_enter Try.func63, Try.ntmps63
      go_wp2_with fail
      refine bodyPost_ret (results_two_tmp rfl _ _ _ _ _ _ rfl (Blk.new' _ _ _ (by simp)) Try.underlying43 rfl (by kernel_rfl)) rfl ?_
      exact ⟨rfl, ((Kept.refl _ w).alloc _).alloc _⟩
  · have e1 : breakD ⟨s, true, calls, after, done⟩ x o = (⟨s, true, calls, after, done⟩, 8) := by simp [breakD]
    rw [e1]
    simp only [refV]
    go_enter Try.func63, Try.ntmps63
    go_wp2_with fail
    refine bodyPost_ret (results_two_tmp rfl _ _ _ _ _ _ rfl (Blk.new' _ _ _ (by simp)) Try.underlying43 rfl (by kernel_rfl)) rfl ?_
    exact ⟨rfl, ((Kept.refl _ w).alloc _).alloc _⟩

set_option maxRecDepth 100000 in
set_option maxHeartbeats 800000 in
theorem rs_read (a : Option Addr) (n c : Nat) (D : Dsk) (hn : n = D.s.length) (i : Int) (w : World) (hs : SecsAt w a D.s) :
    Calls Try.prog 67 #[refV a n c D, .int .i64 i] w fun e w' => e = .returned (.tuple #[.string (strN (readD D i).1), .int .i64 ((readD D i).2 : Nat)]) ∧ Same w w' := by
  have A := fun w' => rs_at a n c D hn i w'
  have SS := Lib.hid hs
  obtain ⟨E, hE⟩ : ∃ E, errD D i = E := ⟨_, rfl⟩
  rw [hE] at A
  have A := Lib.hid A
  by_cases h0 : E = 0
  · subst h0
    obtain ⟨-, hi0, hi1⟩ := errD_zero hE
    obtain ⟨N, hN⟩ : ∃ N : Nat, i = (N : Int) := ⟨i.toNat, by omega⟩
    subst hN
    have hN : N < D.s.length := by omega
    have hx := get_of hN
    have er : readD D (N : Nat) = ((D.s.getD N sec0).has, 0) := by unfold readD; rw [if_pos hE, Int.toNat_natCast]
    rw [er]
    obtain ⟨x, hxx⟩ : ∃ x, D.s.getD N sec0 = x := ⟨_, rfl⟩
    rw [hxx] at hx ⊢
    rcases hs with h | ⟨b, o, rfl, hb, hc⟩
    · rw [h] at hN; simp at hN
    have c0 := (hc N x hx).1
    have hn1 : (N : Int) < (n : Int) := by omega
    obtain ⟨s, off, calls, after, done⟩ := D
    simp only [refV] at A ⊢
    clear hE hx hxx er hc hn
    go_enter Try.func67, Try.ntmps67
    go_wp2_with fail
    refine (A.out _).mono ?_
    rintro e w3 ⟨rfl, k3⟩
    have kb := ((Kept.refl (fun _ => False) w).alloc (.cells #[.slice (some ⟨b, o, none⟩) n c, .bool off, .int .i64 calls, .int .i64 after, .bool done] 43)).trans k3
    have bb := (Blk.new w #[.slice (some ⟨b, o, none⟩) n c, .bool off, .int .i64 calls, .int .i64 after, .bool done] 43).kept k3 (fun h => h)
    have p0 := cell_blk bb
    have c1 := (kb.cell (p := ⟨b, o + N * 3, none⟩) hb (fun h => h)).trans c0
    have KB := Lib.hid kb
    have hN0 : (0 : Int) ≤ (N : Int) := by omega
    clear kb bb k3 c0
    go_wp2_with fail
    go_ret2
    exact ⟨rfl, KB.out⟩
  · have er : readD D i = ([], E) := by unfold readD; rw [if_neg (by rw [hE]; exact h0), hE]
    rw [er]
    have h0' : ¬ (E : Int) = 0 := by omega
    obtain ⟨s, off, calls, after, done⟩ := D
    simp only [refV] at A ⊢
    clear hE er hn hs
    go_enter Try.func67, Try.ntmps67
    go_wp2_with fail
    refine (A.out _).mono ?_
    rintro e w3 ⟨rfl, k3⟩
    have KB := Lib.hid (((Kept.refl (fun _ => False) w).alloc (.cells #[.slice a n c, .bool off, .int .i64 calls, .int .i64 after, .bool done] 43)).trans k3)
    clear k3
    go_wp2_with fail
    go_ret2
    exact ⟨rfl, KB.out⟩

set_option maxHeartbeats 1600000 in
/-- What a call leaves, as a value. -/
theorem rs_call (a a' : Option Addr) (n c n' c' : Nat) (D : Dsk) (s : List Sec) (hoff : D.off = false) (haft : -1 ≤ D.after ∧ D.after < 9223372036854775808) (w : World) :
    Calls Try.prog 93 #[refV a n c D, refV a' n' c' { D with s := s }] w fun e w' =>
      e = .returned (.tuple #[if D.after = 0 ∧ D.done = false then refV a n c (callD D s).1 else refV a' n' c' (callD D s).1, .int .i64 ((callD D s).2 : Nat)]) ∧ Same w w' := by
  obtain ⟨S, off, calls, after, done⟩ := D
  dsimp only at hoff haft
  subst hoff
  by_cases h0 : after = 0
  · subst h0
    cases done
    · have e1 : callD ⟨S, false, calls, 0, false⟩ s = (⟨S, true, wrap64 (calls + 1), -1, false⟩, 8) := by simp [callD]
      rw [e1, if_pos ⟨rfl, rfl⟩]
      simp only [refV]
      clear e1
      go_enter Try.func93, Try.ntmps93
      go_wp2_with fail
      go_region
      all_goals go_wp2_with fail
      all_goals
        refine bodyPost_ret (results_two_tmp rfl _ _ _ _ _ _ rfl (Blk.new' _ _ _ (by simp)) Try.underlying43 rfl (by kernel_rfl)) rfl ?_
        exact ⟨rfl, by repeat (first | exact Kept.refl _ _ | with_reducible refine Kept.drew ?_ | with_reducible refine Kept.alloc ?_ _)⟩
    · have e1 : callD ⟨S, false, calls, 0, true⟩ s = (⟨s, true, wrap64 (calls + 1), -1, true⟩, 8) := by simp [callD]
      rw [e1, if_neg (fun q => by cases q.2)]
      simp only [refV]
      clear e1
      go_enter Try.func93, Try.ntmps93
      go_wp2_with fail
      go_region
      all_goals go_wp2_with fail
      all_goals
        refine bodyPost_ret (results_two_tmp rfl _ _ _ _ _ _ rfl (Blk.new' _ _ _ (by simp)) Try.underlying43 rfl (by kernel_rfl)) rfl ?_
        exact ⟨rfl, by repeat (first | exact Kept.refl _ _ | with_reducible refine Kept.drew ?_ | with_reducible refine Kept.alloc ?_ _)⟩
  · by_cases h1 : after = -1
    · subst h1
      have e1 : callD ⟨S, false, calls, -1, done⟩ s = (⟨s, false, wrap64 (calls + 1), -1, done⟩, 0) := by simp [callD]
      rw [e1, if_neg (fun q => by cases q.1)]
      simp only [refV]
      clear e1
      go_enter Try.func93, Try.ntmps93
      go_wp2_with fail
      go_region
      all_goals go_wp2_with fail
      all_goals
        refine bodyPost_ret (results_two_tmp rfl _ _ _ _ _ _ rfl (Blk.new' _ _ _ (by simp)) Try.underlying43 rfl (by kernel_rfl)) rfl ?_
        exact ⟨rfl, by repeat (first | exact Kept.refl _ _ | with_reducible refine Kept.drew ?_ | with_reducible refine Kept.alloc ?_ _)⟩
    · have e1 : callD ⟨S, false, calls, after, done⟩ s = (⟨s, false, wrap64 (calls + 1), after - 1, done⟩, 0) := by simp [callD, h0, h1]
      have hp : 0 ≤ after := by omega
      have ex : wrap64 (after - 1) = after - 1 := by unfold wrap64; omega
      have hb0 : (after == 0) = false := by simp [h0]
      rw [e1, if_neg (fun q => h0 q.1)]
      simp only [refV]
      clear e1
      go_enter Try.func93, Try.ntmps93
      go_wp2_with fail
      go_region
      all_goals go_wp2_with fail
      all_goals
        refine bodyPost_ret (results_two_tmp rfl _ _ _ _ _ _ rfl (Blk.new' _ _ _ (by simp)) Try.underlying43 rfl (by kernel_rfl)) rfl ?_
        exact ⟨rfl, by repeat (first | exact Kept.refl _ _ | with_reducible refine Kept.drew ?_ | with_reducible refine Kept.alloc ?_ _)⟩
end Go.Proofs.Ytlmpkonfclnceaa
