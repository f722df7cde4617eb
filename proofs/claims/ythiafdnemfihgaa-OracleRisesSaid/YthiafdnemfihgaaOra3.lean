/- Package oracle's methods and the document's clock, by one plain function each. -/
import Derived.Test.YthiafdnemfihgaaOra2
namespace Go.Proofs.Ythiafdnemfihgaa
open Go.RowKit

/-- Nothing that was there has turned. -/
abbrev Same (w w' : World) : Prop := Kept (fun _ => False) w w'

def bitI (s : Bool) : Int := if s then 1 else 0

/-- Block b is an oracle that stands at n and was started or not. -/
def Ora (w : World) (b : Nat) (n : Int) (s : Bool) : Prop := Blk w b (oraC n (bitI s) 0 0 (bitI s)) 55

def maxTS : Int := 1099511627776
def OraInv (n : Int) (s : Bool) : Prop := 0 ≤ n ∧ n ≤ 1099511627776 ∧ (s = false → n = 0)

/-- The document's clock. -/
def ckIn (n : Int) : Bool := decide (0 ≤ n) && decide (n ≤ 1099511627776)
def ckStart (n : Int) (s : Bool) (f : Int) : (Int × Bool) × Int := if !ckIn f then ((n, s), 9) else if s then ((n, s), 11) else ((f, true), 0)
def ckNext (n : Int) : Int × Int × Int := if 1099511627776 ≤ n then (n, 0, 7) else (n + 1, n + 1, 0)
def ckPush (n : Int) (s : Bool) (f : Int) : (Int × Bool) × Int := if !ckIn f then ((n, s), 9) else ((max n f, true), 0)

set_option maxHeartbeats 400000 in
theorem ora_in (n : Int) (w : World) :
    Calls Try.prog 19 #[.int .i64 n] w fun e w' => e = .returned (.bool (ckIn n)) ∧ w = w' := by
  by_cases h : 0 ≤ n
  all_goals
    go_enter Try.func19, Try.ntmps19
    go_wp2
    go_ret
    exact ⟨by simp [ckIn]; omega, rfl⟩

set_option maxHeartbeats 400000 in
theorem ck_in (n : Int) (w : World) :
    Calls Try.prog 21 #[.int .i64 n] w fun e w' => e = .returned (.bool (ckIn n)) ∧ w = w' := by
  by_cases h : 0 ≤ n
  all_goals
    go_enter Try.func21, Try.ntmps21
    go_wp2
    go_ret
    exact ⟨by simp [ckIn]; omega, rfl⟩

/-- 'begin', started already. -/
theorem ora_begin_done (b : Nat) (n d ms se st : Int) (f : Int) (w : World) (hn : ¬ d = 0)
    (hb : Blk w b (oraC n d ms se st) 55) :
    Calls Try.prog 16 #[.pointer (some ⟨b, 0, none⟩), .int .i64 f] w fun e w' =>
      e = .returned (.bool false) ∧ Same w w' := by
  have hmf : ∀ (fn : Fn) (first cap : Array Value) (w : World), (Instr.makeFunc fn first cap).run Try.prog w = .ok (.func fn first cap) w := fun _ _ _ _ => rfl
  have hlt := hb.lt
  have HB : Hid (Blk w b (oraC n d ms se st) 55) := hb
  clear hb
  go_enter Try.func16, Try.ntmps16
  go_wp2_with (go_at_call 22; go_must (refine (ora_do_done b n d ms se st _ _ hn (((HB.out.alloc _).alloc _).alloc _)).mono ?_); rintro e w2 ⟨rfl, rfl⟩)
  go_ret
  exact ⟨rfl, (((Kept.refl _ w).alloc _).alloc _).alloc _⟩

theorem ora_begin (b : Nat) (n : Int) (s : Bool) (f : Int) (w : World) (hb : Ora w b n s) :
    Calls Try.prog 16 #[.pointer (some ⟨b, 0, none⟩), .int .i64 f] w fun e w' =>
      e = .returned (.bool (!s)) ∧ Ora w' b (if s then n else f) true ∧ Kept (fun k => k = b) w w' := by
  cases s with
  | false => exact (ora_begin_first b n f 0 0 w hb).mono fun _ _ ⟨he, hb', hk⟩ => ⟨he, hb', hk⟩
  | true => exact (ora_begin_done b n 1 0 0 1 f w (by decide) hb).mono fun _ _ ⟨he, hk⟩ => ⟨he, Blk.kept hb hk (fun h => h), hk.mono (fun _ _ h => h.elim)⟩

set_option maxHeartbeats 400000 in
theorem ora_start (b : Nat) (n : Int) (s : Bool) (f : Int) (w : World) (hb : Ora w b n s) :
    Calls Try.prog 8 #[.pointer (some ⟨b, 0, none⟩), .int .i64 f] w fun e w' =>
      e = .returned (.int .i64 (ckStart n s f).2) ∧ Ora w' b (ckStart n s f).1.1 (ckStart n s f).1.2 ∧ Kept (fun k => k = b) w w' := by
  have hnot : ∀ (x : Bool) (w : World), (Op.unary .not (.bool x)).run Try.prog w = .ok (.bool (!x)) w := fun _ _ => rfl
  cases hi : ckIn f
  · have hin := (ora_in f w).mono (R' := fun e w' => e = .returned (.bool false) ∧ w = w') fun _ _ h => by rw [hi] at h; exact h
    have HB := Lib.hid hb; clear hb
    have HIN := Lib.hid hin; clear hin
    have HI := Lib.hid hi; clear hi
    go_enter Try.func8, Try.ntmps8
    go_wp2_with (go_at_call 19; go_must (refine HIN.out.mono ?_); rintro e w2 ⟨rfl, rfl⟩)
    go_ret
    exact ⟨by simp [ckStart, HI.out], by simp only [ckStart, HI.out]; exact HB.out, Kept.refl _ _⟩
  · have hin := (ora_in f w).mono (R' := fun e w' => e = .returned (.bool true) ∧ w = w') fun _ _ h => by rw [hi] at h; exact h
    have HIN := Lib.hid hin; clear hin
    have HI := Lib.hid hi; clear hi
    have hbe := ora_begin b n s f w hb
    clear hb
    cases s
    all_goals
      have HB := Lib.hid hbe; clear hbe
      go_enter Try.func8, Try.ntmps8
      go_wp2_with (first | (go_at_call 19; go_must (refine HIN.out.mono ?_); rintro e w2 ⟨rfl, rfl⟩) | (go_at_call 16; go_must (refine HB.out.mono ?_); rintro e w2 ⟨rfl, hb2, hk2⟩; have H2 := Lib.hid hb2; have K2 := Lib.hid hk2; clear hb2 hk2))
      go_ret
      exact ⟨by simp [ckStart, HI.out], by simp only [ckStart, HI.out]; exact H2.out, K2.out⟩

theorem ora_start_nil (f : Int) (w : World) : Calls Try.prog 8 #[.pointer none, .int .i64 f] w fun e w' => e = .returned (.int .i64 1) ∧ w = w' := by
  go_enter Try.func8, Try.ntmps8
  go_wp2
  go_ret
  exact ⟨rfl, rfl⟩

theorem ora_push_nil (f : Int) (w : World) : Calls Try.prog 9 #[.pointer none, .int .i64 f] w fun e w' => e = .returned (.int .i64 1) ∧ w = w' := by
  go_enter Try.func9, Try.ntmps9
  go_wp2
  go_ret
  exact ⟨rfl, rfl⟩

theorem ora_next_nil (w : World) : Calls Try.prog 7 #[.pointer none] w fun e w' => e = .returned (.tuple #[.int .i64 0, .int .i64 1]) ∧ w = w' := by
  go_enter Try.func7, Try.ntmps7
  go_wp2
  go_ret2
  exact ⟨rfl, rfl⟩

theorem ora_now_nil (w : World) : Calls Try.prog 10 #[.pointer none] w fun e w' => e = .returned (.int .i64 0) ∧ w = w' := by
  go_enter Try.func10, Try.ntmps10
  go_wp2
  go_ret
  exact ⟨rfl, rfl⟩

theorem ora_started_nil (w : World) : Calls Try.prog 11 #[.pointer none] w fun e w' => e = .returned (.bool false) ∧ w = w' := by
  go_enter Try.func11, Try.ntmps11
  go_wp2
  go_ret
  exact ⟨rfl, rfl⟩

theorem ora_now (b : Nat) (n : Int) (s : Bool) (w : World) (hb : Ora w b n s) : Calls Try.prog 10 #[.pointer (some ⟨b, 0, none⟩)] w fun e w' => e = .returned (.int .i64 n) ∧ w = w' := by
  have HB := Lib.hid hb; clear hb
  go_enter Try.func10, Try.ntmps10
  go_wp2_with (go_at_call 17; go_must (refine (at_load64 _ n _ (by exact Blk.cell HB.out 0 rfl)).mono ?_); rintro e w' ⟨rfl, rfl⟩)
  go_ret
  exact ⟨rfl, rfl⟩

theorem ora_started (b : Nat) (n : Int) (s : Bool) (w : World) (hb : Ora w b n s) : Calls Try.prog 11 #[.pointer (some ⟨b, 0, none⟩)] w fun e w' => e = .returned (.bool s) ∧ w = w' := by
  have HB := Lib.hid hb; clear hb
  go_enter Try.func11, Try.ntmps11
  go_wp2_with (go_at_call 20; go_must (refine (at_loadB _ (bitI s) _ (by exact Blk.cell HB.out 4 rfl)).mono ?_); rintro e w' ⟨rfl, rfl⟩)
  go_ret
  exact ⟨by cases s <;> rfl, rfl⟩

theorem ora_new (w : World) : Calls Try.prog 5 #[] w fun e w' => e = .returned (.pointer (some ⟨w.heap.size, 0, none⟩)) ∧ Ora w' w.heap.size 0 false ∧ w.alloc (.cells (oraC 0 0 0 0 0) 55) = w' := by
  go_enter Try.func5, Try.ntmps5
  go_wp2
  go_ret
  exact ⟨rfl, Blk.new w _ _, rfl⟩

end Go.Proofs.Ythiafdnemfihgaa
