/- Next and Push of package oracle; the document's clock. -/
import Derived.Test.YthiafdnemfihgaaOra3
namespace Go.Proofs.Ythiafdnemfihgaa
open Go.RowKit

set_option maxHeartbeats 800000 in
theorem ora_next (b : Nat) (n : Int) (s : Bool) (w : World) (hb : Ora w b n s) (hi : OraInv n s) :
    Calls Try.prog 7 #[.pointer (some ⟨b, 0, none⟩)] w fun e w' =>
      e = .returned (.tuple #[.int .i64 (ckNext n).2.1, .int .i64 (ckNext n).2.2]) ∧ Ora w' b (ckNext n).1 true ∧ Kept (fun k => k = b) w w' := by
  obtain ⟨h0, h1, h2⟩ := hi
  have hbe := (ora_begin b n s 0 w hb).mono (R' := fun e w' => e = .returned (.bool (!s)) ∧ Ora w' b n true ∧ Kept (fun k => k = b) w w') (by
    intro e w' h
    cases s with
    | true => exact h
    | false => have := h2 rfl; subst this; exact h)
  have HB := Lib.hid hbe; clear hbe hb h2
  by_cases hm : 1099511627776 ≤ n
  all_goals
    go_enter Try.func7, Try.ntmps7
    go_wp2_with (go_at_call 16; go_must (refine HB.out.mono ?_); rintro e w2 ⟨rfl, hb2, hk2⟩; have H2 := Lib.hid hb2; have K2 := Lib.hid hk2; clear hb2 hk2)
    refine wp_loop_rounds 1 ?_; rw [rounds_succ]
    go_wp2_with (first | (go_at_call 17; go_must (refine (at_load64 _ n _ (by exact Blk.cell H2.out 0 rfl)).mono ?_); rintro e w' ⟨rfl, rfl⟩) | (go_at_call 18; go_must (refine (at_cas_hit _ n _ _ (by exact Blk.cell H2.out 0 rfl) (by exact Blk.free H2.out 0)).mono ?_); rintro e w' ⟨rfl, rfl⟩))
    go_ret2
    first
      | exact ⟨by simp [ckNext, hm], by simp only [ckNext, hm, if_true]; exact H2.out, K2.out⟩
      | exact ⟨by rw [ckNext, if_neg (by omega)]; rfl, by rw [ckNext, if_neg (by omega)]; exact Blk.set H2.out 0 _, K2.out.setCell (fun _ => rfl) _⟩

set_option maxHeartbeats 800000 in
theorem ora_push (b : Nat) (n f : Int) (s : Bool) (w : World) (hb : Ora w b n s) (hi : OraInv n s) :
    Calls Try.prog 9 #[.pointer (some ⟨b, 0, none⟩), .int .i64 f] w fun e w' =>
      e = .returned (.int .i64 (ckPush n s f).2) ∧ Ora w' b (ckPush n s f).1.1 (ckPush n s f).1.2 ∧ Kept (fun k => k = b) w w' := by
  obtain ⟨h0, h1, h2⟩ := hi
  have hbe := (ora_begin b n s 0 w hb).mono (R' := fun e w' => e = .returned (.bool (!s)) ∧ Ora w' b n true ∧ Kept (fun k => k = b) w w') (by
    intro e w' h
    cases s with
    | true => exact h
    | false => have := h2 rfl; subst this; exact h)
  have HB := Lib.hid hbe; clear hbe h2
  have HB0 := Lib.hid hb; clear hb
  cases hi : ckIn f
  · have hin := (ora_in f w).mono (R' := fun e w' => e = .returned (.bool false) ∧ w = w') fun _ _ h => by rw [hi] at h; exact h
    have HIN := Lib.hid hin; clear hin
    have HI := Lib.hid hi; clear hi
    go_enter Try.func9, Try.ntmps9
    go_wp2_with (go_at_call 19; go_must (refine HIN.out.mono ?_); rintro e w2 ⟨rfl, rfl⟩)
    go_ret
    exact ⟨by simp [ckPush, HI.out], by simp only [ckPush, HI.out]; exact HB0.out, Kept.refl _ _⟩
  · have hin := (ora_in f w).mono (R' := fun e w' => e = .returned (.bool true) ∧ w = w') fun _ _ h => by rw [hi] at h; exact h
    have HIN := Lib.hid hin; clear hin
    have HI := Lib.hid hi; clear hi
    by_cases hm : f ≤ n
    all_goals
      go_enter Try.func9, Try.ntmps9
      go_wp2_with (first | (go_at_call 19; go_must (refine HIN.out.mono ?_); rintro e w2 ⟨rfl, rfl⟩) | (go_at_call 16; go_must (refine HB.out.mono ?_); rintro e w2 ⟨rfl, hb2, hk2⟩; have H2 := Lib.hid hb2; have K2 := Lib.hid hk2; clear hb2 hk2))
      refine wp_loop_rounds 1 ?_; rw [rounds_succ]
      go_wp2_with (first | (go_at_call 17; go_must (refine (at_load64 _ n _ (by exact Blk.cell H2.out 0 rfl)).mono ?_); rintro e w' ⟨rfl, rfl⟩) | (go_at_call 18; go_must (refine (at_cas_hit _ n _ _ (by exact Blk.cell H2.out 0 rfl) (by exact Blk.free H2.out 0)).mono ?_); rintro e w' ⟨rfl, rfl⟩))
      go_ret
      first
        | exact ⟨by simp [ckPush, HI.out], by simp only [ckPush, HI.out]; rw [show max n f = n from by omega]; exact H2.out, K2.out⟩
        | exact ⟨by simp [ckPush, HI.out], by simp only [ckPush, HI.out]; rw [show max n f = f from by omega]; exact Blk.set H2.out 0 _, K2.out.setCell (fun _ => rfl) _⟩

/-- A clock as a value. -/
abbrev ckV (n : Int) (s : Bool) : Value := .agg #[.int .i64 n, .bool s]

set_option maxHeartbeats 800000 in
theorem ck_start (n f : Int) (s : Bool) (w : World) :
    Calls Try.prog 13 #[ckV n s, .int .i64 f] w fun e w' =>
      e = .returned (.tuple #[ckV (ckStart n s f).1.1 (ckStart n s f).1.2, .int .i64 (ckStart n s f).2]) ∧ Same w w' := by
  cases hi : ckIn f
  · have HE : Hid (ckStart n s f = ((n, s), 9)) := by show _ = _; simp [ckStart, hi]
    have HIN := Lib.hid (fun w => (ck_in f w).mono (R' := fun e w' => e = .returned (.bool false) ∧ w = w') fun _ _ h => by rw [hi] at h; exact h)
    clear hi
    go_enter Try.func13, Try.ntmps13
    go_wp2_with (go_at_call 21; go_must (refine (HIN.out _).mono ?_); rintro e w2 ⟨rfl, rfl⟩)
    refine bodyPost_ret (v := .tuple #[ckV n s, .int .i64 9]) (by simp [results, Try.results13, go_sem]) rfl ⟨by rw [HE.out], ?_⟩
    repeat (first | exact Kept.refl _ _ | refine Kept.drew ?_ | refine Kept.setCell ?_ (by simp) _ | refine Kept.alloc ?_ _)
  · have HIN := Lib.hid (fun w => (ck_in f w).mono (R' := fun e w' => e = .returned (.bool true) ∧ w = w') fun _ _ h => by rw [hi] at h; exact h)
    cases s
    · have HE : Hid (ckStart n false f = ((f, true), 0)) := by show _ = _; simp [ckStart, hi]
      clear hi
      go_enter Try.func13, Try.ntmps13
      go_wp2_with (go_at_call 21; go_must (refine (HIN.out _).mono ?_); rintro e w2 ⟨rfl, rfl⟩)
      refine bodyPost_ret (v := .tuple #[ckV f true, .int .i64 0]) (by simp [results, Try.results13, go_sem]) rfl ⟨by rw [HE.out], ?_⟩
      repeat (first | exact Kept.refl _ _ | refine Kept.drew ?_ | refine Kept.setCell ?_ (by simp) _ | refine Kept.alloc ?_ _)
    · have HE : Hid (ckStart n true f = ((n, true), 11)) := by show _ = _; simp [ckStart, hi]
      clear hi
      go_enter Try.func13, Try.ntmps13
      go_wp2_with (go_at_call 21; go_must (refine (HIN.out _).mono ?_); rintro e w2 ⟨rfl, rfl⟩)
      refine bodyPost_ret (v := .tuple #[ckV n true, .int .i64 11]) (by simp [results, Try.results13, go_sem]) rfl ⟨by rw [HE.out], ?_⟩
      repeat (first | exact Kept.refl _ _ | refine Kept.drew ?_ | refine Kept.setCell ?_ (by simp) _ | refine Kept.alloc ?_ _)

set_option maxHeartbeats 800000 in
theorem ck_push (n f : Int) (s : Bool) (w : World) :
    Calls Try.prog 14 #[ckV n s, .int .i64 f] w fun e w' =>
      e = .returned (.tuple #[ckV (ckPush n s f).1.1 (ckPush n s f).1.2, .int .i64 (ckPush n s f).2]) ∧ Same w w' := by
  cases hi : ckIn f
  · have HE : Hid (ckPush n s f = ((n, s), 9)) := by show _ = _; simp [ckPush, hi]
    have HIN := Lib.hid (fun w => (ck_in f w).mono (R' := fun e w' => e = .returned (.bool false) ∧ w = w') fun _ _ h => by rw [hi] at h; exact h)
    clear hi
    go_enter Try.func14, Try.ntmps14
    go_wp2_with (go_at_call 21; go_must (refine (HIN.out _).mono ?_); rintro e w2 ⟨rfl, rfl⟩)
    refine bodyPost_ret (v := .tuple #[ckV n s, .int .i64 9]) (by simp [results, Try.results14, go_sem]) rfl ⟨by rw [HE.out], ?_⟩
    repeat (first | exact Kept.refl _ _ | refine Kept.drew ?_ | refine Kept.setCell ?_ (by simp) _ | refine Kept.alloc ?_ _)
  · have HIN := Lib.hid (fun w => (ck_in f w).mono (R' := fun e w' => e = .returned (.bool true) ∧ w = w') fun _ _ h => by rw [hi] at h; exact h)
    have he : ckPush n s f = ((max n f, true), 0) := by simp [ckPush, hi]
    clear hi
    by_cases hm : f ≤ n
    · have HE : Hid (ckPush n s f = ((n, true), 0)) := by show _ = _; rw [he, show max n f = n from by omega]
      clear he
      go_enter Try.func14, Try.ntmps14
      go_wp2_with (go_at_call 21; go_must (refine (HIN.out _).mono ?_); rintro e w2 ⟨rfl, rfl⟩)
      refine bodyPost_ret (v := .tuple #[ckV n true, .int .i64 0]) (by simp [results, Try.results14, go_sem]) rfl ⟨by rw [HE.out], ?_⟩
      repeat (first | exact Kept.refl _ _ | refine Kept.drew ?_ | refine Kept.setCell ?_ (by simp) _ | refine Kept.alloc ?_ _)
    · have HE : Hid (ckPush n s f = ((f, true), 0)) := by show _ = _; rw [he, show max n f = f from by omega]
      clear he
      go_enter Try.func14, Try.ntmps14
      go_wp2_with (go_at_call 21; go_must (refine (HIN.out _).mono ?_); rintro e w2 ⟨rfl, rfl⟩)
      refine bodyPost_ret (v := .tuple #[ckV f true, .int .i64 0]) (by simp [results, Try.results14, go_sem]) rfl ⟨by rw [HE.out], ?_⟩
      repeat (first | exact Kept.refl _ _ | refine Kept.drew ?_ | refine Kept.setCell ?_ (by simp) _ | refine Kept.alloc ?_ _)

set_option maxHeartbeats 800000 in
theorem ck_next (n : Int) (s : Bool) (w : World) (h0 : 0 ≤ n) (h1 : n ≤ 1099511627776) :
    Calls Try.prog 15 #[ckV n s] w fun e w' =>
      e = .returned (.tuple #[ckV (ckNext n).1 true, .int .i64 (ckNext n).2.1, .int .i64 (ckNext n).2.2]) ∧ Same w w' := by
  by_cases hm : 1099511627776 ≤ n
  · have HE : Hid (ckNext n = (n, 0, 7)) := by show _ = _; simp [ckNext, hm]
    go_enter Try.func15, Try.ntmps15
    go_wp2
    refine bodyPost_ret (v := .tuple #[ckV n true, .int .i64 0, .int .i64 7]) (by simp [results, Try.results15, go_sem]) rfl ⟨by rw [HE.out], ?_⟩
    repeat (first | exact Kept.refl _ _ | refine Kept.drew ?_ | refine Kept.setCell ?_ (by simp) _ | refine Kept.alloc ?_ _)
  · have HE : Hid (ckNext n = (n + 1, n + 1, 0)) := by show _ = _; simp [ckNext, hm]
    go_enter Try.func15, Try.ntmps15
    go_wp2
    go_region
    all_goals
      go_wp2
      refine bodyPost_ret (v := .tuple #[ckV (n + 1) true, .int .i64 (n + 1), .int .i64 0]) (by simp [results, Try.results15, go_sem]) rfl ⟨by rw [HE.out], ?_⟩
      repeat (first | exact Kept.refl _ _ | refine Kept.drew ?_ | refine Kept.setCell ?_ (by simp) _ | refine Kept.alloc ?_ _)

end Go.Proofs.Ythiafdnemfihgaa
