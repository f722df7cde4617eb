/- The calls of a disk that is not there. -/
import Derived.Test.YtlmpkonfclnceaaSame3
namespace Go.Proofs.Ytlmpkonfclnceaa
open Go.RowKit

theorem nil_power (w : World) (a : Option Addr) (l c : Nat) : Calls Try.prog 17 #[.pointer none, .slice a l c] w fun e w' => e = .returned (.tuple #[]) ∧ Same w w' := by
  go_enter Try.func17, Try.ntmps17
  go_wp2_with fail
  exact bodyPost_ret (results_none rfl _ _ _) rfl ⟨rfl, by repeat (first | exact Kept.refl _ _ | with_reducible refine Kept.alloc ?_ _)⟩
theorem nil_read (w : World) (n : Int) : Calls Try.prog 18 #[.pointer none, .int .i64 n] w fun e w' => e = .returned (.tuple #[.slice none 0 0, .int .i64 1]) ∧ Same w w' := by
  go_enter Try.func18, Try.ntmps18
  go_wp2_with fail
  refine (sd_at_nil _ n).mono ?_
  rintro e w3 ⟨rfl, rfl⟩
  go_wp2_with fail
  go_ret2
  exact ⟨rfl, Kept.refl _ _⟩
theorem nil_write (w : World) (n : Int) (a : Option Addr) (l c : Nat) : Calls Try.prog 14 #[.pointer none, .int .i64 n, .slice a l c] w fun e w' => e = .returned (.int .i64 1) ∧ Same w w' := by
  go_enter Try.func14, Try.ntmps14
  go_wp2_with fail
  refine (sd_at_nil _ n).mono ?_
  rintro e w3 ⟨rfl, rfl⟩
  go_wp2_with fail
  go_ret
  exact ⟨rfl, by repeat (first | exact Kept.refl _ _ | with_reducible refine Kept.alloc ?_ _)⟩
theorem nil_sync (w : World) : Calls Try.prog 16 #[.pointer none] w fun e w' => e = .returned (.int .i64 1) ∧ Same w w' := by
  go_enter Try.func16, Try.ntmps16
  go_wp2_with fail
  refine (sd_asked_nil _).mono ?_
  rintro e w3 ⟨rfl, rfl⟩
  go_wp2_with fail
  go_ret
  exact ⟨rfl, by repeat (first | exact Kept.refl _ _ | with_reducible refine Kept.alloc ?_ _)⟩
theorem nil_break (w : World) (n : Int) (o : Bool) : Calls Try.prog 26 #[.pointer none, .int .i64 n, .bool o] w fun e w' => e = .returned (.int .i64 1) ∧ Same w w' := by
  go_enter Try.func26, Try.ntmps26
  go_wp2_with fail
  refine (sd_asked_nil _).mono ?_
  rintro e w3 ⟨rfl, rfl⟩
  go_wp2_with fail
  go_ret
  exact ⟨rfl, by repeat (first | exact Kept.refl _ _ | with_reducible refine Kept.alloc ?_ _)⟩
theorem nil_off (w : World) : Calls Try.prog 27 #[.pointer none] w fun e w' => e = .returned (.bool false) ∧ Same w w' := by
  go_enter Try.func27, Try.ntmps27
  go_wp2_with fail
  go_ret
  exact ⟨rfl, Kept.refl _ _⟩
theorem nil_size (w : World) : Calls Try.prog 23 #[.pointer none] w fun e w' => e = .returned (.int .i64 0) ∧ Same w w' := by
  go_enter Try.func23, Try.ntmps23
  go_wp2_with fail
  go_ret
  exact ⟨rfl, Kept.refl _ _⟩
theorem nil_calls (w : World) : Calls Try.prog 25 #[.pointer none] w fun e w' => e = .returned (.int .i64 0) ∧ Same w w' := by
  go_enter Try.func25, Try.ntmps25
  go_wp2_with fail
  go_ret
  exact ⟨rfl, Kept.refl _ _⟩
theorem nil_waits (w : World) : Calls Try.prog 19 #[.pointer none] w fun e w' => e = .returned (.slice none 0 0) ∧ Same w w' := by
  go_enter Try.func19, Try.ntmps19
  go_wp2_with fail
  go_ret
  exact ⟨rfl, Kept.refl _ _⟩
theorem nil_fork (w : World) : Calls Try.prog 24 #[.pointer none] w fun e w' => e = .returned (.pointer none) ∧ Same w w' := by
  go_enter Try.func24, Try.ntmps24
  go_wp2_with fail
  go_ret
  exact ⟨rfl, by repeat (first | exact Kept.refl _ _ | with_reducible refine Kept.alloc ?_ _)⟩
end Go.Proofs.Ytlmpkonfclnceaa
