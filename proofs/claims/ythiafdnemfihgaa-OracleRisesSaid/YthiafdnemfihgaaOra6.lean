/- 'awake' of the statements of package oracle. -/
import Derived.Test.YthiafdnemfihgaaOra5
namespace Go.Proofs.Ythiafdnemfihgaa
open Go.RowKit

/-- A call upon block b, which was made since. -/
theorem Same.own {a w w' : World} {b : Nat} (h : Same a w) (k : Kept (fun k => k = b) w w') (hb : a.heap.size ≤ b) : Same a w' :=
  h.step k (fun i hi e => by omega)

set_option maxHeartbeats 1600000 in
theorem ora_awake (w : World) : Calls Try.prog 12 #[] w fun e w' => e = .returned (.bool true) ∧ Same w w' := by
  have hnew := (ora_new w).mono (R' := fun e w' => e = .returned (.pointer (some ⟨w.heap.size, 0, none⟩)) ∧ Ora w' w.heap.size 0 false ∧ Same w w') fun e w' ⟨he, h, hw⟩ => ⟨he, h, by rw [← hw]; exact (Kept.refl _ w).alloc _⟩
  have c1 := fun w1 (h : Ora w1 w.heap.size 0 false) => (ora_start w.heap.size 0 false 5 w1 h).mono (R' := fun e w' => e = .returned (.int .i64 0) ∧ Ora w' w.heap.size 5 true ∧ Kept (fun k => k = w.heap.size) w1 w') fun _ _ h => h
  have c2 := fun w1 (h : Ora w1 w.heap.size 5 true) => (ora_next w.heap.size 5 true w1 h ⟨by omega, by omega, by decide⟩).mono (R' := fun e w' => e = .returned (.tuple #[.int .i64 6, .int .i64 0]) ∧ Ora w' w.heap.size 6 true ∧ Kept (fun k => k = w.heap.size) w1 w') fun _ _ h => h
  have c3 := fun w1 (h : Ora w1 w.heap.size 6 true) => (ora_push w.heap.size 6 9 true w1 h ⟨by omega, by omega, by decide⟩).mono (R' := fun e w' => e = .returned (.int .i64 0) ∧ Ora w' w.heap.size 9 true ∧ Kept (fun k => k = w.heap.size) w1 w') fun _ _ h => h
  have c4 := fun w1 (h : Ora w1 w.heap.size 9 true) => (ora_next w.heap.size 9 true w1 h ⟨by omega, by omega, by decide⟩).mono (R' := fun e w' => e = .returned (.tuple #[.int .i64 10, .int .i64 0]) ∧ Ora w' w.heap.size 10 true ∧ Kept (fun k => k = w.heap.size) w1 w') fun _ _ h => h
  have c5 := fun w1 (h : Ora w1 w.heap.size 10 true) => (ora_start w.heap.size 10 true 20 w1 h).mono (R' := fun e w' => e = .returned (.int .i64 11) ∧ Ora w' w.heap.size 10 true ∧ Kept (fun k => k = w.heap.size) w1 w') fun _ _ h => h
  have C0 := Lib.hid hnew; have C1 := Lib.hid c1; have C2 := Lib.hid c2; have C3 := Lib.hid c3; have C4 := Lib.hid c4; have C5 := Lib.hid c5
  clear hnew c1 c2 c3 c4 c5
  have hnot : ∀ (x : Bool) (w : World), (Op.unary .not (.bool x)).run Try.prog w = .ok (.bool (!x)) w := fun _ _ => rfl
  go_enter Try.func12, Try.ntmps12
  go_wp2_with fail
  refine C0.out.mono ?_
  rintro e w1 ⟨rfl, h1, k1⟩
  have H1 := Lib.hid h1; have K := Lib.hid k1; clear h1 k1
  go_wp2_with fail
  refine (ora_started w.heap.size 0 false _ H1.out).mono ?_
  rintro e w1 ⟨rfl, rfl⟩
  go_wp2_with fail
  refine (C1.out _ H1.out).mono ?_
  rintro e w2 ⟨rfl, h2, k2⟩
  have H2 := Lib.hid h2; have K := Lib.hid (Same.own K.out k2 (Nat.le_refl _)); clear h2 k2
  go_wp2_with fail
  refine (C2.out _ H2.out).mono ?_
  rintro e w3 ⟨rfl, h2, k2⟩
  have H2 := Lib.hid h2; have K := Lib.hid (Same.own K.out k2 (Nat.le_refl _)); clear h2 k2
  go_wp2_with fail
  refine (C3.out _ H2.out).mono ?_
  rintro e w4 ⟨rfl, h2, k2⟩
  have H2 := Lib.hid h2; have K := Lib.hid (Same.own K.out k2 (Nat.le_refl _)); clear h2 k2
  go_wp2_with fail
  refine (C4.out _ H2.out).mono ?_
  rintro e w5 ⟨rfl, h2, k2⟩
  have H2 := Lib.hid h2; have K := Lib.hid (Same.own K.out k2 (Nat.le_refl _)); clear h2 k2
  go_wp2_with fail
  refine (ora_now w.heap.size 10 true _ H2.out).mono ?_
  rintro e w1 ⟨rfl, rfl⟩
  go_wp2_with fail
  refine (ora_started w.heap.size 10 true _ H2.out).mono ?_
  rintro e w1 ⟨rfl, rfl⟩
  go_wp2_with fail
  refine (C5.out _ H2.out).mono ?_
  rintro e w6 ⟨rfl, h2, k2⟩
  have K := Lib.hid (Same.own K.out k2 (Nat.le_refl _)); clear h2 k2
  go_wp2_with fail
  go_ret
  exact ⟨rfl, K.out⟩

end Go.Proofs.Ythiafdnemfihgaa
