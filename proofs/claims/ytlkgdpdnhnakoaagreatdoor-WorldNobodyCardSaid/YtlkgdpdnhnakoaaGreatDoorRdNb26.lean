/- RdNb26: WorldNobody of any values; by readings. -/
import Derived.Test.YtlkgdpdnhnakoaaGreatDoorGTx
import Derived.Test.YtlkgdpdnhnakoaaGreatDoorAw26
import Derived.Test.YtlkgdpdnhnakoaaGreatDoorRows
import Derived.Test.YtlkgdpdnhnakoaaGreatDoorBmRead
namespace Go.Proofs.YtlkgdpdnhnakoaaGreatDoor
open Go.ChangeShapes Go.WideShapes Go.ChangeAt Go.RowKit
namespace Ev
/-- The values. -/
def valW (a b c : Int) : Nat → Nat × Nat
  | 0 => (0, znum a)
  | 1 => (0, znum b)
  | 2 => (0, znum c)
  | _ => (0, 0)
theorem awW_ok (vals : Nat → Nat × Nat) : YOkV vals 27 awW := by
  intro ob hT args h h' z q V w xs s hr
  unfold awW at q
  split at q
  case h_2 => cases q
  rename_i hx
  injection q with q; injection q with q1 q2; subst q1; subst q2
  match xs, hr with
  | [], _ =>
    refine (aw26 w (hT w (tab_at s hx))).mono ?_
    rintro e w' ⟨rfl, k⟩
    obtain ⟨s1, x1⟩ := Sim.same s k
    exact ⟨_, rfl, V, rfl, s1, x1⟩
theorem fW_ok {vals : Nat → Nat × Nat} {a b c : Int} (v0 : vals 0 = (0, znum a)) (v1 : vals 1 = (0, znum b)) (v2 : vals 2 = (0, znum c)) : ∀ f ∈ fW (decide (0 ≤ a)) (decide (a ≤ 256)) (decide (4 ≤ b)) (decide (b ≤ 512)) (decide (1 ≤ c)) (decide (c ≤ 4096)), f.Ok vals := by
  intro f hf
  simp only [fW, List.mem_cons, List.not_mem_nil, or_false] at hf
  rcases hf with rfl | rfl | rfl | rfl | rfl | rfl
  · exact fq_geq (num_of v0) rfl
  · exact fq_leq (num_of v0) rfl
  · exact fq_geq (num_of v1) rfl
  · exact fq_leq (num_of v1) rfl
  · exact fq_geq (num_of v2) rfl
  · exact fq_leq (num_of v2) rfl
theorem mayW_eq (a b c : Int) : mayW a b c = (decide (0 ≤ a) && decide (a ≤ 256) && decide (4 ≤ b) && decide (b ≤ 512) && decide (1 ≤ c) && decide (c ≤ 4096)) := by
  unfold mayW
  rw [Bool.eq_iff_iff]
  simp only [decide_eq_true_eq, Bool.and_eq_true]
  omega
theorem runW_any (a b c d e f : Bool) : runW (fW a b c d e f) (a && b && c && d && e && f) = true := by
  have h := runW_all
  have m : ∀ x : Bool, x ∈ [true, false] := fun x => by cases x <;> decide
  have h1 := List.all_eq_true.1 h a (m a)
  have h2 := List.all_eq_true.1 h1 b (m b)
  have h3 := List.all_eq_true.1 h2 c (m c)
  have h4 := List.all_eq_true.1 h3 d (m d)
  have h5 := List.all_eq_true.1 h4 e (m e)
  exact List.all_eq_true.1 h5 f (m f)
end Ev
set_option maxRecDepth 100000 in
open Ev in
theorem nobody26_any (w : World) (hT : TabOK w) (a b c : Int) :
    Calls Tryz.prog 4 #[.int .i64 a, .int .i64 b, .int .i64 c] w fun e w' => e = .returned (.bool true) ∧ Same w w' := by
  have q := runW_any (decide (0 ≤ a)) (decide (a ≤ 256)) (decide (4 ≤ b)) (decide (b ≤ 512)) (decide (1 ≤ c)) (decide (c ≤ 4096))
  rw [← mayW_eq] at q
  unfold runW at q
  have v0 : valW a b c 0 = (0, znum a) := rfl
  have v1 : valW a b c 1 = (0, znum b) := rfl
  have v2 : valW a b c 2 = (0, znum c) := rfl
  have ref : ∀ i, i < 3 → ∀ n, valW a b c i = (0, znum n) → (Ce.X (numG + i)).rel (V0 numG 3 (valW a b c)) (.int .i64 n) := fun i hi n e => ⟨_, V0_sym hi, by show _ = symV (valW a b c i).1 (valW a b c i).2; rw [e]; exact (sym_int n).symm⟩
  refine runQ (xs := [.int .i64 a, .int .i64 b, .int .i64 c]) q (fW_ok v0 v1 v2) (fun _ h => by cases h) (fun _ h => by cases h) (fun _ h => by cases h) ?_ w hT ⟨ref 0 (by decide) a v0, ref 1 (by decide) b v1, ref 2 (by decide) c v2, trivial⟩
  intro e he
  simp only [entW, List.mem_cons, List.not_mem_nil, or_false] at he
  rcases he with rfl | rfl
  · exact awW_ok _
  · exact newO_ok v0 v1 v2 rfl
set_option maxRecDepth 100000 in
theorem nobody26_read {H : Type} {enc : TypeId × Value → H} (W : World) (hT : TabOK W) {base : Nat} {v0 v1 v2 : Value} {d0 d1 d2 : DataW H} {p0 p1 p2 : List MemPlace}
    (h0 : DataW.Trod enc Tryz.prog W 0 (fun _ => true) true 3 v0 d0 p0) (k0 : Value.okWide Tryz.prog W .any base 3 v0)
    (h1 : DataW.Trod enc Tryz.prog W 0 (fun _ => true) true 3 v1 d1 p1) (k1 : Value.okWide Tryz.prog W .any base 3 v1)
    (h2 : DataW.Trod enc Tryz.prog W 0 (fun _ => true) true 3 v2 d2 p2) (k2 : Value.okWide Tryz.prog W .any base 3 v2) :
    Calls Tryz.prog 4 #[v0, v1, v2] W fun e W' => e = .returned (.bool true) ∧ Same W W' := by
  obtain ⟨a, rfl, -⟩ := int_read h0 k0
  obtain ⟨b, rfl, -⟩ := int_read h1 k1
  obtain ⟨c, rfl, -⟩ := int_read h2 k2
  exact nobody26_any W hT a b c
end Go.Proofs.YtlkgdpdnhnakoaaGreatDoor
