/- GDo: Dm2, Dm4. -/
import Derived.Test.YtpgghajkpjhieaaGreatDoorGDm
import Derived.Test.YtpgghajkpjhieaaGreatDoorGDp
import Derived.Test.YtpgghajkpjhieaaGreatDoorStrC
import Derived.Deep.RegionHeld3
import Derived.Lib.QuietBelow
import Derived.Deep.QuietTactic
import Derived.BigQuiet
import Derived.Lib.MinMax
namespace Go.Proofs.YtpgghajkpjhieaaGreatDoor
open Go.RowKit Go.Sort

theorem bits_or64 (x y : Nat) (hx : x < 256) (hy : y < 256) : bits .or .i64 ((x : Int) * 256) (y : Int) = ((256 * x + y : Nat) : Int) := by
  have e : (x : Int) * 256 = ((256 * x : Nat) : Int) := by omega
  have hor : 256 * x ||| y = 256 * x + y := by
    have := Nat.two_pow_add_eq_or_of_lt (i := 8) (b := y) (by omega) x
    rw [show (2 ^ 8 : Nat) = 256 from rfl] at this
    exact this.symm
  have h1 : (BitVec.ofInt 64 ((256 * x : Nat) : Int)).toNat = 256 * x := by
    rw [BitVec.ofInt_natCast, BitVec.toNat_ofNat]; exact Nat.mod_eq_of_lt (by omega)
  have h2 : (BitVec.ofInt 64 (y : Int)).toNat = y := by
    rw [BitVec.ofInt_natCast, BitVec.toNat_ofNat]; exact Nat.mod_eq_of_lt (by omega)
  rw [e]
  show IntKind.i64.wrap ((BitVec.ofInt 64 ((256 * x : Nat) : Int) ||| BitVec.ofInt 64 (y : Int)).toNat : Int) = _
  rw [BitVec.toNat_or, h1, h2, hor]
  exact IntWalk.i64_in _ (by omega)
/-- Bytes that a call tells, and its error. -/
def Told (w w' : World) (e : Ending) (r : List Nat × Nat) : Prop := ∃ a c, e = .returned (.tuple #[.slice a r.1.length c, .int .i64 (r.2 : Nat)]) ∧ NatsAt w' .u8 a r.1 ∧ (a = none → r.1 = []) ∧ r.1.length ≤ c ∧ Same w w'
theorem or_zero {x y : Nat} (h : x ||| y = 0) : x = 0 ∧ y = 0 := by
  have h1 : x ≤ x ||| y := Nat.left_le_or
  have h2 : y ≤ x ||| y := Nat.right_le_or
  omega
set_option maxRecDepth 100000 in
set_option maxHeartbeats 1600000 in
theorem open_big (g o m z C : Nat) (HZ : Hid (z = 8 + m)) (HM : Hid (m ≤ 65528)) (HC : Hid (z ≤ C)) (b : List Nat) (w : World) (HL : Hid (b.length = z)) (AT : Hid (NatsAt w .u8 (some ⟨g, o, none⟩) b)) (s x4 x5 x6 x7 n y : Nat)
    (AC : Hid (∀ w', Same w w' → w'.cell? ⟨g, o + 4, none⟩ = some (.int .u8 (x4 : Nat)) ∧ w'.cell? ⟨g, o + 5, none⟩ = some (.int .u8 (x5 : Nat)) ∧ w'.cell? ⟨g, o + 6, none⟩ = some (.int .u8 (x6 : Nat)) ∧ w'.cell? ⟨g, o + 7, none⟩ = some (.int .u8 (x7 : Nat))))
    (b4 : x4 < 256) (b5 : x5 < 256) (hor : bits .or .i64 ((x4 : Int) * 256) (x5 : Int) = (n : Int)) (hor8 : bits .or .u8 (x6 : Int) (x7 : Int) = (y : Int))
    (SU : Hid (∀ w', Same w w' → Calls Tryz.prog 47 #[.slice (some ⟨g, o + 4, none⟩) (z - 4) (C - 4)] w' fun e w'' => e = .returned (.int .u32 (s : Nat)) ∧ w'' = w'))
    (EQ : Hid (∀ w', Same w w' → ∀ a', NatsAt w' .u8 a' (fourOf s) → Calls Tryz.prog 28 #[.slice (some ⟨g, o, none⟩) 4 C, .slice a' 4 4] w' fun e w'' => e = .returned (.bool true) ∧ w'' = w'))
    (FO : Hid (∀ w', Calls Tryz.prog 46 #[.int .u32 (s : Nat)] w' fun e w'' => ∃ g, e = .returned (.slice (some ⟨g, 0, none⟩) 4 4) ∧ NatsAt w'' .u8 (some ⟨g, 0, none⟩) (fourOf s) ∧ w'.heap.size ≤ g ∧ Same w' w''))
    (h16 : m < n) :
    Calls Tryz.prog 24 #[.slice (some ⟨g, o, none⟩) z C, .int .i64 (z : Int)] w fun e w' => Told w w' e ([], 4) := by
  have _u : True := (fun _ _ _ => trivial) HL AT hor8
  clear _u
  have KN := Lib.hid (Kept.refl (fun _ => False) w)
  have hz := HZ.out
  have hm := HM.out
  have hc := HC.out
  have a1 : ¬ (z : Int) < 8 := by omega
  have a2 : ¬ (65536 : Int) < (z : Int) := by omega
  have a3 : (4 : Int) ≤ (z : Int) := by omega
  have a4 : (4 : Int) ≤ (C : Int) := by omega
  have a5 : (4 : Int) < (z : Int) := by omega
  have a6 : (5 : Int) < (z : Int) := by omega
  have a7 : (6 : Int) < (z : Int) := by omega
  have a8 : (7 : Int) < (z : Int) := by omega
  have a9 : ¬ C = 4 := by omega
  have exk : IntKind.i64.wrap ((z : Int) - 8) = (z : Int) - 8 := IntWalk.i64_in _ (by omega)
  have g16 : (z : Int) - 8 < (n : Int) := by omega
  have gd : decide ((z : Int) - 8 < (n : Int)) = true := decide_eq_true g16
  clear hz hm hc
  go_enter Tryz.func24, Tryz.ntmps24
  go_wp2_with fail
  go_region_held3 (fun _ => True) (exact trivial)
    (first
      | (go_at_call 47; refine (SU.out _ (by first | exact KN.out | exact KN.out.drew)).mono ?_; rintro e w' ⟨rfl, rfl⟩)
      | (go_at_call 46; refine (FO.out _).mono ?_; rintro e w4 ⟨g4, rfl, n4, -, k4⟩; have N4 := Lib.hid n4; have KN' := Lib.hid (show Same w w4 from Kept.trans (by first | exact KN.out | exact KN.out.drew) k4); clear KN n4 k4; have KN := KN'; clear KN')
      | (go_at_call 28; refine (EQ.out _ (by first | exact KN.out | exact KN.out.drew) _ (by first | exact N4.out | exact N4.out.same (Kept.refl _ _).drew)).mono ?_; rintro e w' ⟨rfl, rfl⟩))
  have ex4 : IntKind.i64.wrap (x4 : Int) = (x4 : Int) := IntWalk.i64_in _ (by omega)
  have ex5 : IntKind.i64.wrap (x5 : Int) = (x5 : Int) := IntWalk.i64_in _ (by omega)
  have ex6 : IntKind.i64.wrap ((x4 : Int) * 256) = (x4 : Int) * 256 := IntWalk.i64_in _ (by omega)
  have D4 := fun dq os => (AC.out _ (KN.out.trans (Kept.of_below (below_regrown _ dq os)))).1
  have D5 := fun dq os => (AC.out _ (KN.out.trans (Kept.of_below (below_regrown _ dq os)))).2.1
  clear SU EQ FO N4
  go_wp2_with fail
  refine wp_region_quiet_below (by kernel_rfl) (by kernel_rfl) ?_
  repeat (quiet_step (fail))
  refine wpQuiet_nil ?_
  intro _ hw'
  obtain ⟨⟨dq, osq⟩, hw''⟩ := hw'
  subst hw''
  have kq := Lib.hid (show Same w' _ from Kept.of_below (below_regrown w' dq osq))
  have K8 := Lib.hid (KN.out.trans kq.out)
  clear kq KN D4 D5
  generalize hW8 : grow (redrawn w' dq) osq = w8 at *
  clear hW8
  have D6 := fun dq os => (AC.out _ (K8.out.trans (Kept.of_below (below_regrown _ dq os)))).2.2.1
  have D7 := fun dq os => (AC.out _ (K8.out.trans (Kept.of_below (below_regrown _ dq os)))).2.2.2
  go_wp2_with fail
  go_region
  go_wp2_with fail
  go_ret2
  exact ⟨none, 0, rfl, .inl rfl, fun _ => rfl, Nat.le_refl _, by repeat (first | with_reducible exact K8.out.trans kq.out | with_reducible exact K8.out | with_reducible refine Kept.drew ?_)⟩
set_option maxRecDepth 100000 in
set_option maxHeartbeats 1600000 in
theorem open_bad (g o m z C : Nat) (HZ : Hid (z = 8 + m)) (HM : Hid (m ≤ 65528)) (HC : Hid (z ≤ C)) (b : List Nat) (w : World) (HL : Hid (b.length = z)) (AT : Hid (NatsAt w .u8 (some ⟨g, o, none⟩) b)) (s x4 x5 x6 x7 n y : Nat)
    (AC : Hid (∀ w', Same w w' → w'.cell? ⟨g, o + 4, none⟩ = some (.int .u8 (x4 : Nat)) ∧ w'.cell? ⟨g, o + 5, none⟩ = some (.int .u8 (x5 : Nat)) ∧ w'.cell? ⟨g, o + 6, none⟩ = some (.int .u8 (x6 : Nat)) ∧ w'.cell? ⟨g, o + 7, none⟩ = some (.int .u8 (x7 : Nat))))
    (b4 : x4 < 256) (b5 : x5 < 256) (hor : bits .or .i64 ((x4 : Int) * 256) (x5 : Int) = (n : Int)) (hor8 : bits .or .u8 (x6 : Int) (x7 : Int) = (y : Int))
    (SU : Hid (∀ w', Same w w' → Calls Tryz.prog 47 #[.slice (some ⟨g, o + 4, none⟩) (z - 4) (C - 4)] w' fun e w'' => e = .returned (.int .u32 (s : Nat)) ∧ w'' = w'))
    (EQ : Hid (∀ w', Same w w' → ∀ a', NatsAt w' .u8 a' (fourOf s) → Calls Tryz.prog 28 #[.slice (some ⟨g, o, none⟩) 4 C, .slice a' 4 4] w' fun e w'' => e = .returned (.bool true) ∧ w'' = w'))
    (FO : Hid (∀ w', Calls Tryz.prog 46 #[.int .u32 (s : Nat)] w' fun e w'' => ∃ g, e = .returned (.slice (some ⟨g, 0, none⟩) 4 4) ∧ NatsAt w'' .u8 (some ⟨g, 0, none⟩) (fourOf s) ∧ w'.heap.size ≤ g ∧ Same w' w''))
    (h16 : n ≤ m) (hy0 : y ≠ 0) :
    Calls Tryz.prog 24 #[.slice (some ⟨g, o, none⟩) z C, .int .i64 (z : Int)] w fun e w' => Told w w' e ([], 4) := by
  have _u : True := (fun _ _ => trivial) HL AT
  clear _u
  have KN := Lib.hid (Kept.refl (fun _ => False) w)
  have hz := HZ.out
  have hm := HM.out
  have hc := HC.out
  have a1 : ¬ (z : Int) < 8 := by omega
  have a2 : ¬ (65536 : Int) < (z : Int) := by omega
  have a3 : (4 : Int) ≤ (z : Int) := by omega
  have a4 : (4 : Int) ≤ (C : Int) := by omega
  have a5 : (4 : Int) < (z : Int) := by omega
  have a6 : (5 : Int) < (z : Int) := by omega
  have a7 : (6 : Int) < (z : Int) := by omega
  have a8 : (7 : Int) < (z : Int) := by omega
  have a9 : ¬ C = 4 := by omega
  have exk : IntKind.i64.wrap ((z : Int) - 8) = (z : Int) - 8 := IntWalk.i64_in _ (by omega)
  have g17 : ¬ (z : Int) - 8 < (n : Int) := by omega
  have gd : decide ((z : Int) - 8 < (n : Int)) = false := decide_eq_false g17
  have gy0 : ¬ (y : Int) = 0 := by omega
  have gy1 : ((y : Int) != 0) = true := by simpa using gy0
  clear hz hm hc
  go_enter Tryz.func24, Tryz.ntmps24
  go_wp2_with fail
  go_region_held3 (fun _ => True) (exact trivial)
    (first
      | (go_at_call 47; refine (SU.out _ (by first | exact KN.out | exact KN.out.drew)).mono ?_; rintro e w' ⟨rfl, rfl⟩)
      | (go_at_call 46; refine (FO.out _).mono ?_; rintro e w4 ⟨g4, rfl, n4, -, k4⟩; have N4 := Lib.hid n4; have KN' := Lib.hid (show Same w w4 from Kept.trans (by first | exact KN.out | exact KN.out.drew) k4); clear KN n4 k4; have KN := KN'; clear KN')
      | (go_at_call 28; refine (EQ.out _ (by first | exact KN.out | exact KN.out.drew) _ (by first | exact N4.out | exact N4.out.same (Kept.refl _ _).drew)).mono ?_; rintro e w' ⟨rfl, rfl⟩))
  have ex4 : IntKind.i64.wrap (x4 : Int) = (x4 : Int) := IntWalk.i64_in _ (by omega)
  have ex5 : IntKind.i64.wrap (x5 : Int) = (x5 : Int) := IntWalk.i64_in _ (by omega)
  have ex6 : IntKind.i64.wrap ((x4 : Int) * 256) = (x4 : Int) * 256 := IntWalk.i64_in _ (by omega)
  have D4 := fun dq os => (AC.out _ (KN.out.trans (Kept.of_below (below_regrown _ dq os)))).1
  have D5 := fun dq os => (AC.out _ (KN.out.trans (Kept.of_below (below_regrown _ dq os)))).2.1
  clear SU EQ FO N4
  go_wp2_with fail
  refine wp_region_quiet_below (by kernel_rfl) (by kernel_rfl) ?_
  repeat (quiet_step (fail))
  refine wpQuiet_nil ?_
  intro _ hw'
  obtain ⟨⟨dq, osq⟩, hw''⟩ := hw'
  subst hw''
  have kq := Lib.hid (show Same w' _ from Kept.of_below (below_regrown w' dq osq))
  have K8 := Lib.hid (KN.out.trans kq.out)
  clear kq KN D4 D5
  generalize hW8 : grow (redrawn w' dq) osq = w8 at *
  clear hW8
  have D6 := fun dq os => (AC.out _ (K8.out.trans (Kept.of_below (below_regrown _ dq os)))).2.2.1
  have D7 := fun dq os => (AC.out _ (K8.out.trans (Kept.of_below (below_regrown _ dq os)))).2.2.2
  go_wp2_with fail
  refine wp_region_quiet_below (by kernel_rfl) (by kernel_rfl) ?_
  repeat (quiet_step (fail))
  refine wpQuiet_nil ?_
  intro _ hw'
  obtain ⟨⟨dq, osq⟩, hw''⟩ := hw'
  subst hw''
  have kq := Lib.hid (show Same w8 _ from Kept.of_below (below_regrown w8 dq osq))
  go_wp2_with fail
  go_ret2
  exact ⟨none, 0, rfl, .inl rfl, fun _ => rfl, Nat.le_refl _, by repeat (first | with_reducible exact K8.out.trans kq.out | with_reducible exact K8.out | with_reducible refine Kept.drew ?_)⟩
set_option maxRecDepth 100000 in
set_option maxHeartbeats 1600000 in
theorem open_sum (g o m z C : Nat) (HZ : Hid (z = 8 + m)) (HM : Hid (m ≤ 65528)) (HC : Hid (z ≤ C)) (b : List Nat) (w : World) (HL : Hid (b.length = z)) (AT : Hid (NatsAt w .u8 (some ⟨g, o, none⟩) b)) (s x4 x5 x6 x7 n y : Nat)
    (AC : Hid (∀ w', Same w w' → w'.cell? ⟨g, o + 4, none⟩ = some (.int .u8 (x4 : Nat)) ∧ w'.cell? ⟨g, o + 5, none⟩ = some (.int .u8 (x5 : Nat)) ∧ w'.cell? ⟨g, o + 6, none⟩ = some (.int .u8 (x6 : Nat)) ∧ w'.cell? ⟨g, o + 7, none⟩ = some (.int .u8 (x7 : Nat))))
    (b4 : x4 < 256) (b5 : x5 < 256) (hor : bits .or .i64 ((x4 : Int) * 256) (x5 : Int) = (n : Int)) (hor8 : bits .or .u8 (x6 : Int) (x7 : Int) = (y : Int))
    (SU : Hid (∀ w', Same w w' → Calls Tryz.prog 47 #[.slice (some ⟨g, o + 4, none⟩) (z - 4) (C - 4)] w' fun e w'' => e = .returned (.int .u32 (s : Nat)) ∧ w'' = w'))
    (EQ : Hid (∀ w', Same w w' → ∀ a', NatsAt w' .u8 a' (fourOf s) → Calls Tryz.prog 28 #[.slice (some ⟨g, o, none⟩) 4 C, .slice a' 4 4] w' fun e w'' => e = .returned (.bool false) ∧ w'' = w'))
    (FO : Hid (∀ w', Calls Tryz.prog 46 #[.int .u32 (s : Nat)] w' fun e w'' => ∃ g, e = .returned (.slice (some ⟨g, 0, none⟩) 4 4) ∧ NatsAt w'' .u8 (some ⟨g, 0, none⟩) (fourOf s) ∧ w'.heap.size ≤ g ∧ Same w' w''))
     :
    Calls Tryz.prog 24 #[.slice (some ⟨g, o, none⟩) z C, .int .i64 (z : Int)] w fun e w' => Told w w' e ([], 10) := by
  have _u : True := (fun _ _ _ _ _ _ _ => trivial) HL AT AC b4 b5 hor hor8
  clear _u
  have hz := HZ.out
  have hm := HM.out
  have hc := HC.out
  have a1 : ¬ (z : Int) < 8 := by omega
  have a2 : ¬ (65536 : Int) < (z : Int) := by omega
  have a3 : (4 : Int) ≤ (z : Int) := by omega
  have a4 : (4 : Int) ≤ (C : Int) := by omega
  have a5 : (4 : Int) < (z : Int) := by omega
  have a6 : (5 : Int) < (z : Int) := by omega
  have a7 : (6 : Int) < (z : Int) := by omega
  have a8 : (7 : Int) < (z : Int) := by omega
  have a9 : ¬ C = 4 := by omega
  have exk : IntKind.i64.wrap ((z : Int) - 8) = (z : Int) - 8 := IntWalk.i64_in _ (by omega)
  clear hz hm hc
  have KN := Lib.hid (Kept.refl (fun _ => False) w)
  clear hor hor8 AT HL AC b4 b5
  go_enter Tryz.func24, Tryz.ntmps24
  go_wp2_with fail
  go_region_held3 (fun _ => True) (exact trivial)
    (first
      | (go_at_call 47; refine (SU.out _ (by first | exact KN.out | exact KN.out.drew)).mono ?_; rintro e w' ⟨rfl, rfl⟩)
      | (go_at_call 46; refine (FO.out _).mono ?_; rintro e w4 ⟨g4, rfl, n4, -, k4⟩; have N4 := Lib.hid n4; have KN' := Lib.hid (show Same w w4 from Kept.trans (by first | exact KN.out | exact KN.out.drew) k4); clear KN n4 k4; have KN := KN'; clear KN')
      | (go_at_call 28; refine (EQ.out _ (by first | exact KN.out | exact KN.out.drew) _ (by first | exact N4.out | exact N4.out.same (Kept.refl _ _).drew)).mono ?_; rintro e w' ⟨rfl, rfl⟩))
  all_goals
    go_wp2_with fail
    go_ret2
    exact ⟨none, 0, rfl, .inl rfl, fun _ => rfl, Nat.le_refl _, by first | exact KN.out | exact KN.out.drew⟩
set_option maxRecDepth 100000 in
set_option maxHeartbeats 1600000 in
theorem open_good (g o m z C : Nat) (HZ : Hid (z = 8 + m)) (HM : Hid (m ≤ 65528)) (HC : Hid (z ≤ C)) (b : List Nat) (w : World) (HL : Hid (b.length = z)) (AT : Hid (NatsAt w .u8 (some ⟨g, o, none⟩) b)) (s x4 x5 x6 x7 n y : Nat)
    (AC : Hid (∀ w', Same w w' → w'.cell? ⟨g, o + 4, none⟩ = some (.int .u8 (x4 : Nat)) ∧ w'.cell? ⟨g, o + 5, none⟩ = some (.int .u8 (x5 : Nat)) ∧ w'.cell? ⟨g, o + 6, none⟩ = some (.int .u8 (x6 : Nat)) ∧ w'.cell? ⟨g, o + 7, none⟩ = some (.int .u8 (x7 : Nat))))
    (b4 : x4 < 256) (b5 : x5 < 256) (hor : bits .or .i64 ((x4 : Int) * 256) (x5 : Int) = (n : Int)) (hor8 : bits .or .u8 (x6 : Int) (x7 : Int) = (y : Int))
    (SU : Hid (∀ w', Same w w' → Calls Tryz.prog 47 #[.slice (some ⟨g, o + 4, none⟩) (z - 4) (C - 4)] w' fun e w'' => e = .returned (.int .u32 (s : Nat)) ∧ w'' = w'))
    (EQ : Hid (∀ w', Same w w' → ∀ a', NatsAt w' .u8 a' (fourOf s) → Calls Tryz.prog 28 #[.slice (some ⟨g, o, none⟩) 4 C, .slice a' 4 4] w' fun e w'' => e = .returned (.bool true) ∧ w'' = w'))
    (FO : Hid (∀ w', Calls Tryz.prog 46 #[.int .u32 (s : Nat)] w' fun e w'' => ∃ g, e = .returned (.slice (some ⟨g, 0, none⟩) 4 4) ∧ NatsAt w'' .u8 (some ⟨g, 0, none⟩) (fourOf s) ∧ w'.heap.size ≤ g ∧ Same w' w''))
    (h16 : n < m) (hy0 : y = 0) (r : List Nat × Nat) (HR1 : Hid ((∀ x ∈ b.drop (8 + n), x = 0) → r = ((b.drop 8).take n, 0))) (HR2 : Hid ((∃ x ∈ b.drop (8 + n), x ≠ 0) → r = ([], 4))) :
    Calls Tryz.prog 24 #[.slice (some ⟨g, o, none⟩) z C, .int .i64 (z : Int)] w fun e w' => Told w w' e r := by
  have KN := Lib.hid (Kept.refl (fun _ => False) w)
  subst hy0
  have hz := HZ.out
  have hm := HM.out
  have hc := HC.out
  have a1 : ¬ (z : Int) < 8 := by omega
  have a2 : ¬ (65536 : Int) < (z : Int) := by omega
  have a3 : (4 : Int) ≤ (z : Int) := by omega
  have a4 : (4 : Int) ≤ (C : Int) := by omega
  have a5 : (4 : Int) < (z : Int) := by omega
  have a6 : (5 : Int) < (z : Int) := by omega
  have a7 : (6 : Int) < (z : Int) := by omega
  have a8 : (7 : Int) < (z : Int) := by omega
  have a9 : ¬ C = 4 := by omega
  have exk : IntKind.i64.wrap ((z : Int) - 8) = (z : Int) - 8 := IntWalk.i64_in _ (by omega)
  have g17 : ¬ (z : Int) - 8 < (n : Int) := by omega
  have g19 : (n : Int) < (z : Int) - 8 := by omega
  have g20 : ¬ C = 8 + n := by omega
  have g21 : (8 + (n : Int)).toNat = 8 + n := by omega
  have g22 : 8 + (n : Int) ≤ (z : Int) := by omega
  have g23 : 8 + (n : Int) ≤ (C : Int) := by omega
  have g24 : ¬ C = 8 := by omega
  have gd : decide ((z : Int) - 8 < (n : Int)) = false := decide_eq_false g17
  have CL : Hid (∀ w', Same w w' → Calls Tryz.prog 51 #[.slice (some ⟨g, o + 8, none⟩) n (C - 8)] w' fun e w'' => ∃ v, e = .returned v ∧ OwnN w'' w'.heap.size 5 .u8 v ((b.drop 8).take n) ∧ Same w' w'') := by
    intro w' k
    have hl : ((b.drop 8).take n).length = n := by rw [List.length_take, List.length_drop, HL.out]; omega
    have := by_clone (some ⟨g, o + 8, none⟩) (C - 8) ((b.drop 8).take n) w' (((AT.out.same k).drop 8).take n) (by rw [hl]; omega) (fun h => by cases h)
    rw [hl] at this
    exact this
  obtain ⟨q, hq⟩ : ∃ q, z - (8 + n) = q := ⟨_, rfl⟩
  have HQ : Hid (n + q = m ∧ z = 8 + n + q ∧ q ≤ 65528) := by refine ⟨?_, ?_, ?_⟩ <;> omega
  clear hz hm hc
  go_enter Tryz.func24, Tryz.ntmps24
  go_wp2_with fail
  go_region_held3 (fun _ => True) (exact trivial)
    (first
      | (go_at_call 47; refine (SU.out _ (by first | exact KN.out | exact KN.out.drew)).mono ?_; rintro e w' ⟨rfl, rfl⟩)
      | (go_at_call 46; refine (FO.out _).mono ?_; rintro e w4 ⟨g4, rfl, n4, -, k4⟩; have N4 := Lib.hid n4; have KN' := Lib.hid (show Same w w4 from Kept.trans (by first | exact KN.out | exact KN.out.drew) k4); clear KN n4 k4; have KN := KN'; clear KN')
      | (go_at_call 28; refine (EQ.out _ (by first | exact KN.out | exact KN.out.drew) _ (by first | exact N4.out | exact N4.out.same (Kept.refl _ _).drew)).mono ?_; rintro e w' ⟨rfl, rfl⟩))
  have ex4 : IntKind.i64.wrap (x4 : Int) = (x4 : Int) := IntWalk.i64_in _ (by omega)
  have ex5 : IntKind.i64.wrap (x5 : Int) = (x5 : Int) := IntWalk.i64_in _ (by omega)
  have ex6 : IntKind.i64.wrap ((x4 : Int) * 256) = (x4 : Int) * 256 := IntWalk.i64_in _ (by omega)
  have D4 := fun dq os => (AC.out _ (KN.out.trans (Kept.of_below (below_regrown _ dq os)))).1
  have D5 := fun dq os => (AC.out _ (KN.out.trans (Kept.of_below (below_regrown _ dq os)))).2.1
  clear SU EQ FO N4
  go_wp2_with fail
  refine wp_region_quiet_below (by kernel_rfl) (by kernel_rfl) ?_
  repeat (quiet_step (fail))
  refine wpQuiet_nil ?_
  intro _ hw'
  obtain ⟨⟨dq, osq⟩, hw''⟩ := hw'
  subst hw''
  have kq := Lib.hid (show Same w' _ from Kept.of_below (below_regrown w' dq osq))
  have K8 := Lib.hid (KN.out.trans kq.out)
  clear kq KN D4 D5
  generalize hW8 : grow (redrawn w' dq) osq = w8 at *
  clear hW8
  have D6 := fun dq os => (AC.out _ (K8.out.trans (Kept.of_below (below_regrown _ dq os)))).2.2.1
  have D7 := fun dq os => (AC.out _ (K8.out.trans (Kept.of_below (below_regrown _ dq os)))).2.2.2
  go_wp2_with fail
  refine wp_region_quiet_below (by kernel_rfl) (by kernel_rfl) ?_
  repeat (quiet_step (fail))
  refine wpQuiet_nil ?_
  intro _ hw'
  obtain ⟨⟨dq, osq⟩, hw''⟩ := hw'
  subst hw''
  have kq := Lib.hid (show Same w8 _ from Kept.of_below (below_regrown w8 dq osq))
  have K9 := Lib.hid (K8.out.trans kq.out)
  clear kq K8 D6 D7
  generalize hW9 : grow (redrawn w8 dq) osq = w9 at *
  clear hW9
  clear gd g17
  go_wp2_with fail
  go_loop [59] (fun t => ∃ i : Nat, t = .int .i64 i ∧ i ≤ q ∧ ∀ j, j < i → b.getD (8 + n + j) 0 = 0) (fun t => q - (intOf t).toNat)
  case atStart => exact ⟨0, rfl, by omega, fun j hj => by omega⟩
  case round =>
    obtain ⟨i, rfl, hi, hz⟩ := hrel
    have HW := Lib.hid hz
    clear hz
    obtain ⟨e1, e2, e3⟩ := HQ.out
    by_cases hgo : i < q
    · have hlb := HL.out
      have cx := nats_get (AT.out.same K9.out) (i := 8 + n + i) (by omega)
      have hm : b.getD (8 + n + i) 0 ∈ b.drop (8 + n) := by
        rw [List.getD_eq_getElem?_getD, List.getElem?_eq_getElem (by omega)]
        have : b[8 + n + i]'(by omega) = (b.drop (8 + n))[i]'(by rw [List.length_drop]; omega) := by rw [List.getElem_drop]
        show b[8 + n + i]'(by omega) ∈ _
        rw [this]
        exact List.getElem_mem _
      obtain ⟨y, hyy⟩ : ∃ y, b.getD (8 + n + i) 0 = y := ⟨_, rfl⟩
      rw [hyy, show o + (8 + n + i) = o + (8 + n) + i from by omega] at cx
      rw [hyy] at hm
      have HMM := Lib.hid hm
      have HYY := Lib.hid hyy
      clear hyy hm
      have g1 : (i : Int) < (q : Int) := by omega
      have g0 : (0 : Int) ≤ (i : Int) := by omega
      have g3 : (q : Int) ≤ 65528 := by omega
      clear e1 e2 e3 hlb hq
      by_cases hz0 : y = 0
      · subst hz0
        go_wp2_with fail
        go_round
        case rel => exact ⟨i + 1, by go_num, by omega, fun j hj => by
          by_cases q : j = i
          · subst q; exact HYY.out
          · exact HW.out j (by omega)⟩
        case measure => simp [intOf]; omega
      · have gz0 : ¬ (y : Int) = 0 := by omega
        have gz1 : ((y : Int) != 0) = true := by simpa using gz0
        have hr : r = ([], 4) := HR2.out ⟨y, HMM.out, hz0⟩
        have HRR := Lib.hid hr
        clear hr
        go_wp2_with fail
        go_ret2
        rw [HRR.out]
        exact ⟨none, 0, rfl, .inl rfl, fun _ => rfl, Nat.le_refl _, K9.out⟩
    · have g1 : ¬ (i : Int) < (q : Int) := by omega
      have hlb := HL.out
      have hr : r = ((b.drop 8).take n, 0) := by
        refine HR1.out (fun x hx => ?_)
        obtain ⟨j, hj, rfl⟩ := List.mem_iff_getElem.1 hx
        rw [List.length_drop] at hj
        have h1 := HW.out j (by omega)
        rw [List.getD_eq_getElem?_getD, List.getElem?_eq_getElem (by omega)] at h1
        rw [List.getElem_drop]
        exact h1
      have HRR := Lib.hid hr
      have HLN : Hid (((b.drop 8).take n).length = n) := by show _ = _; rw [List.length_take, List.length_drop]; omega
      clear hr e1 e2 e3 hlb hq
      go_wp2_with fail
      refine (CL.out _ K9.out).mono ?_
      rintro e w7 ⟨v, rfl, ho, k7⟩
      obtain ⟨a7, l7, cap7, rfl, hl7, hnil7, hat7, hcc7⟩ := ho.rd
      have CC7 : Hid (n ≤ cap7) := by have h1 := hcc7.out.1; have h2 := hl7.out; rw [HLN.out] at h2; show _ ≤ _; omega
      have K7 := Lib.hid (K9.out.trans k7)
      have hl := hl7.out
      rw [HLN.out] at hl
      have HL7 := Lib.hid hl
      clear ho k7 hl
      go_wp2_with fail
      go_ret2
      rw [HRR.out]
      exact ⟨a7, cap7, by rw [HLN.out, ← HL7.out]; rfl, hat7.out, fun h => by have := HL7.out; subst h; exact (by have h0 := hat7.out; rcases h0 with q | ⟨_, _, q, _⟩; exact q; cases q), by rw [HLN.out]; exact CC7.out, K7.out⟩
set_option maxRecDepth 100000 in
set_option maxHeartbeats 1600000 in
theorem open_full (g o m z C : Nat) (HZ : Hid (z = 8 + m)) (HM : Hid (m ≤ 65528)) (HC : Hid (z ≤ C)) (h8 : C ≠ 8) (b : List Nat) (w : World) (HL : Hid (b.length = z)) (AT : Hid (NatsAt w .u8 (some ⟨g, o, none⟩) b)) (s x4 x5 x6 x7 n y : Nat)
    (AC : Hid (∀ w', Same w w' → w'.cell? ⟨g, o + 4, none⟩ = some (.int .u8 (x4 : Nat)) ∧ w'.cell? ⟨g, o + 5, none⟩ = some (.int .u8 (x5 : Nat)) ∧ w'.cell? ⟨g, o + 6, none⟩ = some (.int .u8 (x6 : Nat)) ∧ w'.cell? ⟨g, o + 7, none⟩ = some (.int .u8 (x7 : Nat))))
    (b4 : x4 < 256) (b5 : x5 < 256) (hor : bits .or .i64 ((x4 : Int) * 256) (x5 : Int) = (n : Int)) (hor8 : bits .or .u8 (x6 : Int) (x7 : Int) = (y : Int))
    (SU : Hid (∀ w', Same w w' → Calls Tryz.prog 47 #[.slice (some ⟨g, o + 4, none⟩) (z - 4) (C - 4)] w' fun e w'' => e = .returned (.int .u32 (s : Nat)) ∧ w'' = w'))
    (EQ : Hid (∀ w', Same w w' → ∀ a', NatsAt w' .u8 a' (fourOf s) → Calls Tryz.prog 28 #[.slice (some ⟨g, o, none⟩) 4 C, .slice a' 4 4] w' fun e w'' => e = .returned (.bool true) ∧ w'' = w'))
    (FO : Hid (∀ w', Calls Tryz.prog 46 #[.int .u32 (s : Nat)] w' fun e w'' => ∃ g, e = .returned (.slice (some ⟨g, 0, none⟩) 4 4) ∧ NatsAt w'' .u8 (some ⟨g, 0, none⟩) (fourOf s) ∧ w'.heap.size ≤ g ∧ Same w' w''))
    (h16 : n = m) (hy0 : y = 0) (r : List Nat × Nat) (HR1 : Hid ((∀ x ∈ b.drop (8 + n), x = 0) → r = ((b.drop 8).take n, 0))) :
    Calls Tryz.prog 24 #[.slice (some ⟨g, o, none⟩) z C, .int .i64 (z : Int)] w fun e w' => Told w w' e r := by
  have KN := Lib.hid (Kept.refl (fun _ => False) w)
  subst hy0
  have hz := HZ.out
  have hm := HM.out
  have hc := HC.out
  have a1 : ¬ (z : Int) < 8 := by omega
  have a2 : ¬ (65536 : Int) < (z : Int) := by omega
  have a3 : (4 : Int) ≤ (z : Int) := by omega
  have a4 : (4 : Int) ≤ (C : Int) := by omega
  have a5 : (4 : Int) < (z : Int) := by omega
  have a6 : (5 : Int) < (z : Int) := by omega
  have a7 : (6 : Int) < (z : Int) := by omega
  have a8 : (7 : Int) < (z : Int) := by omega
  have a9 : ¬ C = 4 := by omega
  have exk : IntKind.i64.wrap ((z : Int) - 8) = (z : Int) - 8 := IntWalk.i64_in _ (by omega)
  have g17 : ¬ (z : Int) - 8 < (n : Int) := by omega
  have g21 : (8 + (n : Int)).toNat = 8 + n := by omega
  have g22 : 8 + (n : Int) ≤ (z : Int) := by omega
  have g23 : 8 + (n : Int) ≤ (C : Int) := by omega
  have gd : decide ((z : Int) - 8 < (n : Int)) = false := decide_eq_false g17
  have CL : Hid (∀ w', Same w w' → Calls Tryz.prog 51 #[.slice (some ⟨g, o + 8, none⟩) n (C - 8)] w' fun e w'' => ∃ v, e = .returned v ∧ OwnN w'' w'.heap.size 5 .u8 v ((b.drop 8).take n) ∧ Same w' w'') := by
    intro w' k
    have hl : ((b.drop 8).take n).length = n := by rw [List.length_take, List.length_drop, HL.out]; omega
    have := by_clone (some ⟨g, o + 8, none⟩) (C - 8) ((b.drop 8).take n) w' (((AT.out.same k).drop 8).take n) (by rw [hl]; omega) (fun h => by cases h)
    rw [hl] at this
    exact this
  have hq : z - (8 + n) = 0 := by omega
  have hr : r = ((b.drop 8).take n, 0) := HR1.out (by intro x hx; rw [List.drop_eq_nil_of_le (by rw [HL.out]; omega)] at hx; cases hx)
  have HRR := Lib.hid hr
  have HLN : Hid (((b.drop 8).take n).length = n) := by show _ = _; rw [List.length_take, List.length_drop, HL.out]; omega
  clear hz hm hc hr h16 HR1
  by_cases hCn : C = 8 + n
  · have CL2 : Hid (∀ w', Same w w' → Calls Tryz.prog 51 #[.slice (some ⟨g, o + 8, none⟩) (C - 8) (C - 8)] w' fun e w'' => ∃ v, e = .returned v ∧ OwnN w'' w'.heap.size 5 .u8 v ((b.drop 8).take n) ∧ Same w' w'') := by
      intro w' k
      have := CL.out w' k
      have e : C - 8 = n := by omega
      rw [e]
      rw [e] at this
      exact this
    have hq2 : z - C = 0 := by omega
    have hC2 : 8 + n = C := hCn.symm
    clear hCn
    go_enter Tryz.func24, Tryz.ntmps24
    go_wp2_with fail
    go_region_held3 (fun _ => True) (exact trivial)
      (first
        | (go_at_call 47; refine (SU.out _ (by first | exact KN.out | exact KN.out.drew)).mono ?_; rintro e w' ⟨rfl, rfl⟩)
        | (go_at_call 46; refine (FO.out _).mono ?_; rintro e w4 ⟨g4, rfl, n4, -, k4⟩; have N4 := Lib.hid n4; have KN' := Lib.hid (show Same w w4 from Kept.trans (by first | exact KN.out | exact KN.out.drew) k4); clear KN n4 k4; have KN := KN'; clear KN')
        | (go_at_call 28; refine (EQ.out _ (by first | exact KN.out | exact KN.out.drew) _ (by first | exact N4.out | exact N4.out.same (Kept.refl _ _).drew)).mono ?_; rintro e w' ⟨rfl, rfl⟩))
    have ex4 : IntKind.i64.wrap (x4 : Int) = (x4 : Int) := IntWalk.i64_in _ (by omega)
    have ex5 : IntKind.i64.wrap (x5 : Int) = (x5 : Int) := IntWalk.i64_in _ (by omega)
    have ex6 : IntKind.i64.wrap ((x4 : Int) * 256) = (x4 : Int) * 256 := IntWalk.i64_in _ (by omega)
    have D4 := fun dq os => (AC.out _ (KN.out.trans (Kept.of_below (below_regrown _ dq os)))).1
    have D5 := fun dq os => (AC.out _ (KN.out.trans (Kept.of_below (below_regrown _ dq os)))).2.1
    clear SU EQ FO N4
    go_wp2_with fail
    refine wp_region_quiet_below (by kernel_rfl) (by kernel_rfl) ?_
    repeat (quiet_step (fail))
    refine wpQuiet_nil ?_
    intro _ hw'
    obtain ⟨⟨dq, osq⟩, hw''⟩ := hw'
    subst hw''
    have kq := Lib.hid (show Same w' _ from Kept.of_below (below_regrown w' dq osq))
    have K8 := Lib.hid (KN.out.trans kq.out)
    clear kq KN D4 D5
    generalize hW8 : grow (redrawn w' dq) osq = w8 at *
    clear hW8
    have D6 := fun dq os => (AC.out _ (K8.out.trans (Kept.of_below (below_regrown _ dq os)))).2.2.1
    have D7 := fun dq os => (AC.out _ (K8.out.trans (Kept.of_below (below_regrown _ dq os)))).2.2.2
    go_wp2_with fail
    refine wp_region_quiet_below (by kernel_rfl) (by kernel_rfl) ?_
    repeat (quiet_step (fail))
    refine wpQuiet_nil ?_
    intro _ hw'
    obtain ⟨⟨dq, osq⟩, hw''⟩ := hw'
    subst hw''
    have kq := Lib.hid (show Same w8 _ from Kept.of_below (below_regrown w8 dq osq))
    have K9 := Lib.hid (K8.out.trans kq.out)
    clear kq K8 D6 D7
    generalize hW9 : grow (redrawn w8 dq) osq = w9 at *
    clear hW9
    clear gd g17
    go_wp2_with fail
    go_loop [59] (fun t => t = .int .i64 0) (fun _ => 0)
    case atStart => rfl
    case round =>
        obtain rfl := hrel
        go_wp2_with fail
        first
          | with_reducible refine (CL.out _ K9.out).mono ?_
          | with_reducible refine (CL2.out _ K9.out).mono ?_
        rintro e w7 ⟨v, rfl, ho, k7⟩
        obtain ⟨a7, l7, cap7, rfl, hl7, hnil7, hat7, hcc7⟩ := ho.rd
        have CC7 : Hid (n ≤ cap7) := by have h1 := hcc7.out.1; have h2 := hl7.out; rw [HLN.out] at h2; show _ ≤ _; omega
        have K7 := Lib.hid (K9.out.trans k7)
        have hl := hl7.out
        rw [HLN.out] at hl
        have HL7 := Lib.hid hl
        clear ho k7 hl
        go_wp2_with fail
        go_ret2
        rw [HRR.out]
        exact ⟨a7, cap7, by rw [HLN.out, ← HL7.out]; rfl, hat7.out, fun h => by have := HL7.out; subst h; exact (by have h0 := hat7.out; rcases h0 with q | ⟨_, _, q, _⟩; exact q; cases q), by rw [HLN.out]; exact CC7.out, K7.out⟩
  · go_enter Tryz.func24, Tryz.ntmps24
    go_wp2_with fail
    go_region_held3 (fun _ => True) (exact trivial)
      (first
        | (go_at_call 47; refine (SU.out _ (by first | exact KN.out | exact KN.out.drew)).mono ?_; rintro e w' ⟨rfl, rfl⟩)
        | (go_at_call 46; refine (FO.out _).mono ?_; rintro e w4 ⟨g4, rfl, n4, -, k4⟩; have N4 := Lib.hid n4; have KN' := Lib.hid (show Same w w4 from Kept.trans (by first | exact KN.out | exact KN.out.drew) k4); clear KN n4 k4; have KN := KN'; clear KN')
        | (go_at_call 28; refine (EQ.out _ (by first | exact KN.out | exact KN.out.drew) _ (by first | exact N4.out | exact N4.out.same (Kept.refl _ _).drew)).mono ?_; rintro e w' ⟨rfl, rfl⟩))
    have ex4 : IntKind.i64.wrap (x4 : Int) = (x4 : Int) := IntWalk.i64_in _ (by omega)
    have ex5 : IntKind.i64.wrap (x5 : Int) = (x5 : Int) := IntWalk.i64_in _ (by omega)
    have ex6 : IntKind.i64.wrap ((x4 : Int) * 256) = (x4 : Int) * 256 := IntWalk.i64_in _ (by omega)
    have D4 := fun dq os => (AC.out _ (KN.out.trans (Kept.of_below (below_regrown _ dq os)))).1
    have D5 := fun dq os => (AC.out _ (KN.out.trans (Kept.of_below (below_regrown _ dq os)))).2.1
    clear SU EQ FO N4
    go_wp2_with fail
    refine wp_region_quiet_below (by kernel_rfl) (by kernel_rfl) ?_
    repeat (quiet_step (fail))
    refine wpQuiet_nil ?_
    intro _ hw'
    obtain ⟨⟨dq, osq⟩, hw''⟩ := hw'
    subst hw''
    have kq := Lib.hid (show Same w' _ from Kept.of_below (below_regrown w' dq osq))
    have K8 := Lib.hid (KN.out.trans kq.out)
    clear kq KN D4 D5
    generalize hW8 : grow (redrawn w' dq) osq = w8 at *
    clear hW8
    have D6 := fun dq os => (AC.out _ (K8.out.trans (Kept.of_below (below_regrown _ dq os)))).2.2.1
    have D7 := fun dq os => (AC.out _ (K8.out.trans (Kept.of_below (below_regrown _ dq os)))).2.2.2
    go_wp2_with fail
    refine wp_region_quiet_below (by kernel_rfl) (by kernel_rfl) ?_
    repeat (quiet_step (fail))
    refine wpQuiet_nil ?_
    intro _ hw'
    obtain ⟨⟨dq, osq⟩, hw''⟩ := hw'
    subst hw''
    have kq := Lib.hid (show Same w8 _ from Kept.of_below (below_regrown w8 dq osq))
    have K9 := Lib.hid (K8.out.trans kq.out)
    clear kq K8 D6 D7
    generalize hW9 : grow (redrawn w8 dq) osq = w9 at *
    clear hW9
    clear gd g17
    go_wp2_with fail
    go_loop [59] (fun t => t = .int .i64 0) (fun _ => 0)
    case atStart => rfl
    case round =>
        obtain rfl := hrel
        go_wp2_with fail
        first
          | with_reducible refine (CL.out _ K9.out).mono ?_
          | with_reducible refine (CL2.out _ K9.out).mono ?_
        rintro e w7 ⟨v, rfl, ho, k7⟩
        obtain ⟨a7, l7, cap7, rfl, hl7, hnil7, hat7, hcc7⟩ := ho.rd
        have CC7 : Hid (n ≤ cap7) := by have h1 := hcc7.out.1; have h2 := hl7.out; rw [HLN.out] at h2; show _ ≤ _; omega
        have K7 := Lib.hid (K9.out.trans k7)
        have hl := hl7.out
        rw [HLN.out] at hl
        have HL7 := Lib.hid hl
        clear ho k7 hl
        go_wp2_with fail
        go_ret2
        rw [HRR.out]
        exact ⟨a7, cap7, by rw [HLN.out, ← HL7.out]; rfl, hat7.out, fun h => by have := HL7.out; subst h; exact (by have h0 := hat7.out; rcases h0 with q | ⟨_, _, q, _⟩; exact q; cases q), by rw [HLN.out]; exact CC7.out, K7.out⟩
set_option maxRecDepth 100000 in
set_option maxHeartbeats 1600000 in
theorem open_eight (g o : Nat) (b : List Nat) (w : World) (HL : Hid (b.length = 8)) (s x4 x5 x6 x7 n y : Nat)
    (AC : Hid (∀ w', Same w w' → w'.cell? ⟨g, o + 4, none⟩ = some (.int .u8 (x4 : Nat)) ∧ w'.cell? ⟨g, o + 5, none⟩ = some (.int .u8 (x5 : Nat)) ∧ w'.cell? ⟨g, o + 6, none⟩ = some (.int .u8 (x6 : Nat)) ∧ w'.cell? ⟨g, o + 7, none⟩ = some (.int .u8 (x7 : Nat))))
    (b4 : x4 < 256) (b5 : x5 < 256) (hor : bits .or .i64 ((x4 : Int) * 256) (x5 : Int) = (n : Int)) (hor8 : bits .or .u8 (x6 : Int) (x7 : Int) = (y : Int))
    (SU : Hid (∀ w', Same w w' → Calls Tryz.prog 47 #[.slice (some ⟨g, o + 4, none⟩) 4 4] w' fun e w'' => e = .returned (.int .u32 (s : Nat)) ∧ w'' = w'))
    (EQ : Hid (∀ w', Same w w' → ∀ a', NatsAt w' .u8 a' (fourOf s) → Calls Tryz.prog 28 #[.slice (some ⟨g, o, none⟩) 4 8, .slice a' 4 4] w' fun e w'' => e = .returned (.bool true) ∧ w'' = w'))
    (FO : Hid (∀ w', Calls Tryz.prog 46 #[.int .u32 (s : Nat)] w' fun e w'' => ∃ g, e = .returned (.slice (some ⟨g, 0, none⟩) 4 4) ∧ NatsAt w'' .u8 (some ⟨g, 0, none⟩) (fourOf s) ∧ w'.heap.size ≤ g ∧ Same w' w''))
    (h16 : n = 0) (hy0 : y = 0) (r : List Nat × Nat) (HR1 : Hid ((∀ x ∈ b.drop (8 + n), x = 0) → r = ((b.drop 8).take n, 0))) :
    Calls Tryz.prog 24 #[.slice (some ⟨g, o, none⟩) 8 8, .int .i64 8] w fun e w' => Told w w' e r := by
  have KN := Lib.hid (Kept.refl (fun _ => False) w)
  subst hy0
  have hr : r = ((b.drop 8).take n, 0) := HR1.out (by intro x hx; rw [List.drop_eq_nil_of_le (by rw [HL.out]; omega)] at hx; cases hx)
  have HRR := Lib.hid hr
  have HLN : Hid (((b.drop 8).take n).length = n) := by show _ = _; rw [List.length_take, List.length_drop, HL.out]; omega
  have CL : Hid (∀ w', Same w w' → Calls Tryz.prog 51 #[.slice (some ⟨g, o, none⟩) 0 0] w' fun e w'' => ∃ v, e = .returned v ∧ OwnN w'' w'.heap.size 5 .u8 v ((b.drop 8).take n) ∧ Same w' w'') := by
    intro w' k
    have e : (b.drop 8).take n = [] := by rw [h16]; rfl
    rw [e]
    exact by_clone (some ⟨g, o, none⟩) 0 [] w' (.inl rfl) (by decide) (fun h => by cases h)
  clear hr HR1
  subst h16
  have hor : bits .or .i64 ((x4 : Int) * 256) (x5 : Int) = 0 := hor
  have hor8 : bits .or .u8 (x6 : Int) (x7 : Int) = 0 := hor8
  have exk : IntKind.i64.wrap 0 = 0 := by decide
  go_enter Tryz.func24, Tryz.ntmps24
  go_wp2_with fail
  go_region_held3 (fun _ => True) (exact trivial)
    (first
      | (go_at_call 47; refine (SU.out _ (by first | exact KN.out | exact KN.out.drew)).mono ?_; rintro e w' ⟨rfl, rfl⟩)
      | (go_at_call 46; refine (FO.out _).mono ?_; rintro e w4 ⟨g4, rfl, n4, -, k4⟩; have N4 := Lib.hid n4; have KN' := Lib.hid (show Same w w4 from Kept.trans (by first | exact KN.out | exact KN.out.drew) k4); clear KN n4 k4; have KN := KN'; clear KN')
      | (go_at_call 28; refine (EQ.out _ (by first | exact KN.out | exact KN.out.drew) _ (by first | exact N4.out | exact N4.out.same (Kept.refl _ _).drew)).mono ?_; rintro e w' ⟨rfl, rfl⟩))
  have ex4 : IntKind.i64.wrap (x4 : Int) = (x4 : Int) := IntWalk.i64_in _ (by omega)
  have ex5 : IntKind.i64.wrap (x5 : Int) = (x5 : Int) := IntWalk.i64_in _ (by omega)
  have ex6 : IntKind.i64.wrap ((x4 : Int) * 256) = (x4 : Int) * 256 := IntWalk.i64_in _ (by omega)
  have D4 := fun dq os => (AC.out _ (KN.out.trans (Kept.of_below (below_regrown _ dq os)))).1
  have D5 := fun dq os => (AC.out _ (KN.out.trans (Kept.of_below (below_regrown _ dq os)))).2.1
  clear SU EQ FO N4
  go_wp2_with fail
  refine wp_region_quiet_below (by kernel_rfl) (by kernel_rfl) ?_
  repeat (quiet_step (fail))
  refine wpQuiet_nil ?_
  intro _ hw'
  obtain ⟨⟨dq, osq⟩, hw''⟩ := hw'
  subst hw''
  have kq := Lib.hid (show Same w' _ from Kept.of_below (below_regrown w' dq osq))
  have K8 := Lib.hid (KN.out.trans kq.out)
  clear kq KN D4 D5
  generalize hW8 : grow (redrawn w' dq) osq = w8 at *
  clear hW8
  have D6 := fun dq os => (AC.out _ (K8.out.trans (Kept.of_below (below_regrown _ dq os)))).2.2.1
  have D7 := fun dq os => (AC.out _ (K8.out.trans (Kept.of_below (below_regrown _ dq os)))).2.2.2
  go_wp2_with fail
  refine wp_region_quiet_below (by kernel_rfl) (by kernel_rfl) ?_
  repeat (quiet_step (fail))
  refine wpQuiet_nil ?_
  intro _ hw'
  obtain ⟨⟨dq, osq⟩, hw''⟩ := hw'
  subst hw''
  have kq := Lib.hid (show Same w8 _ from Kept.of_below (below_regrown w8 dq osq))
  have K9 := Lib.hid (K8.out.trans kq.out)
  clear kq K8 D6 D7
  generalize hW9 : grow (redrawn w8 dq) osq = w9 at *
  clear hW9
  go_wp2_with fail
  go_loop [59] (fun t => t = .int .i64 0) (fun _ => 0)
  case atStart => rfl
  case round =>
    obtain rfl := hrel
    go_wp2_with fail
    with_reducible refine (CL.out _ K9.out).mono ?_
    rintro e w7 ⟨v, rfl, ho, k7⟩
    obtain ⟨a7, l7, cap7, rfl, hl7, hnil7, hat7, hcc7⟩ := ho.rd
    have CC7 : Hid (0 ≤ cap7) := Nat.zero_le _
    have K7 := Lib.hid (K9.out.trans k7)
    have hl := hl7.out
    rw [HLN.out] at hl
    have HL7 := Lib.hid hl
    clear ho k7 hl
    go_wp2_with fail
    go_ret2
    rw [HRR.out]
    obtain rfl := HL7.out
    exact ⟨a7, cap7, by rw [HLN.out]; rfl, hat7.out, fun h => by subst h; exact (by have h0 := hat7.out; rcases h0 with q | ⟨_, _, q, _⟩; exact q; cases q), by rw [HLN.out]; exact CC7.out, K7.out⟩
set_option maxRecDepth 100000 in
/-- Open, at any size. -/
theorem cr_openM (g o m z C : Nat) (hz : z = 8 + m) (hm : m ≤ 65528) (hC : z ≤ C) (b : List Nat) (hl : b.length = z) (hb : Bts b) (w : World) (hat : NatsAt w .u8 (some ⟨g, o, none⟩) b) :
    Calls Tryz.prog 24 #[.slice (some ⟨g, o, none⟩) z C, .int .i64 (z : Int)] w fun e w' => Told w w' e (openM b m) := by
  have HL := Lib.hid hl; have HB := Lib.hid hb; have AT := Lib.hid hat; have HZ := Lib.hid hz; have HM := Lib.hid hm; have HC := Lib.hid hC
  have SU := Lib.hid fun w' (k : Same w w') => cr_of (some ⟨g, o + 4, none⟩) (z - 4) (C - 4) (b.drop 4) (by rw [List.length_drop, hl]) (hb.drop 4) w' ((hat.drop 4).same k) (by omega)
  have hS := crcOf_lt (b.drop 4) (hb.drop 4)
  obtain ⟨s, hs⟩ : ∃ s, crcOf (b.drop 4) = s := ⟨_, rfl⟩
  rw [hs] at SU hS
  have EQ := Lib.hid fun w' (k : Same w w') a' (n' : NatsAt w' .u8 a' (fourOf s)) => by_equal (some ⟨g, o, none⟩) a' 4 4 C 4 (b.take 4) (fourOf s) w' (by rw [List.length_take, hl]; omega) rfl (hb.take 4) (fourOf_bts hS) ((hat.take 4).same k) n'
  have FO := Lib.hid fun w' => cr_four s hS w'
  have hop : openM b m = if b.take 4 = fourOf s then (if tldN b ≤ m then (if formOK b then ((b.drop 8).take (tldN b), 0) else ([], 4)) else ([], 4)) else ([], 10) := by unfold openM; rw [hs]
  have AC : Hid (∀ w', Same w w' → w'.cell? ⟨g, o + 4, none⟩ = some (.int .u8 (b.getD 4 0 : Nat)) ∧ w'.cell? ⟨g, o + 5, none⟩ = some (.int .u8 (b.getD 5 0 : Nat)) ∧ w'.cell? ⟨g, o + 6, none⟩ = some (.int .u8 (b.getD 6 0 : Nat)) ∧ w'.cell? ⟨g, o + 7, none⟩ = some (.int .u8 (b.getD 7 0 : Nat))) :=
    fun w' k => ⟨nats_get (hat.same k) (by omega), nats_get (hat.same k) (by omega), nats_get (hat.same k) (by omega), nats_get (hat.same k) (by omega)⟩
  have b4 := getD_lt HB.out 4
  have b5 := getD_lt HB.out 5
  have b6 := getD_lt HB.out 6
  have b7 := getD_lt HB.out 7
  have htl : tldN b = 256 * b.getD 4 0 + b.getD 5 0 := rfl
  have hF : formOK b ↔ b.getD 6 0 = 0 ∧ b.getD 7 0 = 0 ∧ ∀ x ∈ b.drop (8 + tldN b), x = 0 := Iff.rfl
  obtain ⟨x4, h4⟩ : ∃ x, b.getD 4 0 = x := ⟨_, rfl⟩
  obtain ⟨x5, h5⟩ : ∃ x, b.getD 5 0 = x := ⟨_, rfl⟩
  obtain ⟨x6, h6⟩ : ∃ x, b.getD 6 0 = x := ⟨_, rfl⟩
  obtain ⟨x7, h7⟩ : ∃ x, b.getD 7 0 = x := ⟨_, rfl⟩
  obtain ⟨n, hn⟩ : ∃ n, tldN b = n := ⟨_, rfl⟩
  rw [h4, h5, hn] at htl
  rw [hn] at hop
  rw [h6, h7, hn] at hF
  rw [h4] at b4 AC
  rw [h5] at b5 AC
  rw [h6] at b6 AC
  rw [h7] at b7 AC
  have hor := bits_or64 x4 x5 b4 b5
  have hor8 := bits_or8 x6 x7 b6 b7
  have hy8 := @or_zero x6 x7
  rw [← htl] at hor
  have hn16 : n < 65536 := by omega
  obtain ⟨y, hy⟩ : ∃ y, x6 ||| x7 = y := ⟨_, rfl⟩
  rw [hy] at hor8 hy8
  have HF := Lib.hid hF
  have HY := Lib.hid hy8
  have HYY := Lib.hid hy
  clear h4 h5 h6 h7 hn hy hF hy8 htl
  by_cases hq : b.take 4 = fourOf s
  · rw [if_pos hq] at hop
    rw [decide_eq_true hq] at EQ
    by_cases h16 : n ≤ m
    · rw [if_pos h16] at hop
      by_cases hy0 : y = 0
      · have h67 := HY.out hy0
        have hff : formOK b ↔ ∀ x ∈ b.drop (8 + n), x = 0 := HF.out.trans ⟨fun q => q.2.2, fun q => ⟨h67.1, h67.2, q⟩⟩
        have hr1 : (∀ x ∈ b.drop (8 + n), x = 0) → openM b m = ((b.drop 8).take n, 0) := fun h => by rw [hop, if_pos (hff.2 h)]
        have hr2 : (∃ x ∈ b.drop (8 + n), x ≠ 0) → openM b m = ([], 4) := fun ⟨x, hx, h⟩ => by rw [hop, if_neg (fun q => h (hff.1 q x hx))]
        by_cases hn16b : n = m
        · by_cases h8 : C = 8
          · obtain rfl : m = 0 := by omega
            subst h8
            obtain rfl : z = 8 := hz
            exact open_eight g o b w HL s x4 x5 x6 x7 n y AC b4 b5 hor hor8 SU EQ FO hn16b hy0 _ hr1
          · exact open_full g o m z C HZ HM HC h8 b w HL AT s x4 x5 x6 x7 n y AC b4 b5 hor hor8 SU EQ FO hn16b hy0 _ hr1
        · exact open_good g o m z C HZ HM HC b w HL AT s x4 x5 x6 x7 n y AC b4 b5 hor hor8 SU EQ FO (by omega) hy0 _ hr1 hr2
      · have hfn : ¬ formOK b := fun q => hy0 (by have := HF.out.1 q; rw [← HYY.out, this.1, this.2.1]; rfl)
        rw [hop, if_neg hfn]
        exact open_bad g o m z C HZ HM HC b w HL AT s x4 x5 x6 x7 n y AC b4 b5 hor hor8 SU EQ FO h16 hy0
    · rw [hop, if_neg h16]
      exact open_big g o m z C HZ HM HC b w HL AT s x4 x5 x6 x7 n y AC b4 b5 hor hor8 SU EQ FO (by omega)
  · rw [if_neg hq] at hop
    rw [decide_eq_false hq] at EQ
    rw [hop]
    exact open_sum g o m z C HZ HM HC b w HL AT s x4 x5 x6 x7 n y AC b4 b5 hor hor8 SU EQ FO
end Go.Proofs.YtpgghajkpjhieaaGreatDoor

namespace Go.Proofs.YtpgghajkpjhieaaGreatDoor
open Go.RowKit Go.Sort
/-- Bytes that a call tells, where they lie, and its error. -/
def Told2 (w w' : World) (e : Ending) (r : List Nat × Nat) : Prop := ∃ a c, e = .returned (.tuple #[.slice a r.1.length c, .int .i64 (r.2 : Nat)]) ∧ NatsAt w' .u8 a r.1 ∧ r.1.length ≤ c ∧ c ≤ 9223372036854775807 ∧ (∀ x, a = some x → x.block < w'.heap.size) ∧ Same w w'

set_option maxRecDepth 100000 in
set_option maxHeartbeats 1600000 in
theorem rc_open_sum (g o m z C : Nat) (HZ : Hid (z = 8 + m)) (HM : Hid (m ≤ 65528)) (HC : Hid (z ≤ C)) (w : World) (s y0 y1 y2 y3 : Nat) (hs : (s : Int) < 4294967296)
    (A0 : w.cell? ⟨g, o, none⟩ = some (.int .u8 (y0 : Nat))) (A1 : w.cell? ⟨g, o + 1, none⟩ = some (.int .u8 (y1 : Nat))) (A2 : w.cell? ⟨g, o + 2, none⟩ = some (.int .u8 (y2 : Nat))) (A3 : w.cell? ⟨g, o + 3, none⟩ = some (.int .u8 (y3 : Nat)))
    (SU : Hid (Calls Tryz.prog 48 #[.slice (some ⟨g, o + 4, none⟩) (z - 4) (C - 4)] w fun e w'' => e = .returned (.int .u32 (s : Nat)) ∧ w'' = w))
    (hne : ¬ ((y0 : Int) = (s : Int) / 16777216 ∧ (y1 : Int) = (s : Int) / 65536 % 256 ∧ (y2 : Int) = (s : Int) / 256 % 256 ∧ (y3 : Int) = (s : Int) % 256)) :
    Calls Tryz.prog 29 #[.slice (some ⟨g, o, none⟩) z C, .int .i64 (z : Int)] w fun e w' => Told2 w w' e ([], 10) := by
  have hz := HZ.out
  have hm := HM.out
  have hc := HC.out
  have a1 : ¬ (z : Int) < 8 := by omega
  have a2 : ¬ (65536 : Int) < (z : Int) := by omega
  have a3 : (4 : Int) ≤ (z : Int) := by omega
  have a4 : ¬ C = 4 := by omega
  have i0 : (0 : Int) < (z : Int) := by omega
  have i1 : (1 : Int) < (z : Int) := by omega
  have i2 : (2 : Int) < (z : Int) := by omega
  have i3 : (3 : Int) < (z : Int) := by omega
  have i4 : (4 : Int) < (z : Int) := by omega
  have i5 : (5 : Int) < (z : Int) := by omega
  have exk : IntKind.i64.wrap ((z : Int) - 8) = (z : Int) - 8 := IntWalk.i64_in _ (by omega)
  clear hz hm hc
  by_cases h0 : (y0 : Int) = (s : Int) / 16777216
  · by_cases h1 : (y1 : Int) = (s : Int) / 65536 % 256
    · by_cases h2 : (y2 : Int) = (s : Int) / 256 % 256
      · have h3 : ¬ (y3 : Int) = (s : Int) % 256 := fun h => hne ⟨h0, h1, h2, h⟩
        rw [h0] at A0
        rw [h1] at A1
        rw [h2] at A2
        have h4 : ((y3 : Int) != (s : Int) % 256) = true := by simpa using h3
        clear hne h0 h1 h2 h3
        go_enter Tryz.func29, Tryz.ntmps29
        go_wp2_with fail
        refine SU.out.mono ?_
        rintro e w' ⟨rfl, rfl⟩
        clear SU
        go_wp2_with fail
        go_ret2
        exact ⟨none, 0, rfl, .inl rfl, Nat.le_refl _, Nat.zero_le _, (fun x hx => by cases hx), Kept.refl _ _⟩
      · rw [h0] at A0
        rw [h1] at A1
        clear hne h0 h1
        go_enter Tryz.func29, Tryz.ntmps29
        go_wp2_with fail
        refine SU.out.mono ?_
        rintro e w' ⟨rfl, rfl⟩
        clear SU
        go_wp2_with fail
        go_ret2
        exact ⟨none, 0, rfl, .inl rfl, Nat.le_refl _, Nat.zero_le _, (fun x hx => by cases hx), Kept.refl _ _⟩
    · rw [h0] at A0
      clear hne h0
      go_enter Tryz.func29, Tryz.ntmps29
      go_wp2_with fail
      refine SU.out.mono ?_
      rintro e w' ⟨rfl, rfl⟩
      clear SU
      go_wp2_with fail
      go_ret2
      exact ⟨none, 0, rfl, .inl rfl, Nat.le_refl _, Nat.zero_le _, (fun x hx => by cases hx), Kept.refl _ _⟩
  · clear hne
    go_enter Tryz.func29, Tryz.ntmps29
    go_wp2_with fail
    refine SU.out.mono ?_
    rintro e w' ⟨rfl, rfl⟩
    clear SU
    go_wp2_with fail
    go_ret2
    exact ⟨none, 0, rfl, .inl rfl, Nat.le_refl _, Nat.zero_le _, (fun x hx => by cases hx), Kept.refl _ _⟩

set_option maxRecDepth 100000 in
set_option maxHeartbeats 1600000 in
theorem rc_open_big (g o m z C : Nat) (HZ : Hid (z = 8 + m)) (HM : Hid (m ≤ 65528)) (HC : Hid (z ≤ C)) (w : World) (s x4 x5 n : Nat) (hs : (s : Int) < 4294967296)
    (A0 : w.cell? ⟨g, o, none⟩ = some (.int .u8 ((s : Int) / 16777216))) (A1 : w.cell? ⟨g, o + 1, none⟩ = some (.int .u8 ((s : Int) / 65536 % 256))) (A2 : w.cell? ⟨g, o + 2, none⟩ = some (.int .u8 ((s : Int) / 256 % 256))) (A3 : w.cell? ⟨g, o + 3, none⟩ = some (.int .u8 ((s : Int) % 256)))
    (AC : Hid (∀ w', Same w w' → w'.cell? ⟨g, o + 4, none⟩ = some (.int .u8 (x4 : Nat)) ∧ w'.cell? ⟨g, o + 5, none⟩ = some (.int .u8 (x5 : Nat))))
    (b4 : x4 < 256) (b5 : x5 < 256) (hn : 256 * (x4 : Int) + (x5 : Int) = (n : Int)) (hbig : m < n)
    (SU : Hid (Calls Tryz.prog 48 #[.slice (some ⟨g, o + 4, none⟩) (z - 4) (C - 4)] w fun e w'' => e = .returned (.int .u32 (s : Nat)) ∧ w'' = w)) :
    Calls Tryz.prog 29 #[.slice (some ⟨g, o, none⟩) z C, .int .i64 (z : Int)] w fun e w' => Told2 w w' e ([], 4) := by
  have hz := HZ.out
  have hm := HM.out
  have hc := HC.out
  have a1 : ¬ (z : Int) < 8 := by omega
  have a2 : ¬ (65536 : Int) < (z : Int) := by omega
  have a3 : (4 : Int) ≤ (z : Int) := by omega
  have a4 : ¬ C = 4 := by omega
  have i0 : (0 : Int) < (z : Int) := by omega
  have i1 : (1 : Int) < (z : Int) := by omega
  have i2 : (2 : Int) < (z : Int) := by omega
  have i3 : (3 : Int) < (z : Int) := by omega
  have i4 : (4 : Int) < (z : Int) := by omega
  have i5 : (5 : Int) < (z : Int) := by omega
  have exk : IntKind.i64.wrap ((z : Int) - 8) = (z : Int) - 8 := IntWalk.i64_in _ (by omega)
  have hbg : (z : Int) - 8 < (n : Int) := by omega
  have D4 := fun dq os => (AC.out _ (Kept.of_below (below_regrown w dq os))).1
  have D5 := fun dq os => (AC.out _ (Kept.of_below (below_regrown w dq os))).2
  have ex4 : IntKind.i64.wrap (x4 : Int) = (x4 : Int) := IntWalk.i64_in _ (by omega)
  have ex5 : IntKind.i64.wrap (x5 : Int) = (x5 : Int) := IntWalk.i64_in _ (by omega)
  have ex6 : IntKind.i64.wrap (256 * (x4 : Int)) = 256 * (x4 : Int) := IntWalk.i64_in _ (by omega)
  have ex7 : IntKind.i64.wrap (256 * (x4 : Int) + (x5 : Int)) = (n : Int) := by rw [hn]; exact IntWalk.i64_in _ (by omega)
  clear hn hz hm hc
  go_enter Tryz.func29, Tryz.ntmps29
  go_wp2_with fail
  refine SU.out.mono ?_
  rintro e w' ⟨rfl, rfl⟩
  clear SU
  go_wp2_with fail
  refine wp_region_quiet_below (by kernel_rfl) (by kernel_rfl) ?_
  repeat (quiet_step (fail))
  refine wpQuiet_nil ?_
  intro _ hw'
  obtain ⟨⟨dq, osq⟩, hw''⟩ := hw'
  subst hw''
  have kq := Lib.hid (show Same w' _ from Kept.of_below (below_regrown w' dq osq))
  have K8 := Lib.hid kq.out
  clear kq D4 D5
  generalize hW8 : grow (redrawn w' dq) osq = w8 at *
  clear hW8 A0 A1 A2 A3 hs
  go_wp2_with fail
  go_ret2
  exact ⟨none, 0, rfl, .inl rfl, Nat.le_refl _, Nat.zero_le _, (fun x hx => by cases hx), K8.out⟩
section
attribute [local go_sem ↓] exec_app semAt_app
attribute [local go_sem] isApp_lit appA appX
set_option maxRecDepth 100000 in
set_option maxHeartbeats 1600000 in
theorem rc_open_form (g o m z C : Nat) (HZ : Hid (z = 8 + m)) (HM : Hid (m ≤ 65528)) (HC : Hid (z ≤ C)) (h8 : ¬ C = 8) (b : List Nat) (w : World) (HL : Hid (b.length = z)) (HB : Hid (Bts b)) (AT : Hid (NatsAt w .u8 (some ⟨g, o, none⟩) b)) (s x4 x5 n : Nat) (hs : (s : Int) < 4294967296)
    (A0 : w.cell? ⟨g, o, none⟩ = some (.int .u8 ((s : Int) / 16777216))) (A1 : w.cell? ⟨g, o + 1, none⟩ = some (.int .u8 ((s : Int) / 65536 % 256))) (A2 : w.cell? ⟨g, o + 2, none⟩ = some (.int .u8 ((s : Int) / 256 % 256))) (A3 : w.cell? ⟨g, o + 3, none⟩ = some (.int .u8 ((s : Int) % 256)))
    (AC : Hid (∀ w', Same w w' → w'.cell? ⟨g, o + 4, none⟩ = some (.int .u8 (x4 : Nat)) ∧ w'.cell? ⟨g, o + 5, none⟩ = some (.int .u8 (x5 : Nat))))
    (b4 : x4 < 256) (b5 : x5 < 256) (hn : 256 * (x4 : Int) + (x5 : Int) = (n : Int)) (HN : Hid (n ≤ m))
    (SU : Hid (Calls Tryz.prog 48 #[.slice (some ⟨g, o + 4, none⟩) (z - 4) (C - 4)] w fun e w'' => e = .returned (.int .u32 (s : Nat)) ∧ w'' = w)) (r : List Nat × Nat)
    (HR : Hid (r = if sealS ((b.drop 8).take n) m = b then ((b.drop 8).take n, 0) else ([], 4))) :
    Calls Tryz.prog 29 #[.slice (some ⟨g, o, none⟩) z C, .int .i64 (z : Int)] w fun e w' => Told2 w w' e r := by
  have hz := HZ.out
  have hm := HM.out
  have hc := HC.out
  have a1 : ¬ (z : Int) < 8 := by omega
  have a2 : ¬ (65536 : Int) < (z : Int) := by omega
  have a3 : (4 : Int) ≤ (z : Int) := by omega
  have a4 : ¬ C = 4 := by omega
  have i0 : (0 : Int) < (z : Int) := by omega
  have i1 : (1 : Int) < (z : Int) := by omega
  have i2 : (2 : Int) < (z : Int) := by omega
  have i3 : (3 : Int) < (z : Int) := by omega
  have i4 : (4 : Int) < (z : Int) := by omega
  have i5 : (5 : Int) < (z : Int) := by omega
  have exk : IntKind.i64.wrap ((z : Int) - 8) = (z : Int) - 8 := IntWalk.i64_in _ (by omega)
  have hnm := HN.out
  have hbg : ¬ (z : Int) - 8 < (n : Int) := by omega
  have t8 : (8 + (n : Int)).toNat = 8 + n := by omega
  have t9 : 8 + (n : Int) ≤ (z : Int) := by omega
  have t10 : 8 + (n : Int) ≤ (C : Int) := by omega
  have D4 := fun dq os => (AC.out _ (Kept.of_below (below_regrown w dq os))).1
  have D5 := fun dq os => (AC.out _ (Kept.of_below (below_regrown w dq os))).2
  have ex4 : IntKind.i64.wrap (x4 : Int) = (x4 : Int) := IntWalk.i64_in _ (by omega)
  have ex5 : IntKind.i64.wrap (x5 : Int) = (x5 : Int) := IntWalk.i64_in _ (by omega)
  have ex6 : IntKind.i64.wrap (256 * (x4 : Int)) = 256 * (x4 : Int) := IntWalk.i64_in _ (by omega)
  have ex7 : IntKind.i64.wrap (256 * (x4 : Int) + (x5 : Int)) = (n : Int) := by rw [hn]; exact IntWalk.i64_in _ (by omega)
  clear hn hz hm hc hnm
  go_enter Tryz.func29, Tryz.ntmps29
  go_wp2_with fail
  refine SU.out.mono ?_
  rintro e w' ⟨rfl, rfl⟩
  clear SU
  go_wp2_with fail
  refine wp_region_quiet_below (by kernel_rfl) (by kernel_rfl) ?_
  repeat (quiet_step (fail))
  refine wpQuiet_nil ?_
  intro _ hw'
  obtain ⟨⟨dq, osq⟩, hw''⟩ := hw'
  subst hw''
  have kq := Lib.hid (show Same w' _ from Kept.of_below (below_regrown w' dq osq))
  have K8 := Lib.hid kq.out
  clear kq D4 D5
  generalize hW8 : grow (redrawn w' dq) osq = w8 at *
  clear hW8 A0 A1 A2 A3 hs
  have hxl : ((b.drop 8).take n).length = n := by have h1 := HZ.out; have h2 := HN.out; rw [List.length_take, List.length_drop, HL.out]; omega
  have hxb : Bts ((b.drop 8).take n) := (HB.out.drop 8).take n
  have hxa : NatsAt w8 .u8 (some ⟨g, o + 8, none⟩) ((b.drop 8).take n) := ((AT.out.same K8.out).drop 8).take n
  obtain ⟨X, hX⟩ : ∃ X, (b.drop 8).take n = X := ⟨_, rfl⟩
  rw [hX] at hxl hxb hxa HR
  have k1 : Same w8 (w8.alloc (.cells #[] 5)) := (Kept.refl _ _).alloc _
  have o1 : OwnN (w8.alloc (.cells #[] 5)) w8.heap.size 5 .u8 (.slice (some ⟨w8.heap.size, 0, none⟩) 0 0) [] := OwnN.blk (g := w8.heap.size) (Blk.new w8 _ _) rfl (Nat.le_refl _) (by simp [maxLen])
  obtain ⟨v2, w2, hr2, o2, g2, -⟩ := run_appendB (P := Tryz.prog) (w8.alloc (.cells #[] 5)) 23 23 5 w8.heap.size .u8 1 Tryz.underlying23 (by kernel_rfl) (by decide) _ _ o1 (some ⟨g, o + 8, none⟩) n (C - 8) X hxl.symm (hxa.same k1) (by rw [hxl]; have h1 := HM.out; have h2 := HN.out; simp; omega) k1.size
  rw [List.nil_append] at o2
  obtain ⟨a2, l2, c2, rfl, hl2, -, n2, hc2⟩ := o2.rd
  have hl2' : l2 = n := by rw [hl2.out, hxl]
  subst hl2'
  obtain ⟨aok, aV, aW⟩ := app_of hr2
  have K2 := Lib.hid (K8.out.trans (k1.grownNew g2 (fun k hk => (World.ownsRow.lt o1 k hk).1)))
  have N2 := n2
  have C2 := hc2.out.1
  have M2 : Hid (c2 ≤ 9223372036854775807) := by have := hc2.out.2; unfold maxLen at this; show _ ≤ _; omega
  have F2 : Hid (∀ x, a2 = some x → x.block < w2.heap.size) := fun x hx => (World.ownsRow.lt o2 x.block (by rw [hx]; rfl)).2
  have HXL := Lib.hid hxl
  have HXB := Lib.hid hxb
  clear hr2 o1 o2 g2 k1 n2 hc2 hl2 hxl hxb hxa hX ex4 ex5 ex6 ex7
  go_wp2_with fail
  refine (rc_sealS a2 l2 c2 m z HZ.out X HXL.out.symm HXB.out C2 (by rw [HXL.out]; exact HN.out) HM.out w2 N2.out).mono ?_
  rintro e w3 ⟨a3, c3, rfl, n3, -, -, k3⟩
  have hXm : X.length ≤ m := by rw [HXL.out]; exact HN.out
  have hv1 := conv_str a3 z c3 (sealS X m) w3 (by rw [sealS_len hXm]; exact HZ.out) n3
  have hv2 := conv_str (some ⟨g, o, none⟩) z C b w3 HL.out.symm (AT.out.same (K2.out.trans k3))
  have K3 := Lib.hid (K2.out.trans k3)
  have F3 : Hid (∀ x, a2 = some x → x.block < w3.heap.size) := fun x hx => Nat.lt_of_lt_of_le (F2.out x hx) k3.size
  have N3 := Lib.hid (N2.out.same k3)
  have hbq := str_beq (sealS_bts hXm HM.out HXB.out) HB.out
  clear n3 k3 aok aV aW hXm
  by_cases heq : sealS X m = b
  · have hr := HR.out
    rw [if_pos heq] at hr
    have HRR := Lib.hid hr
    rw [decide_eq_true heq] at hbq
    obtain ⟨Z, hZ⟩ : ∃ Z, sealS X m = Z := ⟨_, rfl⟩
    rw [hZ] at hv1 hbq
    clear hr heq hZ
    go_wp2_with fail
    go_ret2
    rw [HRR.out]
    exact ⟨a2, c2, by rw [HXL.out]; rfl, N3.out, by rw [HXL.out]; exact C2, M2.out, F3.out, K3.out⟩
  · have hr := HR.out
    rw [if_neg heq] at hr
    have HRR := Lib.hid hr
    rw [decide_eq_false heq] at hbq
    obtain ⟨Z, hZ⟩ : ∃ Z, sealS X m = Z := ⟨_, rfl⟩
    rw [hZ] at hv1 hbq
    clear hr heq hZ
    go_wp2_with fail
    go_ret2
    rw [HRR.out]
    exact ⟨none, 0, rfl, .inl rfl, Nat.le_refl _, Nat.zero_le _, (fun x hx => by cases hx), K3.out⟩
set_option maxRecDepth 100000 in
set_option maxHeartbeats 1600000 in
theorem rc_open_eight (g o : Nat) (b : List Nat) (w : World) (HL : Hid (b.length = 8)) (HB : Hid (Bts b)) (AT : Hid (NatsAt w .u8 (some ⟨g, o, none⟩) b)) (s x4 x5 : Nat) (hs : (s : Int) < 4294967296)
    (A0 : w.cell? ⟨g, o, none⟩ = some (.int .u8 ((s : Int) / 16777216))) (A1 : w.cell? ⟨g, o + 1, none⟩ = some (.int .u8 ((s : Int) / 65536 % 256))) (A2 : w.cell? ⟨g, o + 2, none⟩ = some (.int .u8 ((s : Int) / 256 % 256))) (A3 : w.cell? ⟨g, o + 3, none⟩ = some (.int .u8 ((s : Int) % 256)))
    (AC : Hid (∀ w', Same w w' → w'.cell? ⟨g, o + 4, none⟩ = some (.int .u8 (x4 : Nat)) ∧ w'.cell? ⟨g, o + 5, none⟩ = some (.int .u8 (x5 : Nat))))
    (hn : 256 * (x4 : Int) + (x5 : Int) = ((0 : Nat) : Int))
    (SU : Hid (Calls Tryz.prog 48 #[.slice (some ⟨g, o + 4, none⟩) 4 4] w fun e w'' => e = .returned (.int .u32 (s : Nat)) ∧ w'' = w)) (r : List Nat × Nat)
    (HR : Hid (r = if sealS [] 0 = b then ([], 0) else ([], 4))) :
    Calls Tryz.prog 29 #[.slice (some ⟨g, o, none⟩) 8 8, .int .i64 8] w fun e w' => Told2 w w' e r := by
  have D4 := fun dq os => (AC.out _ (Kept.of_below (below_regrown w dq os))).1
  have D5 := fun dq os => (AC.out _ (Kept.of_below (below_regrown w dq os))).2
  have ex4 : IntKind.i64.wrap (x4 : Int) = (x4 : Int) := IntWalk.i64_in _ (by omega)
  have ex5 : IntKind.i64.wrap (x5 : Int) = (x5 : Int) := IntWalk.i64_in _ (by omega)
  have ex6 : IntKind.i64.wrap (256 * (x4 : Int)) = 256 * (x4 : Int) := IntWalk.i64_in _ (by omega)
  have ex7 : IntKind.i64.wrap (256 * (x4 : Int) + (x5 : Int)) = 0 := by rw [hn]; decide
  have exk : IntKind.i64.wrap 0 = 0 := by decide
  clear hn
  go_enter Tryz.func29, Tryz.ntmps29
  go_wp2_with fail
  refine SU.out.mono ?_
  rintro e w' ⟨rfl, rfl⟩
  clear SU
  go_wp2_with fail
  refine wp_region_quiet_below (by kernel_rfl) (by kernel_rfl) ?_
  repeat (quiet_step (fail))
  refine wpQuiet_nil ?_
  intro _ hw'
  obtain ⟨⟨dq, osq⟩, hw''⟩ := hw'
  subst hw''
  have kq := Lib.hid (show Same w' _ from Kept.of_below (below_regrown w' dq osq))
  have K8 := Lib.hid kq.out
  clear kq D4 D5
  generalize hW8 : grow (redrawn w' dq) osq = w8 at *
  clear hW8 A0 A1 A2 A3 hs
  have k1 : Same w8 (w8.alloc (.cells #[] 5)) := (Kept.refl _ _).alloc _
  have o1 : OwnN (w8.alloc (.cells #[] 5)) w8.heap.size 5 .u8 (.slice (some ⟨w8.heap.size, 0, none⟩) 0 0) [] := OwnN.blk (g := w8.heap.size) (Blk.new w8 _ _) rfl (Nat.le_refl _) (by simp [maxLen])
  obtain ⟨v2, w2, hr2, o2, g2, -⟩ := run_appendB (P := Tryz.prog) (w8.alloc (.cells #[] 5)) 23 23 5 w8.heap.size .u8 1 Tryz.underlying23 (by kernel_rfl) (by decide) _ _ o1 (some ⟨g, o, none⟩) 0 0 [] rfl (.inl rfl) (by simp) k1.size
  rw [List.nil_append] at o2
  obtain ⟨a2, l2, c2, rfl, hl2, -, n2, hc2⟩ := o2.rd
  obtain rfl : l2 = 0 := hl2.out
  obtain ⟨aok, aV, aW⟩ := app_of hr2
  have K2 := Lib.hid (K8.out.trans (k1.grownNew g2 (fun k hk => (World.ownsRow.lt o1 k hk).1)))
  have N2 := n2
  have C2 := hc2.out.1
  have M2 : Hid (c2 ≤ 9223372036854775807) := by have := hc2.out.2; unfold maxLen at this; show _ ≤ _; omega
  have F2 : Hid (∀ x, a2 = some x → x.block < w2.heap.size) := fun x hx => (World.ownsRow.lt o2 x.block (by rw [hx]; rfl)).2
  clear hr2 o1 o2 g2 k1 n2 hc2 hl2 ex4 ex5 ex6 ex7
  go_wp2_with fail
  refine (rc_sealS a2 0 c2 0 8 rfl [] rfl (fun x hx => by cases hx) C2 (Nat.le_refl _) (by decide) w2 N2.out).mono ?_
  rintro e w3 ⟨a3, c3, rfl, n3, -, -, k3⟩
  have hv1 := conv_str a3 8 c3 (sealS [] 0) w3 (sealS_len (b := []) (n := 0) (Nat.le_refl _)).symm n3
  have hv2 := conv_str (some ⟨g, o, none⟩) 8 8 b w3 HL.out.symm (AT.out.same (K2.out.trans k3))
  have K3 := Lib.hid (K2.out.trans k3)
  have F3 : Hid (∀ x, a2 = some x → x.block < w3.heap.size) := fun x hx => Nat.lt_of_lt_of_le (F2.out x hx) k3.size
  have N3 := Lib.hid (N2.out.same k3)
  have hbq := str_beq (sealS_bts (b := []) (n := 0) (Nat.le_refl _) (by decide) (fun x hx => by cases hx)) HB.out
  clear n3 k3 aok aV aW
  by_cases heq : sealS [] 0 = b
  · have hr := HR.out
    rw [if_pos heq] at hr
    have HRR := Lib.hid hr
    rw [decide_eq_true heq] at hbq
    obtain ⟨Z, hZ⟩ : ∃ Z, sealS [] 0 = Z := ⟨_, rfl⟩
    rw [hZ] at hv1 hbq
    clear hr heq hZ
    go_wp2_with fail
    go_ret2
    rw [HRR.out]
    exact ⟨a2, c2, rfl, N3.out, C2, M2.out, F3.out, K3.out⟩
  · have hr := HR.out
    rw [if_neg heq] at hr
    have HRR := Lib.hid hr
    rw [decide_eq_false heq] at hbq
    obtain ⟨Z, hZ⟩ : ∃ Z, sealS [] 0 = Z := ⟨_, rfl⟩
    rw [hZ] at hv1 hbq
    clear hr heq hZ
    go_wp2_with fail
    go_ret2
    rw [HRR.out]
    exact ⟨none, 0, rfl, .inl rfl, Nat.le_refl _, Nat.zero_le _, (fun x hx => by cases hx), K3.out⟩
end
set_option maxRecDepth 100000 in
/-- The document's Open, at any size. -/
theorem rc_openM (g o m z C : Nat) (hz : z = 8 + m) (hm : m ≤ 65528) (hC : z ≤ C) (b : List Nat) (hl : b.length = z) (hb : Bts b) (w : World) (hat : NatsAt w .u8 (some ⟨g, o, none⟩) b) :
    Calls Tryz.prog 29 #[.slice (some ⟨g, o, none⟩) z C, .int .i64 (z : Int)] w fun e w' => Told2 w w' e (openM b m) := by
  have HL := Lib.hid hl; have HB := Lib.hid hb; have AT := Lib.hid hat; have HZ := Lib.hid hz; have HM := Lib.hid hm; have HC := Lib.hid hC
  have SU := Lib.hid (cr_ref_of (some ⟨g, o + 4, none⟩) (z - 4) (C - 4) (b.drop 4) (by rw [List.length_drop, hl]) (hb.drop 4) w (hat.drop 4) (by omega))
  have hS := crcOf_lt (b.drop 4) (hb.drop 4)
  have hlm : b.length = 8 + m := hl.trans hz
  have hag : b.take 4 = fourOf (crcOf (b.drop 4)) → tldN b ≤ m → (sealS ((b.drop 8).take (tldN b)) m = b ↔ formOK b) := fun h4 hn =>
    ⟨fun h => (seal_form h).2.1, fun h => form_seal hlm hb h4 hn h⟩
  have ht := take_four hlm
  have hc : ∀ i, i < 8 → w.cell? ⟨g, o + i, none⟩ = some (.int .u8 (b.getD i 0 : Nat)) := fun i hi => nats_get hat (by omega)
  have AC : Hid (∀ w', Same w w' → w'.cell? ⟨g, o + 4, none⟩ = some (.int .u8 (b.getD 4 0 : Nat)) ∧ w'.cell? ⟨g, o + 5, none⟩ = some (.int .u8 (b.getD 5 0 : Nat))) :=
    fun w' k => ⟨nats_get (hat.same k) (by omega), nats_get (hat.same k) (by omega)⟩
  have c0 := hc 0 (by decide)
  have c1 := hc 1 (by decide)
  have c2 := hc 2 (by decide)
  have c3 := hc 3 (by decide)
  have b4 := getD_lt HB.out 4
  have b5 := getD_lt HB.out 5
  have htl : tldN b = 256 * b.getD 4 0 + b.getD 5 0 := rfl
  unfold openM
  obtain ⟨s, hs⟩ : ∃ s, crcOf (b.drop 4) = s := ⟨_, rfl⟩
  rw [hs] at SU hS hag ⊢
  rw [ht] at hag ⊢
  clear ht hc
  generalize b.getD 0 0 = y0 at *
  generalize b.getD 1 0 = y1 at *
  generalize b.getD 2 0 = y2 at *
  generalize b.getD 3 0 = y3 at *
  generalize b.getD 4 0 = x4 at *
  generalize b.getD 5 0 = x5 at *
  obtain ⟨n, hnn⟩ : ∃ n, tldN b = n := ⟨_, rfl⟩
  rw [hnn] at htl hag ⊢
  have hs4 : (s : Int) < 4294967296 := by omega
  by_cases h4 : [y0, y1, y2, y3] = fourOf s
  · rw [if_pos h4]
    have hag := hag h4
    simp only [fourOf, List.cons.injEq, and_true] at h4
    obtain ⟨q0, q1, q2, q3⟩ := h4
    rw [show ((y0 : Nat) : Int) = (s : Int) / 16777216 from by omega] at c0
    rw [show ((y1 : Nat) : Int) = (s : Int) / 65536 % 256 from by omega] at c1
    rw [show ((y2 : Nat) : Int) = (s : Int) / 256 % 256 from by omega] at c2
    rw [show ((y3 : Nat) : Int) = (s : Int) % 256 from by omega] at c3
    by_cases hn : n ≤ m
    · rw [if_pos hn]
      have hag := hag hn
      have hr : (if formOK b then ((b.drop 8).take n, 0) else ([], 4)) = if sealS ((b.drop 8).take n) m = b then ((b.drop 8).take n, 0) else (([], 4) : List Nat × Nat) := by
        by_cases hf : formOK b
        · rw [if_pos hf, if_pos (hag.2 hf)]
        · rw [if_neg hf, if_neg (fun h => hf (hag.1 h))]
      by_cases h8 : C = 8
      · obtain rfl : m = 0 := by omega
        obtain rfl : z = 8 := hz
        subst h8
        obtain rfl : n = 0 := by omega
        exact rc_open_eight g o b w HL HB AT s x4 x5 hs4 c0 c1 c2 c3 AC (by omega) SU _ hr
      · exact rc_open_form g o m z C HZ HM HC h8 b w HL HB AT s x4 x5 n hs4 c0 c1 c2 c3 AC b4 b5 (by omega) hn SU _ hr
    · rw [if_neg hn]
      exact rc_open_big g o m z C HZ HM HC w s x4 x5 n hs4 c0 c1 c2 c3 AC b4 b5 (by omega) (by omega) SU
  · rw [if_neg h4]
    refine rc_open_sum g o m z C HZ HM HC w s y0 y1 y2 y3 hs4 c0 c1 c2 c3 SU (fun h => h4 ?_)
    simp only [fourOf, List.cons.injEq, and_true]
    omega
end Go.Proofs.YtpgghajkpjhieaaGreatDoor
