/- Open. -/
import Derived.Test.YtlmpkonfclnceaaCrc2
import Derived.Test.YtlmpkonfclnceaaStrB
import Derived.Deep.RegionHeld3
import Derived.Lib.QuietBelow
import Derived.Deep.QuietTactic
import Derived.BigQuiet
namespace Go.Proofs.Ytlmpkonfclnceaa
open Go.RowKit Go.Sort

theorem bits_or64 (x y : Nat) (hx : x < 256) (hy : y < 256) : bits .or .i64 ((x : Int) * 256) (y : Int) = ((256 * x + y : Nat) : Int) := by
  have e : (x : Int) * 256 = ((256 * x : Nat) : Int) := by omega
  have hor : 256 * x ||| y = 256 * x + y := by
    have := Nat.two_pow_add_eq_or_of_lt (i := 8) (b := y) (by omega) x
    rw [show (2 ^ 8 : Nat) = 256 from rfl] at this
    exact this.symm
  have h1 : (BitVec.ofInt 64 ((256 * x : Nat) : Int)).toNat = 256 * x := by
    rw [BitVec.ofInt_natCast, BitVec.toNat_ofNat]; exact Nat.mod_eq_of_lt (by omega)
  have h2 : (BitVec.ofInt 64 (y : Int)).toNat = y := by
    rw [BitVec.ofInt_natCast, BitVec.toNat_ofNat]; exact Nat.mod_eq_of_lt (by omega)
  rw [e]
  show IntKind.i64.wrap ((BitVec.ofInt 64 ((256 * x : Nat) : Int) ||| BitVec.ofInt 64 (y : Int)).toNat : Int) = _
  rw [BitVec.toNat_or, h1, h2, hor]
  exact IntWalk.i64_in _ (by omega)
/-- The form of what is sealed. -/
def formOK (b : List Nat) : Prop := b.getD 6 0 = 0 ∧ b.getD 7 0 = 0 ∧ ∀ x ∈ b.drop (8 + (256 * b.getD 4 0 + b.getD 5 0)), x = 0
instance (b : List Nat) : Decidable (formOK b) := inferInstanceAs (Decidable (_ ∧ _ ∧ _))
def openP (b : List Nat) : List Nat × Nat :=
  if b.take 4 = fourOf (crcOf (b.drop 4)) then
    (if 256 * b.getD 4 0 + b.getD 5 0 ≤ 1016 then (if formOK b then ((b.drop 8).take (256 * b.getD 4 0 + b.getD 5 0), 0) else ([], 4)) else ([], 4))
  else ([], 10)
/-- Bytes that a call tells, and its error. -/
def Told (w w' : World) (e : Ending) (r : List Nat × Nat) : Prop := ∃ a c, e = .returned (.tuple #[.slice a r.1.length c, .int .i64 (r.2 : Nat)]) ∧ NatsAt w' .u8 a r.1 ∧ (a = none → r.1 = []) ∧ Same w w'
theorem nats_get {w : World} {k : IntKind} {g o : Nat} {xs : List Nat} (h : NatsAt w k (some ⟨g, o, none⟩) xs) {i : Nat} (hi : i < xs.length) : w.cell? ⟨g, o + i, none⟩ = some (.int k ((xs.getD i 0 : Nat) : Int)) := by
  obtain ⟨b, off, x, e, _, hx, hc⟩ := h.at hi
  cases e
  rw [hc, List.getD_eq_getElem?_getD, hx]
  rfl
theorem getD_bts {b : List Nat} (h : Bts b) (i : Nat) : b.getD i 0 < 256 := by
  rw [List.getD_eq_getElem?_getD]
  cases e : b[i]? with
  | none => simp
  | some x => exact h x (List.mem_of_getElem? e)
theorem or_zero {x y : Nat} (h : x ||| y = 0) : x = 0 ∧ y = 0 := by
  have h1 : x ≤ x ||| y := Nat.left_le_or
  have h2 : y ≤ x ||| y := Nat.right_le_or
  omega
set_option maxRecDepth 100000 in
set_option maxHeartbeats 1600000 in
theorem open_big (g o : Nat) (b : List Nat) (w : World) (HL : Hid (b.length = 1024)) (AT : Hid (NatsAt w .u8 (some ⟨g, o, none⟩) b)) (s x4 x5 x6 x7 n y : Nat)
    (AC : Hid (∀ w', Same w w' → w'.cell? ⟨g, o + 4, none⟩ = some (.int .u8 (x4 : Nat)) ∧ w'.cell? ⟨g, o + 5, none⟩ = some (.int .u8 (x5 : Nat)) ∧ w'.cell? ⟨g, o + 6, none⟩ = some (.int .u8 (x6 : Nat)) ∧ w'.cell? ⟨g, o + 7, none⟩ = some (.int .u8 (x7 : Nat))))
    (b4 : x4 < 256) (b5 : x5 < 256) (hor : bits .or .i64 ((x4 : Int) * 256) (x5 : Int) = (n : Int)) (hor8 : bits .or .u8 (x6 : Int) (x7 : Int) = (y : Int))
    (SU : Hid (∀ w', Same w w' → Calls Try.prog 100 #[.slice (some ⟨g, o + 4, none⟩) 1020 1020] w' fun e w'' => e = .returned (.int .u32 (s : Nat)) ∧ w'' = w'))
    (EQ : Hid (∀ w', Same w w' → ∀ a', NatsAt w' .u8 a' (fourOf s) → Calls Try.prog 101 #[.slice (some ⟨g, o, none⟩) 4 1024, .slice a' 4 4] w' fun e w'' => e = .returned (.bool true) ∧ w'' = w'))
    (FO : Hid (∀ w', Calls Try.prog 99 #[.int .u32 (s : Nat)] w' fun e w'' => ∃ g, e = .returned (.slice (some ⟨g, 0, none⟩) 4 4) ∧ NatsAt w'' .u8 (some ⟨g, 0, none⟩) (fourOf s) ∧ w'.heap.size ≤ g ∧ Same w' w''))
    (h16 : 1016 < n) :
    Calls Try.prog 72 #[.slice (some ⟨g, o, none⟩) 1024 1024, .int .i64 1024] w fun e w' => Told w w' e ([], 4) := by
  have _u : True := (fun _ _ _ => trivial) HL AT hor8
  clear _u
  have KN := Lib.hid (Kept.refl (fun _ => False) w)
  have g16 : (1016 : Int) < (n : Int) := by omega
  have gd : decide ((1016 : Int) < (n : Int)) = true := decide_eq_true g16
  go_enter Try.func72, Try.ntmps72
  go_wp2_with fail
  go_region_held3 (fun _ => True) (exact trivial)
    (first
      | (go_at_call 100; refine (SU.out _ (by first | exact KN.out | exact KN.out.drew)).mono ?_; rintro e w' ⟨rfl, rfl⟩)
      | (go_at_call 99; refine (FO.out _).mono ?_; rintro e w4 ⟨g4, rfl, n4, -, k4⟩; have N4 := Lib.hid n4; have KN' := Lib.hid (show Same w w4 from Kept.trans (by first | exact KN.out | exact KN.out.drew) k4); clear KN n4 k4; have KN := KN'; clear KN')
      | (go_at_call 101; refine (EQ.out _ (by first | exact KN.out | exact KN.out.drew) _ (by first | exact N4.out | exact N4.out.same (Kept.refl _ _).drew)).mono ?_; rintro e w' ⟨rfl, rfl⟩))
  have ex4 : IntKind.i64.wrap (x4 : Int) = (x4 : Int) := IntWalk.i64_in _ (by omega)
  have ex5 : IntKind.i64.wrap (x5 : Int) = (x5 : Int) := IntWalk.i64_in _ (by omega)
  have ex6 : IntKind.i64.wrap ((x4 : Int) * 256) = (x4 : Int) * 256 := IntWalk.i64_in _ (by omega)
  have exk : IntKind.i64.wrap 1016 = 1016 := by decide
  have D4 := fun dq os => (AC.out _ (KN.out.trans (Kept.of_below (below_regrown _ dq os)))).1
  have D5 := fun dq os => (AC.out _ (KN.out.trans (Kept.of_below (below_regrown _ dq os)))).2.1
  clear SU EQ FO N4
  go_wp2_with fail
  refine wp_region_quiet_below (by kernel_rfl) (by kernel_rfl) ?_
  repeat (quiet_step (fail))
  refine wpQuiet_nil ?_
  intro _ hw'
  obtain ⟨⟨dq, osq⟩, hw''⟩ := hw'
  subst hw''
  have kq := Lib.hid (show Same w' _ from Kept.of_below (below_regrown w' dq osq))
  have K8 := Lib.hid (KN.out.trans kq.out)
  clear kq KN D4 D5
  generalize hW8 : grow (redrawn w' dq) osq = w8 at *
  clear hW8
  have D6 := fun dq os => (AC.out _ (K8.out.trans (Kept.of_below (below_regrown _ dq os)))).2.2.1
  have D7 := fun dq os => (AC.out _ (K8.out.trans (Kept.of_below (below_regrown _ dq os)))).2.2.2
  go_wp2_with fail
  go_region
  go_wp2_with fail
  go_ret2
  exact ⟨none, 0, rfl, .inl rfl, fun _ => rfl, by repeat (first | with_reducible exact K8.out.trans kq.out | with_reducible exact K8.out | with_reducible refine Kept.drew ?_)⟩
set_option maxRecDepth 100000 in
set_option maxHeartbeats 1600000 in
theorem open_bad (g o : Nat) (b : List Nat) (w : World) (HL : Hid (b.length = 1024)) (AT : Hid (NatsAt w .u8 (some ⟨g, o, none⟩) b)) (s x4 x5 x6 x7 n y : Nat)
    (AC : Hid (∀ w', Same w w' → w'.cell? ⟨g, o + 4, none⟩ = some (.int .u8 (x4 : Nat)) ∧ w'.cell? ⟨g, o + 5, none⟩ = some (.int .u8 (x5 : Nat)) ∧ w'.cell? ⟨g, o + 6, none⟩ = some (.int .u8 (x6 : Nat)) ∧ w'.cell? ⟨g, o + 7, none⟩ = some (.int .u8 (x7 : Nat))))
    (b4 : x4 < 256) (b5 : x5 < 256) (hor : bits .or .i64 ((x4 : Int) * 256) (x5 : Int) = (n : Int)) (hor8 : bits .or .u8 (x6 : Int) (x7 : Int) = (y : Int))
    (SU : Hid (∀ w', Same w w' → Calls Try.prog 100 #[.slice (some ⟨g, o + 4, none⟩) 1020 1020] w' fun e w'' => e = .returned (.int .u32 (s : Nat)) ∧ w'' = w'))
    (EQ : Hid (∀ w', Same w w' → ∀ a', NatsAt w' .u8 a' (fourOf s) → Calls Try.prog 101 #[.slice (some ⟨g, o, none⟩) 4 1024, .slice a' 4 4] w' fun e w'' => e = .returned (.bool true) ∧ w'' = w'))
    (FO : Hid (∀ w', Calls Try.prog 99 #[.int .u32 (s : Nat)] w' fun e w'' => ∃ g, e = .returned (.slice (some ⟨g, 0, none⟩) 4 4) ∧ NatsAt w'' .u8 (some ⟨g, 0, none⟩) (fourOf s) ∧ w'.heap.size ≤ g ∧ Same w' w''))
    (h16 : n ≤ 1016) (hy0 : y ≠ 0) :
    Calls Try.prog 72 #[.slice (some ⟨g, o, none⟩) 1024 1024, .int .i64 1024] w fun e w' => Told w w' e ([], 4) := by
  have _u : True := (fun _ _ => trivial) HL AT
  clear _u
  have KN := Lib.hid (Kept.refl (fun _ => False) w)
  have g17 : ¬ (1016 : Int) < (n : Int) := by omega
  have gd : decide ((1016 : Int) < (n : Int)) = false := decide_eq_false g17
  have gy0 : ¬ (y : Int) = 0 := by omega
  have gy1 : ((y : Int) != 0) = true := by simpa using gy0
  go_enter Try.func72, Try.ntmps72
  go_wp2_with fail
  go_region_held3 (fun _ => True) (exact trivial)
    (first
      | (go_at_call 100; refine (SU.out _ (by first | exact KN.out | exact KN.out.drew)).mono ?_; rintro e w' ⟨rfl, rfl⟩)
      | (go_at_call 99; refine (FO.out _).mono ?_; rintro e w4 ⟨g4, rfl, n4, -, k4⟩; have N4 := Lib.hid n4; have KN' := Lib.hid (show Same w w4 from Kept.trans (by first | exact KN.out | exact KN.out.drew) k4); clear KN n4 k4; have KN := KN'; clear KN')
      | (go_at_call 101; refine (EQ.out _ (by first | exact KN.out | exact KN.out.drew) _ (by first | exact N4.out | exact N4.out.same (Kept.refl _ _).drew)).mono ?_; rintro e w' ⟨rfl, rfl⟩))
  have ex4 : IntKind.i64.wrap (x4 : Int) = (x4 : Int) := IntWalk.i64_in _ (by omega)
  have ex5 : IntKind.i64.wrap (x5 : Int) = (x5 : Int) := IntWalk.i64_in _ (by omega)
  have ex6 : IntKind.i64.wrap ((x4 : Int) * 256) = (x4 : Int) * 256 := IntWalk.i64_in _ (by omega)
  have exk : IntKind.i64.wrap 1016 = 1016 := by decide
  have D4 := fun dq os => (AC.out _ (KN.out.trans (Kept.of_below (below_regrown _ dq os)))).1
  have D5 := fun dq os => (AC.out _ (KN.out.trans (Kept.of_below (below_regrown _ dq os)))).2.1
  clear SU EQ FO N4
  go_wp2_with fail
  refine wp_region_quiet_below (by kernel_rfl) (by kernel_rfl) ?_
  repeat (quiet_step (fail))
  refine wpQuiet_nil ?_
  intro _ hw'
  obtain ⟨⟨dq, osq⟩, hw''⟩ := hw'
  subst hw''
  have kq := Lib.hid (show Same w' _ from Kept.of_below (below_regrown w' dq osq))
  have K8 := Lib.hid (KN.out.trans kq.out)
  clear kq KN D4 D5
  generalize hW8 : grow (redrawn w' dq) osq = w8 at *
  clear hW8
  have D6 := fun dq os => (AC.out _ (K8.out.trans (Kept.of_below (below_regrown _ dq os)))).2.2.1
  have D7 := fun dq os => (AC.out _ (K8.out.trans (Kept.of_below (below_regrown _ dq os)))).2.2.2
  go_wp2_with fail
  refine wp_region_quiet_below (by kernel_rfl) (by kernel_rfl) ?_
  repeat (quiet_step (fail))
  refine wpQuiet_nil ?_
  intro _ hw'
  obtain ⟨⟨dq, osq⟩, hw''⟩ := hw'
  subst hw''
  have kq := Lib.hid (show Same w8 _ from Kept.of_below (below_regrown w8 dq osq))
  go_wp2_with fail
  go_ret2
  exact ⟨none, 0, rfl, .inl rfl, fun _ => rfl, by repeat (first | with_reducible exact K8.out.trans kq.out | with_reducible exact K8.out | with_reducible refine Kept.drew ?_)⟩
set_option maxRecDepth 100000 in
set_option maxHeartbeats 1600000 in
theorem open_sum (g o : Nat) (b : List Nat) (w : World) (HL : Hid (b.length = 1024)) (AT : Hid (NatsAt w .u8 (some ⟨g, o, none⟩) b)) (s x4 x5 x6 x7 n y : Nat)
    (AC : Hid (∀ w', Same w w' → w'.cell? ⟨g, o + 4, none⟩ = some (.int .u8 (x4 : Nat)) ∧ w'.cell? ⟨g, o + 5, none⟩ = some (.int .u8 (x5 : Nat)) ∧ w'.cell? ⟨g, o + 6, none⟩ = some (.int .u8 (x6 : Nat)) ∧ w'.cell? ⟨g, o + 7, none⟩ = some (.int .u8 (x7 : Nat))))
    (b4 : x4 < 256) (b5 : x5 < 256) (hor : bits .or .i64 ((x4 : Int) * 256) (x5 : Int) = (n : Int)) (hor8 : bits .or .u8 (x6 : Int) (x7 : Int) = (y : Int))
    (SU : Hid (∀ w', Same w w' → Calls Try.prog 100 #[.slice (some ⟨g, o + 4, none⟩) 1020 1020] w' fun e w'' => e = .returned (.int .u32 (s : Nat)) ∧ w'' = w'))
    (EQ : Hid (∀ w', Same w w' → ∀ a', NatsAt w' .u8 a' (fourOf s) → Calls Try.prog 101 #[.slice (some ⟨g, o, none⟩) 4 1024, .slice a' 4 4] w' fun e w'' => e = .returned (.bool false) ∧ w'' = w'))
    (FO : Hid (∀ w', Calls Try.prog 99 #[.int .u32 (s : Nat)] w' fun e w'' => ∃ g, e = .returned (.slice (some ⟨g, 0, none⟩) 4 4) ∧ NatsAt w'' .u8 (some ⟨g, 0, none⟩) (fourOf s) ∧ w'.heap.size ≤ g ∧ Same w' w''))
     :
    Calls Try.prog 72 #[.slice (some ⟨g, o, none⟩) 1024 1024, .int .i64 1024] w fun e w' => Told w w' e ([], 10) := by
  have _u : True := (fun _ _ _ _ _ _ _ => trivial) HL AT AC b4 b5 hor hor8
  clear _u
  have KN := Lib.hid (Kept.refl (fun _ => False) w)
  clear hor hor8 AT HL AC b4 b5
  go_enter Try.func72, Try.ntmps72
  go_wp2_with fail
  go_region_held3 (fun _ => True) (exact trivial)
    (first
      | (go_at_call 100; refine (SU.out _ (by first | exact KN.out | exact KN.out.drew)).mono ?_; rintro e w' ⟨rfl, rfl⟩)
      | (go_at_call 99; refine (FO.out _).mono ?_; rintro e w4 ⟨g4, rfl, n4, -, k4⟩; have N4 := Lib.hid n4; have KN' := Lib.hid (show Same w w4 from Kept.trans (by first | exact KN.out | exact KN.out.drew) k4); clear KN n4 k4; have KN := KN'; clear KN')
      | (go_at_call 101; refine (EQ.out _ (by first | exact KN.out | exact KN.out.drew) _ (by first | exact N4.out | exact N4.out.same (Kept.refl _ _).drew)).mono ?_; rintro e w' ⟨rfl, rfl⟩))
  all_goals
    go_wp2_with fail
    go_ret2
    exact ⟨none, 0, rfl, .inl rfl, fun _ => rfl, by first | exact KN.out | exact KN.out.drew⟩
set_option maxRecDepth 100000 in
set_option maxHeartbeats 1600000 in
theorem open_good (g o : Nat) (b : List Nat) (w : World) (HL : Hid (b.length = 1024)) (AT : Hid (NatsAt w .u8 (some ⟨g, o, none⟩) b)) (s x4 x5 x6 x7 n y : Nat)
    (AC : Hid (∀ w', Same w w' → w'.cell? ⟨g, o + 4, none⟩ = some (.int .u8 (x4 : Nat)) ∧ w'.cell? ⟨g, o + 5, none⟩ = some (.int .u8 (x5 : Nat)) ∧ w'.cell? ⟨g, o + 6, none⟩ = some (.int .u8 (x6 : Nat)) ∧ w'.cell? ⟨g, o + 7, none⟩ = some (.int .u8 (x7 : Nat))))
    (b4 : x4 < 256) (b5 : x5 < 256) (hor : bits .or .i64 ((x4 : Int) * 256) (x5 : Int) = (n : Int)) (hor8 : bits .or .u8 (x6 : Int) (x7 : Int) = (y : Int))
    (SU : Hid (∀ w', Same w w' → Calls Try.prog 100 #[.slice (some ⟨g, o + 4, none⟩) 1020 1020] w' fun e w'' => e = .returned (.int .u32 (s : Nat)) ∧ w'' = w'))
    (EQ : Hid (∀ w', Same w w' → ∀ a', NatsAt w' .u8 a' (fourOf s) → Calls Try.prog 101 #[.slice (some ⟨g, o, none⟩) 4 1024, .slice a' 4 4] w' fun e w'' => e = .returned (.bool true) ∧ w'' = w'))
    (FO : Hid (∀ w', Calls Try.prog 99 #[.int .u32 (s : Nat)] w' fun e w'' => ∃ g, e = .returned (.slice (some ⟨g, 0, none⟩) 4 4) ∧ NatsAt w'' .u8 (some ⟨g, 0, none⟩) (fourOf s) ∧ w'.heap.size ≤ g ∧ Same w' w''))
    (h16 : n < 1016) (hy0 : y = 0) (r : List Nat × Nat) (HR1 : Hid ((∀ x ∈ b.drop (8 + n), x = 0) → r = ((b.drop 8).take n, 0))) (HR2 : Hid ((∃ x ∈ b.drop (8 + n), x ≠ 0) → r = ([], 4))) :
    Calls Try.prog 72 #[.slice (some ⟨g, o, none⟩) 1024 1024, .int .i64 1024] w fun e w' => Told w w' e r := by
  have KN := Lib.hid (Kept.refl (fun _ => False) w)
  subst hy0
  have g17 : ¬ (1016 : Int) < (n : Int) := by omega
  have g19 : (n : Int) < 1016 := by omega
  have gd : decide ((1016 : Int) < (n : Int)) = false := decide_eq_false g17
  have CL : Hid (∀ w', Same w w' → Calls Try.prog 102 #[.slice (some ⟨g, o + 8, none⟩) n 1016] w' fun e w'' => ∃ v, e = .returned v ∧ OwnN w'' w'.heap.size 5 .u8 v ((b.drop 8).take n) ∧ Same w' w'') := by
    intro w' k
    have hl : ((b.drop 8).take n).length = n := by rw [List.length_take, List.length_drop, HL.out]; omega
    have := by_clone (some ⟨g, o + 8, none⟩) 1016 ((b.drop 8).take n) w' (((AT.out.same k).drop 8).take n) (by rw [hl]; omega) (fun h => by cases h)
    rw [hl] at this
    exact this
  go_enter Try.func72, Try.ntmps72
  go_wp2_with fail
  go_region_held3 (fun _ => True) (exact trivial)
    (first
      | (go_at_call 100; refine (SU.out _ (by first | exact KN.out | exact KN.out.drew)).mono ?_; rintro e w' ⟨rfl, rfl⟩)
      | (go_at_call 99; refine (FO.out _).mono ?_; rintro e w4 ⟨g4, rfl, n4, -, k4⟩; have N4 := Lib.hid n4; have KN' := Lib.hid (show Same w w4 from Kept.trans (by first | exact KN.out | exact KN.out.drew) k4); clear KN n4 k4; have KN := KN'; clear KN')
      | (go_at_call 101; refine (EQ.out _ (by first | exact KN.out | exact KN.out.drew) _ (by first | exact N4.out | exact N4.out.same (Kept.refl _ _).drew)).mono ?_; rintro e w' ⟨rfl, rfl⟩))
  have ex4 : IntKind.i64.wrap (x4 : Int) = (x4 : Int) := IntWalk.i64_in _ (by omega)
  have ex5 : IntKind.i64.wrap (x5 : Int) = (x5 : Int) := IntWalk.i64_in _ (by omega)
  have ex6 : IntKind.i64.wrap ((x4 : Int) * 256) = (x4 : Int) * 256 := IntWalk.i64_in _ (by omega)
  have exk : IntKind.i64.wrap 1016 = 1016 := by decide
  have D4 := fun dq os => (AC.out _ (KN.out.trans (Kept.of_below (below_regrown _ dq os)))).1
  have D5 := fun dq os => (AC.out _ (KN.out.trans (Kept.of_below (below_regrown _ dq os)))).2.1
  clear SU EQ FO N4
  go_wp2_with fail
  refine wp_region_quiet_below (by kernel_rfl) (by kernel_rfl) ?_
  repeat (quiet_step (fail))
  refine wpQuiet_nil ?_
  intro _ hw'
  obtain ⟨⟨dq, osq⟩, hw''⟩ := hw'
  subst hw''
  have kq := Lib.hid (show Same w' _ from Kept.of_below (below_regrown w' dq osq))
  have K8 := Lib.hid (KN.out.trans kq.out)
  clear kq KN D4 D5
  generalize hW8 : grow (redrawn w' dq) osq = w8 at *
  clear hW8
  have D6 := fun dq os => (AC.out _ (K8.out.trans (Kept.of_below (below_regrown _ dq os)))).2.2.1
  have D7 := fun dq os => (AC.out _ (K8.out.trans (Kept.of_below (below_regrown _ dq os)))).2.2.2
  go_wp2_with fail
  refine wp_region_quiet_below (by kernel_rfl) (by kernel_rfl) ?_
  repeat (quiet_step (fail))
  refine wpQuiet_nil ?_
  intro _ hw'
  obtain ⟨⟨dq, osq⟩, hw''⟩ := hw'
  subst hw''
  have kq := Lib.hid (show Same w8 _ from Kept.of_below (below_regrown w8 dq osq))
  have K9 := Lib.hid (K8.out.trans kq.out)
  clear kq K8 D6 D7
  generalize hW9 : grow (redrawn w8 dq) osq = w9 at *
  clear hW9
  clear gd g17
  go_wp2_with fail
  go_loop [59] (fun t => ∃ i : Nat, t = .int .i64 i ∧ i ≤ 1016 - n ∧ ∀ j, j < i → b.getD (8 + n + j) 0 = 0) (fun t => 1016 - n - (intOf t).toNat)
  case atStart => exact ⟨0, rfl, by omega, fun j hj => by omega⟩
  case round =>
    obtain ⟨i, rfl, hi, hz⟩ := hrel
    have HZ := Lib.hid hz
    clear hz
    by_cases hgo : i < 1016 - n
    · have cx := nats_get (AT.out.same K9.out) (i := 8 + n + i) (by rw [HL.out]; omega)
      have hm : b.getD (8 + n + i) 0 ∈ b.drop (8 + n) := by
        rw [List.getD_eq_getElem?_getD, List.getElem?_eq_getElem (by rw [HL.out]; omega)]
        have : b[8 + n + i]'(by rw [HL.out]; omega) = (b.drop (8 + n))[i]'(by rw [List.length_drop, HL.out]; omega) := by rw [List.getElem_drop]
        show b[8 + n + i]'(by rw [HL.out]; omega) ∈ _
        rw [this]
        exact List.getElem_mem _
      obtain ⟨z, hzz⟩ : ∃ z, b.getD (8 + n + i) 0 = z := ⟨_, rfl⟩
      rw [hzz, show o + (8 + n + i) = o + (8 + n) + i from by omega] at cx
      rw [hzz] at hm
      have HM := Lib.hid hm
      have HZZ := Lib.hid hzz
      clear hzz hm
      have g1 : (i : Int) < 1016 - (n : Int) := by omega
      have g0 : (0 : Int) ≤ (i : Int) := by omega
      by_cases hz0 : z = 0
      · subst hz0
        go_wp2_with fail
        go_round
        case rel => exact ⟨i + 1, by go_num, by omega, fun j hj => by
          by_cases q : j = i
          · subst q; exact HZZ.out
          · exact HZ.out j (by omega)⟩
        case measure => simp [intOf]; omega
      · have gz0 : ¬ (z : Int) = 0 := by omega
        have gz1 : ((z : Int) != 0) = true := by simpa using gz0
        have hr : r = ([], 4) := HR2.out ⟨z, HM.out, hz0⟩
        have HRR := Lib.hid hr
        clear hr
        go_wp2_with fail
        go_ret2
        rw [HRR.out]
        exact ⟨none, 0, rfl, .inl rfl, fun _ => rfl, K9.out⟩
    · have g1 : ¬ (i : Int) < 1016 - (n : Int) := by omega
      have ei : i = 1016 - n := by omega
      have hr : r = ((b.drop 8).take n, 0) := by
        refine HR1.out (fun x hx => ?_)
        obtain ⟨j, hj, rfl⟩ := List.mem_iff_getElem.1 hx
        rw [List.length_drop, HL.out] at hj
        have h1 := HZ.out j (by omega)
        rw [List.getD_eq_getElem?_getD, List.getElem?_eq_getElem (by rw [HL.out]; omega)] at h1
        rw [List.getElem_drop]
        exact h1
      have HRR := Lib.hid hr
      have HLN : Hid (((b.drop 8).take n).length = n) := by show _ = _; rw [List.length_take, List.length_drop, HL.out]; omega
      clear hr ei
      go_wp2_with fail
      refine (CL.out _ K9.out).mono ?_
      rintro e w7 ⟨v, rfl, ho, k7⟩
      obtain ⟨a7, l7, cap7, rfl, hl7, hnil7, hat7, -⟩ := ho.rd
      have K7 := Lib.hid (K9.out.trans k7)
      have hl := hl7.out
      rw [HLN.out] at hl
      have HL7 := Lib.hid hl
      clear ho k7 hl
      go_wp2_with fail
      go_ret2
      rw [HRR.out]
      exact ⟨a7, cap7, by rw [HLN.out, ← HL7.out]; rfl, hat7.out, fun h => by have := HL7.out; subst h; exact (by have h0 := hat7.out; rcases h0 with q | ⟨_, _, q, _⟩; exact q; cases q), K7.out⟩
set_option maxRecDepth 100000 in
set_option maxHeartbeats 1600000 in
theorem open_full (g o : Nat) (b : List Nat) (w : World) (HL : Hid (b.length = 1024)) (AT : Hid (NatsAt w .u8 (some ⟨g, o, none⟩) b)) (s x4 x5 x6 x7 n y : Nat)
    (AC : Hid (∀ w', Same w w' → w'.cell? ⟨g, o + 4, none⟩ = some (.int .u8 (x4 : Nat)) ∧ w'.cell? ⟨g, o + 5, none⟩ = some (.int .u8 (x5 : Nat)) ∧ w'.cell? ⟨g, o + 6, none⟩ = some (.int .u8 (x6 : Nat)) ∧ w'.cell? ⟨g, o + 7, none⟩ = some (.int .u8 (x7 : Nat))))
    (b4 : x4 < 256) (b5 : x5 < 256) (hor : bits .or .i64 ((x4 : Int) * 256) (x5 : Int) = (n : Int)) (hor8 : bits .or .u8 (x6 : Int) (x7 : Int) = (y : Int))
    (SU : Hid (∀ w', Same w w' → Calls Try.prog 100 #[.slice (some ⟨g, o + 4, none⟩) 1020 1020] w' fun e w'' => e = .returned (.int .u32 (s : Nat)) ∧ w'' = w'))
    (EQ : Hid (∀ w', Same w w' → ∀ a', NatsAt w' .u8 a' (fourOf s) → Calls Try.prog 101 #[.slice (some ⟨g, o, none⟩) 4 1024, .slice a' 4 4] w' fun e w'' => e = .returned (.bool true) ∧ w'' = w'))
    (FO : Hid (∀ w', Calls Try.prog 99 #[.int .u32 (s : Nat)] w' fun e w'' => ∃ g, e = .returned (.slice (some ⟨g, 0, none⟩) 4 4) ∧ NatsAt w'' .u8 (some ⟨g, 0, none⟩) (fourOf s) ∧ w'.heap.size ≤ g ∧ Same w' w''))
    (h16 : n = 1016) (hy0 : y = 0) (r : List Nat × Nat) (HR1 : Hid ((∀ x ∈ b.drop (8 + n), x = 0) → r = ((b.drop 8).take n, 0))) :
    Calls Try.prog 72 #[.slice (some ⟨g, o, none⟩) 1024 1024, .int .i64 1024] w fun e w' => Told w w' e r := by
  have KN := Lib.hid (Kept.refl (fun _ => False) w)
  subst hy0
  have g17 : ¬ (1016 : Int) < (n : Int) := by omega
  have gd : decide ((1016 : Int) < (n : Int)) = false := decide_eq_false g17
  have CL : Hid (∀ w', Same w w' → Calls Try.prog 102 #[.slice (some ⟨g, o + 8, none⟩) n 1016] w' fun e w'' => ∃ v, e = .returned v ∧ OwnN w'' w'.heap.size 5 .u8 v ((b.drop 8).take n) ∧ Same w' w'') := by
    intro w' k
    have hl : ((b.drop 8).take n).length = n := by rw [List.length_take, List.length_drop, HL.out]; omega
    have := by_clone (some ⟨g, o + 8, none⟩) 1016 ((b.drop 8).take n) w' (((AT.out.same k).drop 8).take n) (by rw [hl]; omega) (fun h => by cases h)
    rw [hl] at this
    exact this
  go_enter Try.func72, Try.ntmps72
  go_wp2_with fail
  go_region_held3 (fun _ => True) (exact trivial)
    (first
      | (go_at_call 100; refine (SU.out _ (by first | exact KN.out | exact KN.out.drew)).mono ?_; rintro e w' ⟨rfl, rfl⟩)
      | (go_at_call 99; refine (FO.out _).mono ?_; rintro e w4 ⟨g4, rfl, n4, -, k4⟩; have N4 := Lib.hid n4; have KN' := Lib.hid (show Same w w4 from Kept.trans (by first | exact KN.out | exact KN.out.drew) k4); clear KN n4 k4; have KN := KN'; clear KN')
      | (go_at_call 101; refine (EQ.out _ (by first | exact KN.out | exact KN.out.drew) _ (by first | exact N4.out | exact N4.out.same (Kept.refl _ _).drew)).mono ?_; rintro e w' ⟨rfl, rfl⟩))
  have ex4 : IntKind.i64.wrap (x4 : Int) = (x4 : Int) := IntWalk.i64_in _ (by omega)
  have ex5 : IntKind.i64.wrap (x5 : Int) = (x5 : Int) := IntWalk.i64_in _ (by omega)
  have ex6 : IntKind.i64.wrap ((x4 : Int) * 256) = (x4 : Int) * 256 := IntWalk.i64_in _ (by omega)
  have exk : IntKind.i64.wrap 1016 = 1016 := by decide
  have D4 := fun dq os => (AC.out _ (KN.out.trans (Kept.of_below (below_regrown _ dq os)))).1
  have D5 := fun dq os => (AC.out _ (KN.out.trans (Kept.of_below (below_regrown _ dq os)))).2.1
  clear SU EQ FO N4
  go_wp2_with fail
  refine wp_region_quiet_below (by kernel_rfl) (by kernel_rfl) ?_
  repeat (quiet_step (fail))
  refine wpQuiet_nil ?_
  intro _ hw'
  obtain ⟨⟨dq, osq⟩, hw''⟩ := hw'
  subst hw''
  have kq := Lib.hid (show Same w' _ from Kept.of_below (below_regrown w' dq osq))
  have K8 := Lib.hid (KN.out.trans kq.out)
  clear kq KN D4 D5
  generalize hW8 : grow (redrawn w' dq) osq = w8 at *
  clear hW8
  have D6 := fun dq os => (AC.out _ (K8.out.trans (Kept.of_below (below_regrown _ dq os)))).2.2.1
  have D7 := fun dq os => (AC.out _ (K8.out.trans (Kept.of_below (below_regrown _ dq os)))).2.2.2
  go_wp2_with fail
  refine wp_region_quiet_below (by kernel_rfl) (by kernel_rfl) ?_
  repeat (quiet_step (fail))
  refine wpQuiet_nil ?_
  intro _ hw'
  obtain ⟨⟨dq, osq⟩, hw''⟩ := hw'
  subst hw''
  have kq := Lib.hid (show Same w8 _ from Kept.of_below (below_regrown w8 dq osq))
  have K9 := Lib.hid (K8.out.trans kq.out)
  clear kq K8 D6 D7
  generalize hW9 : grow (redrawn w8 dq) osq = w9 at *
  clear hW9
  clear gd g17
  subst h16
  go_wp2_with fail
  have g1016 : ((1016 : Nat) : Int) = 1016 := rfl
  go_loop [59] (fun t => t = .int .i64 0) (fun _ => 0)
  case atStart => rfl
  case round =>
      obtain rfl := hrel
      have hr : r = ((b.drop 8).take 1016, 0) := HR1.out (by intro x hx; rw [List.drop_eq_nil_of_le (by rw [HL.out]; omega)] at hx; cases hx)
      have HRR := Lib.hid hr
      have HLN : Hid (((b.drop 8).take 1016).length = 1016) := by show _ = _; rw [List.length_take, List.length_drop, HL.out]; rfl
      clear hr
      go_wp2_with fail
      refine (CL.out _ K9.out).mono ?_
      rintro e w7 ⟨v, rfl, ho, k7⟩
      obtain ⟨a7, l7, cap7, rfl, hl7, hnil7, hat7, -⟩ := ho.rd
      have K7 := Lib.hid (K9.out.trans k7)
      have hl := hl7.out
      rw [HLN.out] at hl
      have HL7 := Lib.hid hl
      clear ho k7 hl
      go_wp2_with fail
      go_ret2
      rw [HRR.out]
      exact ⟨a7, cap7, by rw [HLN.out, ← HL7.out]; rfl, hat7.out, fun h => by have := HL7.out; subst h; exact (by have h0 := hat7.out; rcases h0 with q | ⟨_, _, q, _⟩; exact q; cases q), K7.out⟩
set_option maxRecDepth 100000 in
/-- Open, at a block's size. -/
theorem cr_open (g o : Nat) (b : List Nat) (hl : b.length = 1024) (hb : Bts b) (w : World) (hat : NatsAt w .u8 (some ⟨g, o, none⟩) b) :
    Calls Try.prog 72 #[.slice (some ⟨g, o, none⟩) 1024 1024, .int .i64 1024] w fun e w' => Told w w' e (openP b) := by
  have HL := Lib.hid hl; have HB := Lib.hid hb; have AT := Lib.hid hat
  have SU := Lib.hid fun w' (k : Same w w') => cr_of (some ⟨g, o + 4, none⟩) 1020 1020 (b.drop 4) (by rw [List.length_drop, hl]) (hb.drop 4) w' ((hat.drop 4).same k) (by omega)
  have hS := crcOf_lt (b.drop 4) (hb.drop 4)
  obtain ⟨s, hs⟩ : ∃ s, crcOf (b.drop 4) = s := ⟨_, rfl⟩
  rw [hs] at SU hS
  have EQ := Lib.hid fun w' (k : Same w w') a' (n' : NatsAt w' .u8 a' (fourOf s)) => by_equal (some ⟨g, o, none⟩) a' 4 4 1024 4 (b.take 4) (fourOf s) w' (by rw [List.length_take, hl]; rfl) rfl (hb.take 4) (fourOf_bts hS) ((hat.take 4).same k) n'
  have FO := Lib.hid fun w' => cr_four s hS w'
  have hop : openP b = if b.take 4 = fourOf s then (if 256 * b.getD 4 0 + b.getD 5 0 ≤ 1016 then (if formOK b then ((b.drop 8).take (256 * b.getD 4 0 + b.getD 5 0), 0) else ([], 4)) else ([], 4)) else ([], 10) := by unfold openP; rw [hs]
  have AC : Hid (∀ w', Same w w' → w'.cell? ⟨g, o + 4, none⟩ = some (.int .u8 (b.getD 4 0 : Nat)) ∧ w'.cell? ⟨g, o + 5, none⟩ = some (.int .u8 (b.getD 5 0 : Nat)) ∧ w'.cell? ⟨g, o + 6, none⟩ = some (.int .u8 (b.getD 6 0 : Nat)) ∧ w'.cell? ⟨g, o + 7, none⟩ = some (.int .u8 (b.getD 7 0 : Nat))) :=
    fun w' k => ⟨nats_get (hat.same k) (by omega), nats_get (hat.same k) (by omega), nats_get (hat.same k) (by omega), nats_get (hat.same k) (by omega)⟩
  have b4 := getD_bts HB.out 4
  have b5 := getD_bts HB.out 5
  have b6 := getD_bts HB.out 6
  have b7 := getD_bts HB.out 7
  have hF : formOK b ↔ b.getD 6 0 = 0 ∧ b.getD 7 0 = 0 ∧ ∀ x ∈ b.drop (8 + (256 * b.getD 4 0 + b.getD 5 0)), x = 0 := Iff.rfl
  obtain ⟨x4, h4⟩ : ∃ x, b.getD 4 0 = x := ⟨_, rfl⟩
  obtain ⟨x5, h5⟩ : ∃ x, b.getD 5 0 = x := ⟨_, rfl⟩
  obtain ⟨x6, h6⟩ : ∃ x, b.getD 6 0 = x := ⟨_, rfl⟩
  obtain ⟨x7, h7⟩ : ∃ x, b.getD 7 0 = x := ⟨_, rfl⟩
  rw [h4, h5] at hop
  rw [h4, h5, h6, h7] at hF
  rw [h4] at b4 AC
  rw [h5] at b5 AC
  rw [h6] at b6 AC
  rw [h7] at b7 AC
  have hor := bits_or64 x4 x5 b4 b5
  have hor8 := bits_or8 x6 x7 b6 b7
  have hy8 := @or_zero x6 x7
  have hn16 : 256 * x4 + x5 < 65536 := by omega
  obtain ⟨n, hn⟩ : ∃ n, 256 * x4 + x5 = n := ⟨_, rfl⟩
  obtain ⟨y, hy⟩ : ∃ y, x6 ||| x7 = y := ⟨_, rfl⟩
  rw [hn] at hor hF hn16 hop
  rw [hy] at hor8 hy8
  have HF := Lib.hid hF
  have HY := Lib.hid hy8
  have HYY := Lib.hid hy
  clear h4 h5 h6 h7 hn hy hF hy8
  by_cases hq : b.take 4 = fourOf s
  · rw [if_pos hq] at hop
    rw [decide_eq_true hq] at EQ
    by_cases h16 : n ≤ 1016
    · rw [if_pos h16] at hop
      by_cases hy0 : y = 0
      · have h67 := HY.out hy0
        have hff : formOK b ↔ ∀ x ∈ b.drop (8 + n), x = 0 := HF.out.trans ⟨fun q => q.2.2, fun q => ⟨h67.1, h67.2, q⟩⟩
        have hr1 : (∀ x ∈ b.drop (8 + n), x = 0) → openP b = ((b.drop 8).take n, 0) := fun h => by rw [hop, if_pos (hff.2 h)]
        have hr2 : (∃ x ∈ b.drop (8 + n), x ≠ 0) → openP b = ([], 4) := fun ⟨x, hx, h⟩ => by rw [hop, if_neg (fun q => h (hff.1 q x hx))]
        by_cases hn16b : n = 1016
        · exact open_full g o b w HL AT s x4 x5 x6 x7 n y AC b4 b5 hor hor8 SU EQ FO hn16b hy0 _ hr1
        · exact open_good g o b w HL AT s x4 x5 x6 x7 n y AC b4 b5 hor hor8 SU EQ FO (by omega) hy0 _ hr1 hr2
      · have hfn : ¬ formOK b := fun q => hy0 (by have := HF.out.1 q; rw [← HYY.out, this.1, this.2.1]; rfl)
        rw [hop, if_neg hfn]
        exact open_bad g o b w HL AT s x4 x5 x6 x7 n y AC b4 b5 hor hor8 SU EQ FO h16 hy0
    · rw [hop, if_neg h16]
      exact open_big g o b w HL AT s x4 x5 x6 x7 n y AC b4 b5 hor hor8 SU EQ FO (by omega)
  · rw [if_neg hq] at hop
    rw [decide_eq_false hq] at EQ
    rw [hop]
    exact open_sum g o b w HL AT s x4 x5 x6 x7 n y AC b4 b5 hor hor8 SU EQ FO
end Go.Proofs.Ytlmpkonfclnceaa
