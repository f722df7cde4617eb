/- What every right program answers of five numbers: contracts at these values, and the walk. -/
import Derived.Test.YtmolmamfmboeoaaDoorBm14
import Derived.Test.YtmolmamfmboeoaaDoorBm10
import Derived.Test.YtmolmamfmboeoaaDoorBm7
import Derived.Test.YtmolmamfmboeoaaDoorBm4
import Derived.Test.YtmolmamfmboeoaaDoorBm5
namespace Go.Proofs.YtmolmamfmboeoaaDoor
open Go.RowKit

theorem words1 (x : Nat) (h : x < 18446744073709551616) : Words [x] := by intro y hy; simp at hy; subst hy; exact h

theorem aw_new (w : World) : Calls Tryd.prog 18 #[.int .i64 5] w fun e w' => ∃ g, e = .returned (.tuple #[mapV 5 (some ⟨g, 0, none⟩) 1 1, .int .i64 0]) ∧ NatsAt w' .u64 (some ⟨g, 0, none⟩) [0] ∧ Same w w' := by
  refine (bm_new_ok 5 w (by omega)).mono ?_
  rintro e w' ⟨g, rfl, ho, k⟩
  exact ⟨g, rfl, ho.nats, k⟩
theorem aw_set1 (g c : Nat) (w : World) (h : NatsAt w .u64 (some ⟨g, 0, none⟩) [0]) : Calls Tryd.prog 11 #[mapV 5 (some ⟨g, 0, none⟩) 1 c, .int .i64 2, .bool true] w fun e w' => ∃ g' c', e = .returned (mapV 5 (some ⟨g', 0, none⟩) 1 c') ∧ NatsAt w' .u64 (some ⟨g', 0, none⟩) [4] ∧ Same w w' := by
  refine (bm_set 5 g 0 c [0] 2 true w (words1 0 (by decide)) (by simp) h).mono ?_
  rintro e w' ⟨g', c', rfl, ho, k⟩
  rw [show setN 5 [0] 2 true = [4] from by decide] at ho
  exact ⟨g', c', rfl, ho.nats, k⟩
theorem aw_set2 (g c : Nat) (w : World) (h : NatsAt w .u64 (some ⟨g, 0, none⟩) [4]) : Calls Tryd.prog 11 #[mapV 5 (some ⟨g, 0, none⟩) 1 c, .int .i64 3, .bool true] w fun e w' => ∃ g' c', e = .returned (mapV 5 (some ⟨g', 0, none⟩) 1 c') ∧ 1 ≤ c' ∧ NatsAt w' .u64 (some ⟨g', 0, none⟩) [12] ∧ Same w w' := by
  refine (bm_set 5 g 0 c [4] 3 true w (words1 4 (by decide)) (by simp) h).mono ?_
  rintro e w' ⟨g', c', rfl, ho, k⟩
  rw [show setN 5 [4] 3 true = [12] from by decide] at ho
  exact ⟨g', c', rfl, ho.len.2.1, ho.nats, k⟩
theorem ok12 : mapOK 5 [12] = true := by decide
theorem ok0 : mapOK 5 [0] = true := by decide
theorem put12 : putMap 5 [12] = [1, 5, 1, 2, 1, 2, 1, 1] := by decide
theorem wd12 : Words [12] := words1 12 (by decide)
theorem wd0 : Words [0] := words1 0 (by decide)
theorem aw_put (a : Option Addr) (c : Nat) (w : World) (hT : TabOK w) (h : NatsAt w .u64 a [12]) : Calls Tryd.prog 31 #[mapV 5 a 1 c] w fun e w' => ∃ g c', e = .returned (.tuple #[.slice (some ⟨g, 0, none⟩) 8 c', .int .i64 0]) ∧ NatsAt w' .u8 (some ⟨g, 0, none⟩) [1, 5, 1, 2, 1, 2, 1, 1] ∧ Same w w' := by
  refine (bm_put 5 a c [12] w wd12 hT h).mono ?_
  rintro e w' ⟨v, rfl, ho, k⟩
  rw [ok12, if_pos rfl, show (5 : Int).toNat = 5 from rfl, put12] at ho
  rcases ho.2 with ⟨rfl, h0⟩ | ⟨g, cap, cur, rfl, _⟩
  · simp at h0
  · exact ⟨g, cap, rfl, ho.nats, k⟩
theorem aw_get (g c : Nat) (w : World) (hT : TabOK w) (h : NatsAt w .u8 (some ⟨g, 0, none⟩) [1, 5, 1, 2, 1, 2, 1, 1]) : Calls Tryd.prog 33 #[.slice (some ⟨g, 0, none⟩) 8 c] w fun e w' => ∃ v c', e = .returned (.tuple #[mapV 5 v 1 c', .int .i64 0]) ∧ NatsAt w' .u64 v [12] ∧ Same w w' := by
  refine (bm_get _ 8 c _ w rfl (by intro x hx; simp at hx; omega) (by simp) h (fun h => by cases h) hT).mono ?_
  rintro e w' ⟨r, hr, k, hm⟩
  have : r = some (5, [12]) := get_one hr ⟨ok12, wd12, put12⟩
  subst this
  obtain ⟨v, c', rfl, h1, _⟩ := hm
  exact ⟨v, c', rfl, h1, k⟩
theorem aw_sel (a : Option Addr) (c : Nat) (w : World) (hT : TabOK w) (h : NatsAt w .u64 a [12]) : Calls Tryd.prog 22 #[mapV 5 a 1 c, .int .i64 1] w fun e w' => e = .returned (.tuple #[.int .i64 3, .bool true]) ∧ Same w w' := by
  refine (bm_select 5 a c [12] 1 w wd12 (by omega) hT h).mono ?_
  rintro e w' ⟨r, rfl, hr, k⟩
  have : r = some 3 := sel_one hr ⟨ok12, by decide, by decide, by decide⟩
  subst this
  exact ⟨rfl, k⟩
theorem aw_next (a : Option Addr) (c : Nat) (w : World) (hT : TabOK w) (h : NatsAt w .u64 a [12]) : Calls Tryd.prog 20 #[mapV 5 a 1 c, .int .i64 2, .bool false] w fun e w' => e = .returned (.tuple #[.int .i64 4, .bool true]) ∧ Same w w' := by
  refine (bm_next 5 a c [12] 2 false w wd12 hT h).mono ?_
  rintro e w' ⟨r, rfl, hr, k⟩
  have : r = some 4 := next_one hr ⟨ok12, by decide, by decide, by decide, fun j h1 h2 => by
    have : j = 2 ∨ j = 3 := by omega
    rcases this with rfl | rfl <;> decide⟩
  subst this
  exact ⟨rfl, k⟩
theorem aw_same1 (a b : Option Addr) (c d : Nat) (w : World) (h : NatsAt w .u64 a [12]) (h' : NatsAt w .u64 b [12]) : Calls Tryd.prog 30 #[mapV 5 a 1 c, mapV 5 b 1 d] w fun e w' => e = .returned (.bool true) ∧ Same w w' := by
  refine (bm_same 5 5 a b c d [12] [12] w (by decide) h h').mono ?_
  rintro e w' ⟨rfl, k⟩
  exact ⟨rfl, k⟩
theorem aw_same2 (a b : Option Addr) (c d : Nat) (w : World) (h : NatsAt w .u64 a [0]) (h' : NatsAt w .u64 b [12]) : Calls Tryd.prog 30 #[mapV 5 a 1 c, mapV 5 b 1 d] w fun e w' => e = .returned (.bool false) ∧ Same w w' := by
  refine (bm_same 5 5 a b c d [0] [12] w (by decide) h h').mono ?_
  rintro e w' ⟨rfl, k⟩
  exact ⟨rfl, k⟩
theorem aw_rank (xs : List Nat) (n : Int) (r : Int) (a : Option Addr) (c : Nat) (w : World) (hw : Words xs) (hl : xs.length = 1) (hr : ((rankN 5 xs n : Nat) : Int) = r) (hc : 1 ≤ c) (h : NatsAt w .u64 a xs) : Calls Tryd.prog 24 #[mapV 5 a 1 c, .int .i64 n] w fun e w' => e = .returned (.int .i64 r) ∧ Same w w' := by
  rw [← hl] at hc ⊢
  refine (bm_rank 5 a c xs n w hw hc h).mono ?_
  rintro e w' ⟨rfl, k⟩
  exact ⟨ret_int hr, k⟩
theorem aw_has (n : Int) (r : Bool) (a : Option Addr) (c : Nat) (w : World) (hr : hasB 5 [12] n = r) (h : NatsAt w .u64 a [12]) : Calls Tryd.prog 14 #[mapV 5 a 1 c, .int .i64 n] w fun e w' => e = .returned (.bool r) ∧ Same w w' := by
  refine (bm_has 5 a c [12] n w wd12 h).mono ?_
  rintro e w' ⟨rfl, k⟩
  exact ⟨ret_bool hr, k⟩
theorem aw_both (a b : Option Addr) (c d : Nat) (w : World) (h : NatsAt w .u64 a [0]) (h' : NatsAt w .u64 b [12]) : Calls Tryd.prog 26 #[mapV 5 a 1 c, mapV 5 b 1 d] w fun e w' => ∃ v c', e = .returned (mapV 5 v 1 c') ∧ 1 ≤ c' ∧ NatsAt w' .u64 v [0] ∧ Same w w' := by
  refine (bm_both 5 5 a b c d [0] [12] w wd0 wd12 h h').mono ?_
  rintro e w' ⟨v, c', rfl, ho, k⟩
  obtain ⟨a', c'', e1, _, _, _, hat, _⟩ := ho.read
  simp only [Value.slice.injEq] at e1
  obtain ⟨rfl, _, _⟩ := e1
  exact ⟨_, c', rfl, ho.len.2.1, hat, k⟩
theorem aw_either (a b : Option Addr) (c d : Nat) (w : World) (h : NatsAt w .u64 a [0]) (h' : NatsAt w .u64 b [12]) : Calls Tryd.prog 28 #[mapV 5 a 1 c, mapV 5 b 1 d] w fun e w' => ∃ v c', e = .returned (mapV 5 v 1 c') ∧ 1 ≤ c' ∧ NatsAt w' .u64 v [12] ∧ Same w w' := by
  refine (bm_either 5 5 a b c d [0] [12] w wd0 wd12 h h').mono ?_
  rintro e w' ⟨v, c', rfl, ho, k⟩
  obtain ⟨a', c'', e1, _, _, _, hat, _⟩ := ho.read
  simp only [Value.slice.injEq] at e1
  obtain ⟨rfl, _, _⟩ := e1
  exact ⟨_, c', rfl, ho.len.2.1, hat, k⟩
theorem aw_check (a : Option Addr) (c : Nat) (w : World) (h : NatsAt w .u64 a [12]) : Calls Tryd.prog 16 #[mapV 5 a 1 c] w fun e w' => e = .returned (.int .i64 0) ∧ Same w w' := by
  refine (bm_check 5 a c [12] w h).mono ?_
  rintro e w' ⟨rfl, k⟩
  exact ⟨rfl, k⟩

set_option maxRecDepth 100000 in
set_option maxHeartbeats 1000000 in
theorem awake_true (w : World) (hT : TabOK w) : Calls Tryd.prog 10 #[] w fun e w' => e = .returned (.bool true) ∧ Same w w' := by
  have GT : Hid (∀ w', Same w w' → TabOK w') := fun w' k => hT.same k
  clear hT
  have K := Lib.hid (Kept.refl (fun _ => False) w)
  have F : Hid (Fr w []) := trivial
  go_enter Tryd.func10, Tryd.ntmps10
  go_wp2_with fail
  refine (aw_new _).mono ?_
  rintro e w2 ⟨g1, rfl, v1, k⟩
  have V1 := Lib.hid v1
  have K' := Lib.hid (K.out.trans k); have F' := Lib.hid (F.out.same k); clear K F k v1; have K := K'; have F := F'; clear K' F'
  go_wp2_with fail
  have F' := Lib.hid (show Fr (w2.alloc (.cells #[.int .i64 5, .slice (some ⟨g1, 0, none⟩) 1 1] 27)) ((w2.heap.size, #[.int .i64 5, .slice (some ⟨g1, 0, none⟩) 1 1], 27) :: []) from ⟨Blk.new w2 _ _, F.out.same ((Kept.refl _ w2).alloc _)⟩)
  have K' := Lib.hid (K.out.alloc (.cells #[.int .i64 5, .slice (some ⟨g1, 0, none⟩) 1 1] 27))
  have KN := (Kept.refl (fun _ => False) w2).alloc (.cells #[.int .i64 5, .slice (some ⟨g1, 0, none⟩) 1 1] 27)
  (try (have V1' := Lib.hid (V1.out.same KN); clear V1; have V1 := V1'; clear V1'))
  (try (have V2' := Lib.hid (V2.out.same KN); clear V2; have V2 := V2'; clear V2'))
  (try (have V3' := Lib.hid (V3.out.same KN); clear V3; have V3 := V3'; clear V3'))
  (try (have V4' := Lib.hid (V4.out.same KN); clear V4; have V4 := V4'; clear V4'))
  clear F K KN; have F := F'; have K := K'; clear F' K'
  generalize w2.alloc (.cells #[.int .i64 5, .slice (some ⟨g1, 0, none⟩) 1 1] 27) = w3 at *
  obtain ⟨p0, f0, -⟩ := F.out.rules; have z0 := F.out.1.lt
  refine (aw_set1 _ _ _ V1.out).mono ?_
  rintro e w4 ⟨g2, c2, rfl, v2, k⟩
  (try (have V1' := Lib.hid (V1.out.same k); clear V1; have V1 := V1'; clear V1'))
  (try (have V2' := Lib.hid (V2.out.same k); clear V2; have V2 := V2'; clear V2'))
  (try (have V3' := Lib.hid (V3.out.same k); clear V3; have V3 := V3'; clear V3'))
  (try (have V4' := Lib.hid (V4.out.same k); clear V4; have V4 := V4'; clear V4'))
  have V2 := Lib.hid v2; clear v2
  have K' := Lib.hid (K.out.trans k); have F' := Lib.hid (F.out.same k); clear K F p0 f0 z0 k; have K := K'; have F := F'; clear K' F'; obtain ⟨p0, f0, -⟩ := F.out.rules; have z0 := F.out.1.lt
  go_wp2_with fail
  refine (aw_set2 _ _ _ V2.out).mono ?_
  rintro e w5 ⟨g3, c3, rfl, hc3, v2, k⟩
  clear V2
  (try (have V1' := Lib.hid (V1.out.same k); clear V1; have V1 := V1'; clear V1'))
  (try (have V2' := Lib.hid (V2.out.same k); clear V2; have V2 := V2'; clear V2'))
  (try (have V3' := Lib.hid (V3.out.same k); clear V3; have V3 := V3'; clear V3'))
  (try (have V4' := Lib.hid (V4.out.same k); clear V4; have V4 := V4'; clear V4'))
  have V2 := Lib.hid v2; clear v2
  have K' := Lib.hid (K.out.trans k); have F' := Lib.hid (F.out.same k); clear K F p0 f0 z0 k; have K := K'; have F := F'; clear K' F'; obtain ⟨p0, f0, -⟩ := F.out.rules; have z0 := F.out.1.lt
  go_wp2_with fail
  clear p0 f0 z0
  have F' := Lib.hid (show Fr (w5.alloc (.cells #[.int .i64 5, .slice (some ⟨g3, 0, none⟩) 1 c3] 27)) ((w5.heap.size, #[.int .i64 5, .slice (some ⟨g3, 0, none⟩) 1 c3], 27) :: [(w2.heap.size, #[.int .i64 5, .slice (some ⟨g1, 0, none⟩) 1 1], 27)]) from ⟨Blk.new w5 _ _, F.out.same ((Kept.refl _ w5).alloc _)⟩)
  have K' := Lib.hid (K.out.alloc (.cells #[.int .i64 5, .slice (some ⟨g3, 0, none⟩) 1 c3] 27))
  have KN := (Kept.refl (fun _ => False) w5).alloc (.cells #[.int .i64 5, .slice (some ⟨g3, 0, none⟩) 1 c3] 27)
  (try (have V1' := Lib.hid (V1.out.same KN); clear V1; have V1 := V1'; clear V1'))
  (try (have V2' := Lib.hid (V2.out.same KN); clear V2; have V2 := V2'; clear V2'))
  (try (have V3' := Lib.hid (V3.out.same KN); clear V3; have V3 := V3'; clear V3'))
  (try (have V4' := Lib.hid (V4.out.same KN); clear V4; have V4 := V4'; clear V4'))
  clear F K KN; have F := F'; have K := K'; clear F' K'
  generalize w5.alloc (.cells #[.int .i64 5, .slice (some ⟨g3, 0, none⟩) 1 c3] 27) = w6 at *
  obtain ⟨p0, f0, p1, f1, -⟩ := F.out.rules; have z0 := F.out.1.lt; have z1 := F.out.2.1.lt
  refine (aw_put _ _ _ (GT.out _ K.out) V2.out).mono ?_
  rintro e w7 ⟨g4, c4, rfl, v3, k⟩
  (try (have V1' := Lib.hid (V1.out.same k); clear V1; have V1 := V1'; clear V1'))
  (try (have V2' := Lib.hid (V2.out.same k); clear V2; have V2 := V2'; clear V2'))
  (try (have V3' := Lib.hid (V3.out.same k); clear V3; have V3 := V3'; clear V3'))
  (try (have V4' := Lib.hid (V4.out.same k); clear V4; have V4 := V4'; clear V4'))
  have V3 := Lib.hid v3; clear v3
  have K' := Lib.hid (K.out.trans k); have F' := Lib.hid (F.out.same k); clear K F p0 f0 z0 p1 f1 z1 k; have K := K'; have F := F'; clear K' F'; obtain ⟨p0, f0, p1, f1, -⟩ := F.out.rules; have z0 := F.out.1.lt; have z1 := F.out.2.1.lt
  go_wp2_with fail
  refine (aw_get _ _ _ (GT.out _ K.out) V3.out).mono ?_
  rintro e w8 ⟨v6, c6, rfl, v4, k⟩
  (try (have V1' := Lib.hid (V1.out.same k); clear V1; have V1 := V1'; clear V1'))
  (try (have V2' := Lib.hid (V2.out.same k); clear V2; have V2 := V2'; clear V2'))
  (try (have V3' := Lib.hid (V3.out.same k); clear V3; have V3 := V3'; clear V3'))
  (try (have V4' := Lib.hid (V4.out.same k); clear V4; have V4 := V4'; clear V4'))
  have V4 := Lib.hid v4; clear v4
  have K' := Lib.hid (K.out.trans k); have F' := Lib.hid (F.out.same k); clear K F p0 f0 z0 p1 f1 z1 k; have K := K'; have F := F'; clear K' F'; obtain ⟨p0, f0, p1, f1, -⟩ := F.out.rules; have z0 := F.out.1.lt; have z1 := F.out.2.1.lt
  go_wp2_with fail
  clear p0 f0 z0 p1 f1 z1
  have F' := Lib.hid (show Fr (w8.alloc (.cells #[.int .i64 5, .slice v6 1 c6] 27)) ((w8.heap.size, #[.int .i64 5, .slice v6 1 c6], 27) :: [(w5.heap.size, #[.int .i64 5, .slice (some ⟨g3, 0, none⟩) 1 c3], 27), (w2.heap.size, #[.int .i64 5, .slice (some ⟨g1, 0, none⟩) 1 1], 27)]) from ⟨Blk.new w8 _ _, F.out.same ((Kept.refl _ w8).alloc _)⟩)
  have K' := Lib.hid (K.out.alloc (.cells #[.int .i64 5, .slice v6 1 c6] 27))
  have KN := (Kept.refl (fun _ => False) w8).alloc (.cells #[.int .i64 5, .slice v6 1 c6] 27)
  (try (have V1' := Lib.hid (V1.out.same KN); clear V1; have V1 := V1'; clear V1'))
  (try (have V2' := Lib.hid (V2.out.same KN); clear V2; have V2 := V2'; clear V2'))
  (try (have V3' := Lib.hid (V3.out.same KN); clear V3; have V3 := V3'; clear V3'))
  (try (have V4' := Lib.hid (V4.out.same KN); clear V4; have V4 := V4'; clear V4'))
  clear F K KN; have F := F'; have K := K'; clear F' K'
  generalize w8.alloc (.cells #[.int .i64 5, .slice v6 1 c6] 27) = w9 at *
  obtain ⟨p0, f0, p1, f1, p2, f2, -⟩ := F.out.rules; have z0 := F.out.1.lt; have z1 := F.out.2.1.lt; have z2 := F.out.2.2.1.lt
  refine (aw_sel _ _ _ (GT.out _ K.out) V2.out).mono ?_
  rintro e w10 ⟨rfl, k⟩
  (try (have V1' := Lib.hid (V1.out.same k); clear V1; have V1 := V1'; clear V1'))
  (try (have V2' := Lib.hid (V2.out.same k); clear V2; have V2 := V2'; clear V2'))
  (try (have V3' := Lib.hid (V3.out.same k); clear V3; have V3 := V3'; clear V3'))
  (try (have V4' := Lib.hid (V4.out.same k); clear V4; have V4 := V4'; clear V4'))
  have K' := Lib.hid (K.out.trans k); have F' := Lib.hid (F.out.same k); clear K F p0 f0 z0 p1 f1 z1 p2 f2 z2 k; have K := K'; have F := F'; clear K' F'; obtain ⟨p0, f0, p1, f1, p2, f2, -⟩ := F.out.rules; have z0 := F.out.1.lt; have z1 := F.out.2.1.lt; have z2 := F.out.2.2.1.lt
  go_wp2_with fail
  refine (aw_next _ _ _ (GT.out _ K.out) V2.out).mono ?_
  rintro e w11 ⟨rfl, k⟩
  (try (have V1' := Lib.hid (V1.out.same k); clear V1; have V1 := V1'; clear V1'))
  (try (have V2' := Lib.hid (V2.out.same k); clear V2; have V2 := V2'; clear V2'))
  (try (have V3' := Lib.hid (V3.out.same k); clear V3; have V3 := V3'; clear V3'))
  (try (have V4' := Lib.hid (V4.out.same k); clear V4; have V4 := V4'; clear V4'))
  have K' := Lib.hid (K.out.trans k); have F' := Lib.hid (F.out.same k); clear K F p0 f0 z0 p1 f1 z1 p2 f2 z2 k; have K := K'; have F := F'; clear K' F'; obtain ⟨p0, f0, p1, f1, p2, f2, -⟩ := F.out.rules; have z0 := F.out.1.lt; have z1 := F.out.2.1.lt; have z2 := F.out.2.2.1.lt
  have hcv := conv_str (some ⟨g4, 0, none⟩) 8 c4 _ w11 rfl V3.out
  have hst : (strN [1, 5, 1, 2, 1, 2, 1, 1]).toList = [1, 5, 1, 2, 1, 2, 1, 1] := by rw [strN_toList]; rfl
  go_wp2_with fail
  refine (aw_same1 _ _ _ _ _ V2.out V4.out).mono ?_
  rintro e wn ⟨rfl, k⟩
  (try (have V1' := Lib.hid (V1.out.same k); clear V1; have V1 := V1'; clear V1'))
  (try (have V2' := Lib.hid (V2.out.same k); clear V2; have V2 := V2'; clear V2'))
  (try (have V3' := Lib.hid (V3.out.same k); clear V3; have V3 := V3'; clear V3'))
  (try (have V4' := Lib.hid (V4.out.same k); clear V4; have V4 := V4'; clear V4'))
  have K' := Lib.hid (K.out.trans k); have F' := Lib.hid (F.out.same k); clear K F p0 f0 z0 p1 f1 z1 p2 f2 z2 k; have K := K'; have F := F'; clear K' F'; obtain ⟨p0, f0, p1, f1, p2, f2, -⟩ := F.out.rules; have z0 := F.out.1.lt; have z1 := F.out.2.1.lt; have z2 := F.out.2.2.1.lt
  go_wp2_with fail
  refine (aw_same2 _ _ _ _ _ V1.out V2.out).mono ?_
  rintro e wn ⟨rfl, k⟩
  (try (have V1' := Lib.hid (V1.out.same k); clear V1; have V1 := V1'; clear V1'))
  (try (have V2' := Lib.hid (V2.out.same k); clear V2; have V2 := V2'; clear V2'))
  (try (have V3' := Lib.hid (V3.out.same k); clear V3; have V3 := V3'; clear V3'))
  (try (have V4' := Lib.hid (V4.out.same k); clear V4; have V4 := V4'; clear V4'))
  have K' := Lib.hid (K.out.trans k); have F' := Lib.hid (F.out.same k); clear K F p0 f0 z0 p1 f1 z1 p2 f2 z2 k; have K := K'; have F := F'; clear K' F'; obtain ⟨p0, f0, p1, f1, p2, f2, -⟩ := F.out.rules; have z0 := F.out.1.lt; have z1 := F.out.2.1.lt; have z2 := F.out.2.2.1.lt
  go_wp2_with fail
  refine (aw_rank [12] 4 2 _ _ _ wd12 rfl (by decide) hc3 V2.out).mono ?_
  rintro e wn ⟨rfl, k⟩
  (try (have V1' := Lib.hid (V1.out.same k); clear V1; have V1 := V1'; clear V1'))
  (try (have V2' := Lib.hid (V2.out.same k); clear V2; have V2 := V2'; clear V2'))
  (try (have V3' := Lib.hid (V3.out.same k); clear V3; have V3 := V3'; clear V3'))
  (try (have V4' := Lib.hid (V4.out.same k); clear V4; have V4 := V4'; clear V4'))
  have K' := Lib.hid (K.out.trans k); have F' := Lib.hid (F.out.same k); clear K F p0 f0 z0 p1 f1 z1 p2 f2 z2 k; have K := K'; have F := F'; clear K' F'; obtain ⟨p0, f0, p1, f1, p2, f2, -⟩ := F.out.rules; have z0 := F.out.1.lt; have z1 := F.out.2.1.lt; have z2 := F.out.2.2.1.lt
  go_wp2_with fail
  refine (aw_has 2 true _ _ _ (by decide) V2.out).mono ?_
  rintro e wn ⟨rfl, k⟩
  (try (have V1' := Lib.hid (V1.out.same k); clear V1; have V1 := V1'; clear V1'))
  (try (have V2' := Lib.hid (V2.out.same k); clear V2; have V2 := V2'; clear V2'))
  (try (have V3' := Lib.hid (V3.out.same k); clear V3; have V3 := V3'; clear V3'))
  (try (have V4' := Lib.hid (V4.out.same k); clear V4; have V4 := V4'; clear V4'))
  have K' := Lib.hid (K.out.trans k); have F' := Lib.hid (F.out.same k); clear K F p0 f0 z0 p1 f1 z1 p2 f2 z2 k; have K := K'; have F := F'; clear K' F'; obtain ⟨p0, f0, p1, f1, p2, f2, -⟩ := F.out.rules; have z0 := F.out.1.lt; have z1 := F.out.2.1.lt; have z2 := F.out.2.2.1.lt
  go_wp2_with fail
  refine (aw_has 1 false _ _ _ (by decide) V2.out).mono ?_
  rintro e wn ⟨rfl, k⟩
  (try (have V1' := Lib.hid (V1.out.same k); clear V1; have V1 := V1'; clear V1'))
  (try (have V2' := Lib.hid (V2.out.same k); clear V2; have V2 := V2'; clear V2'))
  (try (have V3' := Lib.hid (V3.out.same k); clear V3; have V3 := V3'; clear V3'))
  (try (have V4' := Lib.hid (V4.out.same k); clear V4; have V4 := V4'; clear V4'))
  have K' := Lib.hid (K.out.trans k); have F' := Lib.hid (F.out.same k); clear K F p0 f0 z0 p1 f1 z1 p2 f2 z2 k; have K := K'; have F := F'; clear K' F'; obtain ⟨p0, f0, p1, f1, p2, f2, -⟩ := F.out.rules; have z0 := F.out.1.lt; have z1 := F.out.2.1.lt; have z2 := F.out.2.2.1.lt
  go_wp2_with fail
  refine (aw_both _ _ _ _ _ V1.out V2.out).mono ?_
  rintro e w12 ⟨v5, c5, rfl, hc5, v3, k⟩
  clear V3
  (try (have V1' := Lib.hid (V1.out.same k); clear V1; have V1 := V1'; clear V1'))
  (try (have V2' := Lib.hid (V2.out.same k); clear V2; have V2 := V2'; clear V2'))
  (try (have V3' := Lib.hid (V3.out.same k); clear V3; have V3 := V3'; clear V3'))
  (try (have V4' := Lib.hid (V4.out.same k); clear V4; have V4 := V4'; clear V4'))
  have V3 := Lib.hid v3; clear v3
  have K' := Lib.hid (K.out.trans k); have F' := Lib.hid (F.out.same k); clear K F p0 f0 z0 p1 f1 z1 p2 f2 z2 k; have K := K'; have F := F'; clear K' F'; obtain ⟨p0, f0, p1, f1, p2, f2, -⟩ := F.out.rules; have z0 := F.out.1.lt; have z1 := F.out.2.1.lt; have z2 := F.out.2.2.1.lt
  go_wp2_with fail
  refine (aw_rank [0] 5 0 _ _ _ wd0 rfl (by decide) hc5 V3.out).mono ?_
  rintro e wn ⟨rfl, k⟩
  (try (have V1' := Lib.hid (V1.out.same k); clear V1; have V1 := V1'; clear V1'))
  (try (have V2' := Lib.hid (V2.out.same k); clear V2; have V2 := V2'; clear V2'))
  (try (have V3' := Lib.hid (V3.out.same k); clear V3; have V3 := V3'; clear V3'))
  (try (have V4' := Lib.hid (V4.out.same k); clear V4; have V4 := V4'; clear V4'))
  have K' := Lib.hid (K.out.trans k); have F' := Lib.hid (F.out.same k); clear K F p0 f0 z0 p1 f1 z1 p2 f2 z2 k; have K := K'; have F := F'; clear K' F'; obtain ⟨p0, f0, p1, f1, p2, f2, -⟩ := F.out.rules; have z0 := F.out.1.lt; have z1 := F.out.2.1.lt; have z2 := F.out.2.2.1.lt
  go_wp2_with fail
  refine (aw_either _ _ _ _ _ V1.out V2.out).mono ?_
  rintro e w14 ⟨v6, c6, rfl, hc6, v3, k⟩
  clear V3
  (try (have V1' := Lib.hid (V1.out.same k); clear V1; have V1 := V1'; clear V1'))
  (try (have V2' := Lib.hid (V2.out.same k); clear V2; have V2 := V2'; clear V2'))
  (try (have V3' := Lib.hid (V3.out.same k); clear V3; have V3 := V3'; clear V3'))
  (try (have V4' := Lib.hid (V4.out.same k); clear V4; have V4 := V4'; clear V4'))
  have V3 := Lib.hid v3; clear v3
  have K' := Lib.hid (K.out.trans k); have F' := Lib.hid (F.out.same k); clear K F p0 f0 z0 p1 f1 z1 p2 f2 z2 k; have K := K'; have F := F'; clear K' F'; obtain ⟨p0, f0, p1, f1, p2, f2, -⟩ := F.out.rules; have z0 := F.out.1.lt; have z1 := F.out.2.1.lt; have z2 := F.out.2.2.1.lt
  go_wp2_with fail
  refine (aw_rank [12] 5 2 _ _ _ wd12 rfl (by decide) hc6 V3.out).mono ?_
  rintro e wn ⟨rfl, k⟩
  (try (have V1' := Lib.hid (V1.out.same k); clear V1; have V1 := V1'; clear V1'))
  (try (have V2' := Lib.hid (V2.out.same k); clear V2; have V2 := V2'; clear V2'))
  (try (have V3' := Lib.hid (V3.out.same k); clear V3; have V3 := V3'; clear V3'))
  (try (have V4' := Lib.hid (V4.out.same k); clear V4; have V4 := V4'; clear V4'))
  have K' := Lib.hid (K.out.trans k); have F' := Lib.hid (F.out.same k); clear K F p0 f0 z0 p1 f1 z1 p2 f2 z2 k; have K := K'; have F := F'; clear K' F'; obtain ⟨p0, f0, p1, f1, p2, f2, -⟩ := F.out.rules; have z0 := F.out.1.lt; have z1 := F.out.2.1.lt; have z2 := F.out.2.2.1.lt
  go_wp2_with fail
  refine (aw_check _ _ _ V2.out).mono ?_
  rintro e wn ⟨rfl, k⟩
  (try (have V1' := Lib.hid (V1.out.same k); clear V1; have V1 := V1'; clear V1'))
  (try (have V2' := Lib.hid (V2.out.same k); clear V2; have V2 := V2'; clear V2'))
  (try (have V3' := Lib.hid (V3.out.same k); clear V3; have V3 := V3'; clear V3'))
  (try (have V4' := Lib.hid (V4.out.same k); clear V4; have V4 := V4'; clear V4'))
  have K' := Lib.hid (K.out.trans k); have F' := Lib.hid (F.out.same k); clear K F p0 f0 z0 p1 f1 z1 p2 f2 z2 k; have K := K'; have F := F'; clear K' F'; obtain ⟨p0, f0, p1, f1, p2, f2, -⟩ := F.out.rules; have z0 := F.out.1.lt; have z1 := F.out.2.1.lt; have z2 := F.out.2.2.1.lt
  go_wp2_with fail
  go_ret
  exact ⟨rfl, K.out⟩

end Go.Proofs.YtmolmamfmboeoaaDoor
