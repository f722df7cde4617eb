/- Cw1: ConsoleWords, whatever the input. -/
import Derived.Test.YtnjmdldhgconmaaGreatDoorAw27
import Derived.Test.YtnjmdldhgconmaaGreatDoorGCrB
namespace Go.Proofs.YtnjmdldhgconmaaGreatDoor
open Go.RowKit Go.Sort

set_option maxRecDepth 100000 in
set_option maxHeartbeats 6400000 in
theorem words27_any (w : World) (hT : TabOK w) (hM : MaxOK w) (l : Tx) (n : Int) :
    Calls Tryz.prog 3 #[encStr l, .int .i64 n] w fun e w' => e = .returned (.bool true) ∧ Same w w' := by
  have AW := Lib.hid (fun w' (k : Same w w') => aw27 w' (hT.same k) (hM.same k))
  have HM := Lib.hid (fun w' (k : Same w w') => hM.same k)
  have K9 := Lib.hid (Kept.refl (fun _ => False) w)
  clear hT hM
  by_cases h1 : 300 < l.length
  · have h1' : (300 : Int) < (l.length : Int) := by omega
    go_enter Tryz.func3, Tryz.ntmps3
    go_wp2_with fail
    refine (AW.out _ K9.out).mono ?_
    rintro e w9 ⟨rfl, k9⟩
    have K10 := Lib.hid (K9.out.trans k9)
    clear k9
    go_wp2_with fail
    go_ret
    exact ⟨rfl, K10.out⟩
  have h1' : ¬ (300 : Int) < (l.length : Int) := by omega
  by_cases h2 : n < -4611686018427387904
  · go_enter Tryz.func3, Tryz.ntmps3
    go_wp2_with fail
    refine (AW.out _ K9.out).mono ?_
    rintro e w9 ⟨rfl, k9⟩
    have K10 := Lib.hid (K9.out.trans k9)
    clear k9
    go_wp2_with fail
    go_ret
    exact ⟨rfl, K10.out⟩
  by_cases h3 : 4611686018427387904 < n
  · go_enter Tryz.func3, Tryz.ntmps3
    go_wp2_with fail
    refine (AW.out _ K9.out).mono ?_
    rintro e w9 ⟨rfl, k9⟩
    have K10 := Lib.hid (K9.out.trans k9)
    clear k9
    go_wp2_with fail
    go_ret
    exact ⟨rfl, K10.out⟩
  have U1 := Lib.hid (fun w => co_unword l (by omega) w)
  have U2 := Lib.hid (fun w => cr_unword l (by omega) w)
  have P1 := Lib.hid (fun w h => co_parse l (by omega) w h)
  have P2 := Lib.hid (fun w => cr_parse l (by omega) w)
  have W1 := Lib.hid (fun w => co_word l (by omega) w)
  have W2 := Lib.hid (fun w => cr_word l (by omega) w)
  have N1 := Lib.hid (fun w => co_num n (by omega) (by omega) w)
  have N2 := Lib.hid (fun w => cr_num n (by omega) (by omega) w)
  unfold unwordP at U1 U2
  obtain ⟨tx, htx⟩ : ∃ t, (unwordT l).getD [] = t := ⟨_, rfl⟩
  obtain ⟨tk, htk⟩ : ∃ t, (unwordT l).isSome = t := ⟨_, rfl⟩
  obtain ⟨wd, hwd⟩ : ∃ t, wordT l = t := ⟨_, rfl⟩
  obtain ⟨nm, hnm⟩ : ∃ t, numT n = t := ⟨_, rfl⟩
  rw [htx, htk] at U1 U2
  rw [hwd] at W1 W2
  rw [hnm] at N1 N2
  clear htx htk hwd hnm
  go_enter Tryz.func3, Tryz.ntmps3
  go_wp2_with fail
  refine (U1.out _).mono ?_
  rintro e w1 ⟨rfl, k1⟩
  have K1 := Lib.hid k1
  clear k1
  go_wp2_with fail
  refine (U2.out _).mono ?_
  rintro e w2 ⟨rfl, k2⟩
  have K2 := Lib.hid (K1.out.trans k2)
  clear k2
  go_wp2_with fail
  refine (P1.out _ (HM.out _ K2.out)).mono ?_
  rintro e w3 ⟨v, rfl, ⟨sv, rfl, hsv⟩, k3⟩
  obtain ⟨xa, xc, rfl, hxn⟩ := hsv.toNats
  have K3 := Lib.hid (K2.out.trans k3)
  clear k3 hsv
  obtain ⟨q, hq⟩ : ∃ q, (parseT l).getD (stp0 0) = q := ⟨_, rfl⟩
  obtain ⟨ok, hok⟩ : ∃ ok, (parseT l).isSome = ok := ⟨_, rfl⟩
  rw [hq] at hxn
  rw [hq, hok]
  go_upto_region 6 with fail
  obtain ⟨z, hz⟩ : ∃ z, w3.heap.size = z := ⟨_, rfl⟩
  refine cutC (fun wn => Blk wn z #[.int .u8 (q.k : Nat), .int .i64 q.txn, encStr q.key, encStr q.val, .int .i64 q.n, .bool q.d, .slice xa q.f.length xc] 27 ∧ Same w wn ∧ NatsAt wn .u8 xa (natsU q.f)) ⟨Blk.new' _ _ _ hz.symm, K3.out.alloc _, hxn.same ((Kept.refl _ _).alloc _)⟩ ?_
  rintro w4 ⟨bz, k4, hx4⟩
  rw [hz]
  have BZ := Lib.hid bz; have K4 := Lib.hid k4; have X4 := Lib.hid hx4
  clear bz k4 hx4 hz hxn K3
  go_wp2_with fail
  refine (P2.out _).mono ?_
  rintro e w5 ⟨v, rfl, ⟨sv, rfl, ⟨ya, yc, rfl, hyn, -⟩⟩, k5⟩
  have K5 := Lib.hid (K4.out.trans k5)
  have BZ5 := Lib.hid (BZ.out.kept k5 (fun h => h))
  have X5 := Lib.hid (X4.out.same k5)
  clear k5
  rw [hq] at hyn
  rw [hq, hok]
  clear hq hok
  go_upto_region 7 with fail
  obtain ⟨y, hy⟩ : ∃ y, w5.heap.size = y := ⟨_, rfl⟩
  refine cutC (fun wn => Blk wn y #[.int .u8 (q.k : Nat), .int .i64 q.txn, encStr q.key, encStr q.val, .int .i64 q.n, .bool q.d, .slice ya q.f.length yc] 30 ∧ Blk wn z #[.int .u8 (q.k : Nat), .int .i64 q.txn, encStr q.key, encStr q.val, .int .i64 q.n, .bool q.d, .slice xa q.f.length xc] 27 ∧ Same w wn ∧ NatsAt wn .u8 xa (natsU q.f) ∧ NatsAt wn .u8 ya (natsU q.f)) ⟨Blk.new' _ _ _ hy.symm, BZ5.out.alloc _, K5.out.alloc _, X5.out.same ((Kept.refl _ _).alloc _), hyn.same ((Kept.refl _ _).alloc _)⟩ ?_
  rintro w6 ⟨by6, bz6, k6, hx6, hy6⟩
  rw [hy]
  have BY6 := Lib.hid by6; have BZ6 := Lib.hid bz6; have K6 := Lib.hid k6; have X6 := Lib.hid hx6; have Y6 := Lib.hid hy6
  clear by6 bz6 k6 hx6 hy6 hy hyn K5 BZ5 X5 BZ K4 X4 P1 P2 U1 U2 K1 K2 K9 HM
  go_wp2_with fail
  refine (W1.out _).mono ?_
  rintro e w7 ⟨rfl, k7⟩
  have H7 := Lib.hid k7
  clear k7
  go_wp2_with fail
  refine (W2.out _).mono ?_
  rintro e w8 ⟨rfl, k8⟩
  have k68 := H7.out.trans k8
  have K8 := Lib.hid (K6.out.trans k68)
  have BY8 := Lib.hid (BY6.out.kept k68 (fun h => h)); have BZ8 := Lib.hid (BZ6.out.kept k68 (fun h => h))
  have SA := Lib.hid (cr_same q q xa ya xc yc w8 (X6.out.same k68) (Y6.out.same k68))
  rw [show decide (q = q) = true by simp] at SA
  clear k68 k8 H7 BY6 BZ6 X6 Y6 W1 W2 K6
  have p0 := cell_blk BZ8.out 0
  have p1 := cell_blk BZ8.out 1
  have p2 := cell_blk BZ8.out 2
  have p3 := cell_blk BZ8.out 3
  have p4 := cell_blk BZ8.out 4
  have p5 := cell_blk BZ8.out 5
  have p6 := cell_blk BZ8.out 6
  have q0 := cell_blk BY8.out 0
  have q1 := cell_blk BY8.out 1
  have q2 := cell_blk BY8.out 2
  have q3 := cell_blk BY8.out 3
  have q4 := cell_blk BY8.out 4
  have q5 := cell_blk BY8.out 5
  have q6 := cell_blk BY8.out 6
  go_wp2_with fail
  refine SA.out.mono ?_
  rintro e w9 ⟨rfl, k9⟩
  have K9 := Lib.hid (K8.out.trans k9)
  clear k9 SA K8
  go_wp2_with fail
  refine (N1.out _).mono ?_
  rintro e w10 ⟨rfl, rfl⟩
  go_wp2_with fail
  refine (N2.out _).mono ?_
  rintro e w10 ⟨rfl, rfl⟩
  go_wp2_with fail
  refine (AW.out _ K9.out).mono ?_
  rintro e w9 ⟨rfl, k9⟩
  have K10 := Lib.hid (K9.out.trans k9)
  clear k9
  go_wp2_with fail
  go_ret
  exact ⟨rfl, K10.out⟩
end Go.Proofs.YtnjmdldhgconmaaGreatDoor
