/- GCw: Cw2, Cw3. -/
import Derived.Test.YtnjmdldhgconmaaGreatDoorCw1
import Derived.Test.YtnjmdldhgconmaaGreatDoorGCs
namespace Go.Proofs.YtnjmdldhgconmaaGreatDoor
open Go.RowKit Go.Sort

set_option maxRecDepth 100000 in
set_option maxHeartbeats 12800000 in
theorem back27_any (w : World) (hT : TabOK w) (hM : MaxOK w) (s : Stp) (h1 : -9223372036854775808 ≤ s.txn) (h2 : s.txn ≤ 9223372036854775807) (h3 : -9223372036854775808 ≤ s.n) (h4 : s.n ≤ 9223372036854775807) (fa : Option Addr) (ca : Nat) (hA : NatsAt w .u8 fa (natsU s.f)) (line text : Tx) :
    Calls Tryz.prog 5 #[.agg #[.int .u8 (s.k : Nat), .int .i64 s.txn, encStr s.key, encStr s.val, .int .i64 s.n, .bool s.d, .slice fa s.f.length ca], encStr line, encStr text] w fun e w' => e = .returned (.bool true) ∧ Same w w' := by
  have AW := Lib.hid (fun w' (k : Same w w') => aw27 w' (hT.same k) (hM.same k))
  have HM := Lib.hid (fun w' (k : Same w w') => hM.same k)
  have LG := Lib.hid (fun w => cr_light s fa ca w)
  have OKS := Lib.hid (fun (h : lightS s = true) => show StpOK s by
    unfold lightS at h
    simp only [Bool.and_eq_true, decide_eq_true_eq] at h
    exact ⟨h1, h2, h3, h4, by omega, by omega, by omega⟩)
  have LC := Lib.hid (fun (ok : StpOK s) w' (k : Same w w') => co_line s ok fa ca w' (hA.same k) (hM.same k))
  have SM := Lib.hid (fun (a : Stp) (aa : Option Addr) (ac : Nat) (w' : World) (k : Same w w') (ha : NatsAt w' .u8 aa (natsU a.f)) => cr_same a s aa fa ac ca w' ha (hA.same k))
  have PL := Lib.hid (fun l (h : lineT s = some l) => parse_line h)
  have LL := Lib.hid (fun (ok : StpOK s) l (h : lineT s = some l) => show l.length ≤ 9000 by
    unfold lineT at h
    split at h
    · cases h; exact (words_len ok).1
    · cases h)
  clear hT hM hA
  obtain ⟨lg, hlg⟩ : ∃ b, lightS s = b := ⟨_, rfl⟩
  rw [hlg] at LG OKS
  clear hlg
  obtain ⟨LV, hLV⟩ : ∃ v, lineT s = v := ⟨_, rfl⟩
  have LC := Lib.hid (fun (ok : StpOK s) w' (k : Same w w') => show Calls Tryz.prog 18 _ w' (fun e w'' => e = .returned (.tuple #[encStr (LV.getD []), .bool LV.isSome]) ∧ Same w' w'') by rw [← hLV]; exact LC.out ok w' k)
  rw [hLV] at PL LL
  clear hLV
  obtain ⟨y, hyy⟩ : ∃ y, w.heap.size = y := ⟨_, rfl⟩
  obtain ⟨S, hS⟩ : ∃ S, s = S := ⟨_, rfl⟩
  have k0 : Same w (w.alloc (.cells #[.int .u8 (s.k : Nat), .int .i64 s.txn, encStr s.key, encStr s.val, .int .i64 s.n, .bool s.d, .slice fa s.f.length ca] 30)) := (Kept.refl _ w).alloc _
  have b0 : Blk (w.alloc (.cells #[.int .u8 (s.k : Nat), .int .i64 s.txn, encStr s.key, encStr s.val, .int .i64 s.n, .bool s.d, .slice fa s.f.length ca] 30)) y #[.int .u8 (s.k : Nat), .int .i64 s.txn, encStr s.key, encStr s.val, .int .i64 s.n, .bool s.d, .slice fa s.f.length ca] 30 := Blk.new' _ _ _ hyy.symm
  clear hS S h1 h2 h3 h4
  go_enter Tryz.func5, Tryz.ntmps5
  go_upto_region 1 with fail
  refine cutC (fun wn => Blk wn y #[.int .u8 (s.k : Nat), .int .i64 s.txn, encStr s.key, encStr s.val, .int .i64 s.n, .bool s.d, .slice fa s.f.length ca] 30 ∧ Same w wn) ⟨b0, k0⟩ ?_
  clear b0 k0
  rintro w0 ⟨b0, k0⟩
  have B0 := Lib.hid b0; have K0 := Lib.hid k0
  clear b0 k0
  have p0 := cell_blk B0.out 0
  have p1 := cell_blk B0.out 1
  have p2 := cell_blk B0.out 2
  have p3 := cell_blk B0.out 3
  have p4 := cell_blk B0.out 4
  have p5 := cell_blk B0.out 5
  have p6 := cell_blk B0.out 6
  go_wp2_with fail
  refine (LG.out _).mono ?_
  rintro e w1 ⟨rfl, k1⟩
  have K9 := Lib.hid (K0.out.trans k1)
  have B1 := Lib.hid (B0.out.kept k1 (fun h => h))
  clear k1 LG
  cases lg with
  | false =>
    go_wp2_with fail
    refine (AW.out _ K9.out).mono ?_
    rintro e w9 ⟨rfl, k9⟩
    have K10 := Lib.hid (K9.out.trans k9)
    clear k9
    go_wp2_with fail
    go_ret
    exact ⟨rfl, K10.out⟩
  | true =>
    by_cases g1 : 100 < line.length
    · have g1' : (100 : Int) < (line.length : Int) := by omega
      go_wp2_with fail
      refine (AW.out _ K9.out).mono ?_
      rintro e w9 ⟨rfl, k9⟩
      have K10 := Lib.hid (K9.out.trans k9)
      clear k9
      go_wp2_with fail
      go_ret
      exact ⟨rfl, K10.out⟩
    have g1' : ¬ (100 : Int) < (line.length : Int) := by omega
    by_cases g2 : 100 < text.length
    · have g2' : (100 : Int) < (text.length : Int) := by omega
      go_wp2_with fail
      refine (AW.out _ K9.out).mono ?_
      rintro e w9 ⟨rfl, k9⟩
      have K10 := Lib.hid (K9.out.trans k9)
      clear k9
      go_wp2_with fail
      go_ret
      exact ⟨rfl, K10.out⟩
    have g2' : ¬ (100 : Int) < (text.length : Int) := by omega
    have W1 := Lib.hid (fun w => co_word text (by omega) w)
    have U1 := Lib.hid (fun w => co_unword (wordT text) (by have := word_len text; omega) w)
    have WS := Lib.hid (word_seen text)
    have hwl : (wordT text).length ≤ 300 := by have := word_len text; omega
    unfold unwordP at U1
    rw [unword_word text] at U1
    simp only [Option.getD_some, Option.isSome_some] at U1
    obtain ⟨wd, hwd⟩ : ∃ t, wordT text = t := ⟨_, rfl⟩
    rw [hwd] at W1 U1 WS hwl
    clear hwd
    go_wp2_with fail
    refine (W1.out _).mono ?_
    rintro e w2 ⟨rfl, k2⟩
    have K2 := Lib.hid (K9.out.trans k2)
    have B2 := Lib.hid (B1.out.kept k2 (fun h => h))
    clear k2 K9 B1 W1
    go_wp2_with fail
    refine (U1.out _).mono ?_
    rintro e w3 ⟨rfl, k3⟩
    have K3 := Lib.hid (K2.out.trans k3)
    have B3 := Lib.hid (B2.out.kept k3 (fun h => h))
    clear k3 K2 B2 U1
    have q1 : (text == text) = true := by simp
    have q2 : (text != text) = false := by simp
    have n0 : ((wd.length : Int) == 0) = false := by
      have := List.length_pos_iff.2 WS.out.2
      simp only [beq_eq_false_iff_ne]
      omega
    go_wp2_with fail
    go_loopw [10] (fun t wr => ∃ i : Nat, t = .int .i64 i ∧ i ≤ wd.length ∧ wr = w3) (fun t _ => wd.length - (Go.RowKit.intOf t).toNat)
    case atStart => exact ⟨0, rfl, by omega, rfl⟩
    case round =>
      obtain ⟨i, rfl, hi, rfl⟩ := hrel
      by_cases hgo : i < wd.length
      · have g3 : (i : Int) < (wd.length : Int) := by omega
        have g0 : (0 : Int) ≤ (i : Int) := by omega
        obtain ⟨yy, hxy⟩ : ∃ yy, wd[i].toNat = yy := ⟨_, rfl⟩
        have hy := str_at hgo hxy
        have hc := WS.out.1
        rw [List.all_eq_true] at hc
        have hc2 := hc wd[i] (List.getElem_mem hgo)
        simp only [okC, hxy, Bool.and_eq_true, decide_eq_true_eq] at hc2
        have y1 : ¬ (yy : Int) ≤ 32 := by omega
        have y2 : ¬ (126 : Int) < (yy : Int) := by omega
        clear hc hc2 hxy
        go_wp2_with fail
        go_roundw
        case rel => exact ⟨i + 1, by go_num, by omega, trivial⟩
        case measure => simp [Go.RowKit.intOf]; omega
      · have g3 : ¬ (i : Int) < (wd.length : Int) := by omega
        have e : i = wd.length := by omega
        subst e
        have LC1 := Lib.hid (LC.out (OKS.out (by trivial)) wr K3.out)
        have p0 := cell_blk B3.out 0
        have p1 := cell_blk B3.out 1
        have p2 := cell_blk B3.out 2
        have p3 := cell_blk B3.out 3
        have p4 := cell_blk B3.out 4
        have p5 := cell_blk B3.out 5
        have p6 := cell_blk B3.out 6
        clear LC WS n0
        go_wp2_with fail
        refine LC1.out.mono ?_
        rintro e w4 ⟨rfl, k4⟩
        have K4 := Lib.hid (K3.out.trans k4)
        have B4 := Lib.hid (B3.out.kept k4 (fun h => h))
        clear k4 K3 B3 LC1
        cases LV with
        | none =>
          simp only [Option.getD_none, Option.isSome_none]
          have K9 := K4
          have P2 := Lib.hid (co_parse line (by omega) w4 (HM.out _ K9.out))
          go_wp2_with fail
          refine P2.out.mono ?_
          rintro e wp ⟨v, rfl, ⟨sv, rfl, hsv⟩, kp⟩
          obtain ⟨ya, yc, rfl, hyn⟩ := hsv.toNats
          have K9 := Lib.hid (K9.out.trans kp)
          have YN := Lib.hid hyn
          clear hsv hyn kp P2
          cases hpl : parseT line with
          | none =>
            simp only [Option.getD_none, Option.isSome_none]
            go_upto_region 18 with fail
            refine cutC (fun wn => Same w wn) (K9.out.alloc _) ?_
            rintro wq kq
            have K9 := Lib.hid kq
            clear kq
            go_wp2_with fail
            refine (AW.out _ K9.out).mono ?_
            rintro e w9 ⟨rfl, k9⟩
            have K10 := Lib.hid (K9.out.trans k9)
            clear k9
            go_wp2_with fail
            go_ret
            exact ⟨rfl, K10.out⟩
          | some q =>
            have OQ := parse_ok hpl (by omega)
            have LQ := line_parse hpl
            rw [hpl] at YN
            simp only [Option.getD_some, Option.isSome_some] at YN ⊢
            clear hpl
            go_upto_region 18 with fail
            obtain ⟨zq, hzq⟩ : ∃ zq, wp.heap.size = zq := ⟨_, rfl⟩
            refine cutC (fun wn => Blk wn zq #[.int .u8 (q.k : Nat), .int .i64 q.txn, encStr q.key, encStr q.val, .int .i64 q.n, .bool q.d, .slice ya q.f.length yc] 27 ∧ Same w wn ∧ NatsAt wn .u8 ya (natsU q.f)) ⟨Blk.new' _ _ _ hzq.symm, K9.out.alloc _, YN.out.same ((Kept.refl _ _).alloc _)⟩ ?_
            rintro wq ⟨bq, kq, nq⟩
            rw [hzq]
            have L2 := Lib.hid (co_line q OQ ya yc wq nq (HM.out _ kq))
            unfold lineV at L2
            rw [LQ] at L2
            simp only [Option.getD_some, Option.isSome_some] at L2
            have K9 := Lib.hid kq
            have q0 := cell_blk bq 0
            have q1 := cell_blk bq 1
            have q2 := cell_blk bq 2
            have q3 := cell_blk bq 3
            have q4 := cell_blk bq 4
            have q5 := cell_blk bq 5
            have q6 := cell_blk bq 6
            clear kq nq bq hzq YN OQ LQ
            go_wp2_with fail
            refine L2.out.mono ?_
            rintro e wr2 ⟨rfl, k2⟩
            have K9 := Lib.hid (K9.out.trans k2)
            clear k2 L2
            have qq1 : (line == line) = true := by simp
            go_wp2_with fail
            refine (AW.out _ K9.out).mono ?_
            rintro e w9 ⟨rfl, k9⟩
            have K10 := Lib.hid (K9.out.trans k9)
            clear k9
            go_wp2_with fail
            go_ret
            exact ⟨rfl, K10.out⟩
        | some ln =>
          simp only [Option.getD_some, Option.isSome_some]
          have PL1 := PL.out ln rfl
          have P1 := Lib.hid (co_parse ln (by have := LL.out (OKS.out (by trivial)) ln rfl; omega) w4 (HM.out _ K4.out))
          go_wp2_with fail
          refine P1.out.mono ?_
          rintro e w5 ⟨v, rfl, ⟨sv, rfl, hsv⟩, k5⟩
          rw [PL1] at hsv
          obtain ⟨xa, xc, rfl, hxn⟩ := hsv.toNats
          rw [PL1]
          simp only [Option.getD_some, Option.isSome_some] at hxn ⊢
          have K5 := Lib.hid (K4.out.trans k5)
          have B5 := Lib.hid (B4.out.kept k5 (fun h => h))
          clear k5 hsv P1 PL1 PL K4 B4
          go_upto_region 15 with fail
          obtain ⟨z, hz⟩ : ∃ z, w5.heap.size = z := ⟨_, rfl⟩
          refine cutC (fun wn => Blk wn z #[.int .u8 (s.k : Nat), .int .i64 s.txn, encStr s.key, encStr s.val, .int .i64 s.n, .bool s.d, .slice xa s.f.length xc] 27 ∧ Blk wn y #[.int .u8 (s.k : Nat), .int .i64 s.txn, encStr s.key, encStr s.val, .int .i64 s.n, .bool s.d, .slice fa s.f.length ca] 30 ∧ Same w wn ∧ NatsAt wn .u8 xa (natsU s.f)) ⟨Blk.new' _ _ _ hz.symm, B5.out.alloc _, K5.out.alloc _, hxn.same ((Kept.refl _ _).alloc _)⟩ ?_
          rintro w6 ⟨bz, by6, k6, hx6⟩
          rw [hz]
          have SA := Lib.hid (SM.out s xa xc w6 k6 hx6)
          rw [show decide (s = s) = true by simp] at SA
          have K6 := Lib.hid k6
          have p0 := cell_blk by6 0
          have p1 := cell_blk by6 1
          have p2 := cell_blk by6 2
          have p3 := cell_blk by6 3
          have p4 := cell_blk by6 4
          have p5 := cell_blk by6 5
          have p6 := cell_blk by6 6
          have q0 := cell_blk bz 0
          have q1 := cell_blk bz 1
          have q2 := cell_blk bz 2
          have q3 := cell_blk bz 3
          have q4 := cell_blk bz 4
          have q5 := cell_blk bz 5
          have q6 := cell_blk bz 6
          clear bz by6 k6 hx6 hz hxn SM K5 B5
          go_wp2_with fail
          refine SA.out.mono ?_
          rintro e w7 ⟨rfl, k7⟩
          have K9 := Lib.hid (K6.out.trans k7)
          clear k7 SA K6
          have P2 := Lib.hid (co_parse line (by omega) w7 (HM.out _ K9.out))
          go_wp2_with fail
          refine P2.out.mono ?_
          rintro e wp ⟨v, rfl, ⟨sv, rfl, hsv⟩, kp⟩
          obtain ⟨ya, yc, rfl, hyn⟩ := hsv.toNats
          have K9 := Lib.hid (K9.out.trans kp)
          have YN := Lib.hid hyn
          clear hsv hyn kp P2
          cases hpl : parseT line with
          | none =>
            simp only [Option.getD_none, Option.isSome_none]
            go_upto_region 18 with fail
            refine cutC (fun wn => Same w wn) (K9.out.alloc _) ?_
            rintro wq kq
            have K9 := Lib.hid kq
            clear kq
            go_wp2_with fail
            refine (AW.out _ K9.out).mono ?_
            rintro e w9 ⟨rfl, k9⟩
            have K10 := Lib.hid (K9.out.trans k9)
            clear k9
            go_wp2_with fail
            go_ret
            exact ⟨rfl, K10.out⟩
          | some q =>
            have OQ := parse_ok hpl (by omega)
            have LQ := line_parse hpl
            rw [hpl] at YN
            simp only [Option.getD_some, Option.isSome_some] at YN ⊢
            clear hpl
            go_upto_region 18 with fail
            obtain ⟨zq, hzq⟩ : ∃ zq, wp.heap.size = zq := ⟨_, rfl⟩
            refine cutC (fun wn => Blk wn zq #[.int .u8 (q.k : Nat), .int .i64 q.txn, encStr q.key, encStr q.val, .int .i64 q.n, .bool q.d, .slice ya q.f.length yc] 27 ∧ Same w wn ∧ NatsAt wn .u8 ya (natsU q.f)) ⟨Blk.new' _ _ _ hzq.symm, K9.out.alloc _, YN.out.same ((Kept.refl _ _).alloc _)⟩ ?_
            rintro wq ⟨bq, kq, nq⟩
            rw [hzq]
            have L2 := Lib.hid (co_line q OQ ya yc wq nq (HM.out _ kq))
            unfold lineV at L2
            rw [LQ] at L2
            simp only [Option.getD_some, Option.isSome_some] at L2
            have K9 := Lib.hid kq
            have q0 := cell_blk bq 0
            have q1 := cell_blk bq 1
            have q2 := cell_blk bq 2
            have q3 := cell_blk bq 3
            have q4 := cell_blk bq 4
            have q5 := cell_blk bq 5
            have q6 := cell_blk bq 6
            clear kq nq bq hzq YN OQ LQ
            go_wp2_with fail
            refine L2.out.mono ?_
            rintro e wr2 ⟨rfl, k2⟩
            have K9 := Lib.hid (K9.out.trans k2)
            clear k2 L2
            have qq1 : (line == line) = true := by simp
            go_wp2_with fail
            refine (AW.out _ K9.out).mono ?_
            rintro e w9 ⟨rfl, k9⟩
            have K10 := Lib.hid (K9.out.trans k9)
            clear k9
            go_wp2_with fail
            go_ret
            exact ⟨rfl, K10.out⟩
end Go.Proofs.YtnjmdldhgconmaaGreatDoor

namespace Go.Proofs.YtnjmdldhgconmaaGreatDoor
open Go.RowKit Go.Sort

theorem errL60 : errL 60 = [101, 114, 114, 111, 114, 32, 54, 48] := by
  unfold errL
  rw [show numT 60 = [54, 48] by
    rw [show (60 : Int) = ((60 : Nat) : Int) from rfl, num_nat, dig_more (by omega), dig_small (by omega)]
    rfl]
  rfl
theorem errL1 : errL 1 = [101, 114, 114, 111, 114, 32, 49] := by
  unfold errL
  rw [show numT 1 = [49] by
    rw [show (1 : Int) = ((1 : Nat) : Int) from rfl, num_nat, dig_small (by omega)]
    rfl]
  rfl
set_option maxRecDepth 100000 in
set_option maxHeartbeats 6400000 in
theorem nobody27_any (w : World) (hT : TabOK w) (hM : MaxOK w) (l : Tx) :
    Calls Tryz.prog 6 #[encStr l] w fun e w' => e = .returned (.bool true) ∧ Same w w' := by
  have AW := Lib.hid (fun w' (k : Same w w') => aw27 w' (hT.same k) (hM.same k))
  have HM := Lib.hid (fun w' (k : Same w w') => hM.same k)
  clear hT hM
  by_cases h1 : 300 < l.length
  · have h1' : (300 : Int) < (l.length : Int) := by omega
    have K9 := Lib.hid (Kept.refl (fun _ => False) w)
    go_enter Tryz.func6, Tryz.ntmps6
    go_wp2_with fail
    refine (AW.out _ K9.out).mono ?_
    rintro e w9 ⟨rfl, k9⟩
    have K10 := Lib.hid (K9.out.trans k9)
    clear k9
    go_wp2_with fail
    go_ret
    exact ⟨rfl, K10.out⟩
  have h1' : ¬ (300 : Int) < (l.length : Int) := by omega
  obtain ⟨g, hg⟩ : ∃ g, w.heap.size = g := ⟨_, rfl⟩
  have SE := Lib.hid (show ∀ w', w'.cell? ⟨g, 0, none⟩ = some (encStr l) → Same w w' → Calls Tryz.prog 23 #[.pointer none, .slice (some ⟨g, 0, none⟩) 1 1] w' fun e w'' => ∃ v, e = .returned v ∧ OwnE txE w'' w'.heap.size 9 v (sesN l) ∧ Same w' w'' from fun w' hc k => co_session_nil l (by omega) g w' hc (HM.out w' k))
  have PC := Lib.hid (fun w' (k : Same w w') => co_parse l (by omega) w' (HM.out w' k))
  have kA : Same w (w.alloc (.cells #[encStr l] 9)) := (Kept.refl _ w).alloc _
  have cA : (w.alloc (.cells #[encStr l] 9)).cell? ⟨g, 0, none⟩ = some (encStr l) := (Blk.new' w #[encStr l] 9 hg.symm).cell 0 rfl
  have SA := Lib.hid (SE.out _ cA kA)
  have KA := Lib.hid kA
  clear kA cA SE
  go_enter Tryz.func6, Tryz.ntmps6
  go_wp2_with fail
  refine SA.out.mono ?_
  rintro e w1 ⟨v, rfl, ho, k1⟩
  have K1 := Lib.hid (KA.out.trans k1)
  obtain ⟨a, c, rfl, hat, -, -, -⟩ := ho.els
  have AT := Lib.hid hat
  clear ho hat k1 SA KA
  obtain ⟨n, hn⟩ : ∃ n, (sesN l).length = n := ⟨_, rfl⟩
  rw [hn]
  have HN := Lib.hid hn
  clear hn
  have PP := Lib.hid (PC.out w1 K1.out)
  clear PC HM
  go_wp2_with fail
  refine PP.out.mono ?_
  rintro e w2 ⟨v, rfl, ⟨sv, rfl, hsv⟩, k2⟩
  obtain ⟨xa, xc, rfl, -⟩ := hsv.toNats
  have K2 := Lib.hid (K1.out.trans k2)
  have AT2 := Lib.hid (AT.out.same k2)
  clear hsv k2 PP AT K1
  obtain ⟨ok, hok⟩ : ∃ b, (parseT l).isSome = b := ⟨_, rfl⟩
  rw [hok]
  have HOK := Lib.hid hok
  clear hok
  obtain ⟨q, hq⟩ : ∃ q, (parseT l).getD (stp0 0) = q := ⟨_, rfl⟩
  rw [hq]
  clear hq
  go_upto_region 5 with fail
  obtain ⟨z, hz⟩ : ∃ z, w2.heap.size = z := ⟨_, rfl⟩
  refine cutC (fun wn => Same w wn ∧ ElsAt txE wn a (sesN l)) ⟨K2.out.alloc _, AT2.out.same ((Kept.refl _ _).alloc _)⟩ ?_
  rintro w3 ⟨k3, at3⟩
  rw [hz]
  have K9 := Lib.hid k3; have AT3 := Lib.hid at3
  clear k3 at3 hz K2 AT2
  have SL := Lib.hid (fun (ys : List Tx) (hy : ys.length ≤ 10) w' (k : Same w3 w') b (hb : ElsAt txE w' b ys) cb => cr_samelines a b n ys.length c cb (sesN l) ys w' HN.out.symm rfl (AT3.out.same k) hb (by unfold sesN; split <;> (try split) <;> simp) (by omega))
  have hmid : ∀ (hne : ¬ (l = [] ∨ l.head? = some 35)), Hid (sesN l = if ok = true then [errL 1] else [errL 60]) := fun hne => by
    show _ = _
    unfold sesN
    rw [if_neg hne, HOK.out]
  have hbeg : ∀ (he : l = [] ∨ l.head? = some 35), Hid (n = 0) := fun he => by
    show _ = _
    rw [← HN.out]
    unfold sesN
    rw [if_pos he]
    rfl
  rcases l with _ | ⟨ch, r⟩
  · have N0 := hbeg (.inl rfl)
    have N0' := N0.out
    clear hmid hbeg N0
    subst N0'
    go_wp2_with fail
    refine (AW.out _ K9.out).mono ?_
    rintro e w9 ⟨rfl, k9⟩
    have K10 := Lib.hid (K9.out.trans k9)
    clear k9
    go_wp2_with fail
    go_ret
    exact ⟨rfl, K10.out⟩
  · have hc := head_at ch r
    obtain ⟨y, hy⟩ : ∃ y, ch.toNat = y := ⟨_, rfl⟩
    rw [hy] at hc
    by_cases h35 : y = 35
    · subst h35
      have N0 := hbeg (.inr (by rw [show ch = 35 from UInt8.toNat_inj.1 hy]; rfl))
      have N0' := N0.out
      clear hmid hbeg N0 hy
      subst N0'
      go_wp2_with fail
      refine (AW.out _ K9.out).mono ?_
      rintro e w9 ⟨rfl, k9⟩
      have K10 := Lib.hid (K9.out.trans k9)
      clear k9
      go_wp2_with fail
      go_ret
      exact ⟨rfl, K10.out⟩
    · have n35 : ((y : Int) == 35) = false := by simp only [beq_eq_false_iff_ne]; omega
      have SN := hmid (by
        rintro (h | h)
        · cases h
        · have : ch = 35 := by simpa using h
          subst this
          exact h35 hy.symm)
      clear hmid hbeg hy
      cases ok with
      | false =>
        have e60 : sesN (ch :: r) = [[101, 114, 114, 111, 114, 32, 54, 48]] := by rw [SN.out, errL60]; rfl
        have S1 := Lib.hid (SL.out [[101, 114, 114, 111, 114, 32, 54, 48]] (by simp) _ ((Kept.refl _ w3).alloc _) _ (els_lit w3 _) 1)
        rw [show decide (sesN (ch :: r) = [[101, 114, 114, 111, 114, 32, 54, 48]]) = true by simpa using e60] at S1
        have K9 := Lib.hid (K9.out.alloc (.cells #[encStr [101, 114, 114, 111, 114, 32, 54, 48]] 9))
        clear SL e60
        go_wp2_with fail
        refine S1.out.mono ?_
        rintro e w4 ⟨rfl, k4⟩
        have K9 := Lib.hid (K9.out.trans k4)
        clear k4 S1
        go_wp2_with fail
        refine (AW.out _ K9.out).mono ?_
        rintro e w9 ⟨rfl, k9⟩
        have K10 := Lib.hid (K9.out.trans k9)
        clear k9
        go_wp2_with fail
        go_ret
        exact ⟨rfl, K10.out⟩
      | true =>
        have e1 : sesN (ch :: r) = [[101, 114, 114, 111, 114, 32, 49]] := by rw [SN.out, errL1]; rfl
        have S1 := Lib.hid (SL.out [[101, 114, 114, 111, 114, 32, 49]] (by simp) _ ((Kept.refl _ w3).alloc _) _ (els_lit w3 _) 1)
        rw [show decide (sesN (ch :: r) = [[101, 114, 114, 111, 114, 32, 49]]) = true by simpa using e1] at S1
        have K9 := Lib.hid (K9.out.alloc (.cells #[encStr [101, 114, 114, 111, 114, 32, 49]] 9))
        clear SL e1
        go_wp2_with fail
        refine S1.out.mono ?_
        rintro e w4 ⟨rfl, k4⟩
        have K9 := Lib.hid (K9.out.trans k4)
        clear k4 S1
        go_wp2_with fail
        refine (AW.out _ K9.out).mono ?_
        rintro e w9 ⟨rfl, k9⟩
        have K10 := Lib.hid (K9.out.trans k9)
        clear k9
        go_wp2_with fail
        go_ret
        exact ⟨rfl, K10.out⟩
end Go.Proofs.YtnjmdldhgconmaaGreatDoor
