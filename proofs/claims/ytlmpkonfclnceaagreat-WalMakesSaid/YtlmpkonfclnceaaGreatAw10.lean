/- What every right program has behind a lost record: the walk. -/
import Derived.Test.YtlmpkonfclnceaaGreatAw10P
namespace Go.Proofs.YtlmpkonfclnceaaGreat
open Go.RowKit Go.Sort

set_option maxRecDepth 100000 in
set_option maxHeartbeats 1600000 in
theorem aw10 (w : World) : Calls Tryz.prog 6 #[] w fun e w' => e = .returned (.bool true) ∧ Same w w' := by
  go_enter Tryz.func6, Tryz.ntmps6
  go_wp2_with fail
  refine (sd_new 9 w).mono ?_
  rintro e w1 ⟨d, bs, cap, m, rfl, h1, hd, hbs, hm, k1⟩
  have H1 : Hid (DiskIn w1 d bs cap m tD0) := h1
  have K1 := Lib.hid k1
  have N1 := Lib.hid (wl_new H1.out 1 8 1)
  rw [show newE tD0 1 8 1 = 0 from t1] at N1
  clear h1 k1
  go_wp2_with fail
  with_reducible refine N1.out.mono ?_
  rintro e w2 ⟨hp, k2⟩
  rw [if_pos rfl] at hp
  obtain ⟨g, rfl, hg, hgw⟩ := hp
  have hsz1 := K1.out.size
  have ok0 : LOK tL0 9 := by rw [← t13]; exact newL_ok t1
  have ok1 : LOK tL1 9 := addL_ok ok0 (by intro x hx; simp at hx; omega)
  have ok2 : LOK tL2 9 := syncL_ok ok1 tD0
  have OK0 := Lib.hid ok0; have OK1 := Lib.hid ok1; have OK2 := Lib.hid ok2
  have L0 : Hid (LogI w2 g d bs m tL0) := hg
  have H2 := Lib.hid (H1.out.same k2)
  have K2 := Lib.hid (K1.out.trans k2)
  clear hg k2 N1 H1 ok0 ok1 ok2
  have A1 := Lib.hid (show Calls Tryz.prog 17 #[.pointer (some ⟨g, 0, none⟩), .string ⟨#[97]⟩] w2 _ from wl_add L0.out H2.out.box.lt H2.out.safe.lt H2.out.map.lt OK0.out [97] (by decide))
  rw [t2] at A1
  go_wp2_with fail
  with_reducible refine A1.out.mono ?_
  rintro e w3 ⟨rfl, g3, k3⟩
  have hog : ¬ dod d bs m g := by obtain ⟨_, _, _, _, h⟩ := L0.out; exact h.og
  have hdg : d ≠ g := fun q => hog (.inl q.symm)
  have hbg : bs ≠ g := fun q => hog (.inr (.inl q.symm))
  have hmg : m ≠ g := fun q => hog (.inr (.inr q.symm))
  have H3 := Lib.hid (H2.out.kept k3 hdg hbg hmg)
  have L1 : Hid (LogI w3 g d bs m tL1) := g3
  have K3 := Lib.hid (K2.out.step k3 (fun j hj q => by omega))
  clear A1 H2 L0 K2 g3 k3
  have SY := Lib.hid (wl_sync H3.out L1.out (by rw [t13]; exact OK1.out))
  rw [t3] at SY
  go_wp2_with fail
  with_reducible refine SY.out.mono ?_
  rintro e w4 ⟨rfl, h4, g4, k4⟩
  have H4 : Hid (DiskIn w4 d bs cap m tD2) := h4
  have L2 : Hid (LogI w4 g d bs m tL2) := g4
  have K4 := Lib.hid (K3.out.step k4 (fun j hj q => by rcases q with q | q | q | q <;> omega))
  clear SY H3 L1 K3 h4 g4 k4
  have A2 := Lib.hid (show Calls Tryz.prog 17 #[.pointer (some ⟨g, 0, none⟩), .string ⟨#[98]⟩] w4 _ from wl_add L2.out H4.out.box.lt H4.out.safe.lt H4.out.map.lt OK2.out [98] (by decide))
  rw [t4] at A2
  go_wp2_with fail
  with_reducible refine A2.out.mono ?_
  rintro e w5 ⟨rfl, g5, k5⟩
  have H5 := Lib.hid (H4.out.kept k5 hdg hbg hmg)
  have L3 : Hid (LogI w5 g d bs m tL3) := g5
  have K5 := Lib.hid (K4.out.step k5 (fun j hj q => by omega))
  clear A2 H4 L2 K4 g5 k5
  have WT := Lib.hid (wl_waits L3.out (by rw [t5]; decide))
  go_wp2_with fail
  with_reducible refine WT.out.mono ?_
  rintro e w6 ⟨⟨v6, rfl, o6⟩, k6⟩
  obtain ⟨a6, l6, c6, rfl, hl6, -, -, -⟩ := OwnE.rd o6
  obtain rfl : l6 = 1 := hl6.out.trans t5
  have H6 := Lib.hid (H5.out.same k6)
  have K6 := Lib.hid (K5.out.trans k6)
  clear WT H5 L3 K5 o6 k6 hl6
  have PW := Lib.hid (sd_power H6.out none 0 0 [] rfl (Nat.le_refl _) (by intro x hx; cases hx) (.inl rfl))
  go_wp2_with fail
  with_reducible refine PW.out.mono ?_
  rintro e w7 ⟨rfl, h7, k7⟩
  have H7 : Hid (DiskIn w7 d bs cap m tD3) := h7
  have K7 := Lib.hid (K6.out.step k7 (fun j hj q => by rcases q with q | q | q <;> omega))
  clear PW H6 K6 h7 k7
  have OP := Lib.hid (wl_open H7.out 1 8 1)
  rw [show newE tD3 1 8 1 = 0 from t6] at OP
  have OK4 : Hid (LOK tL4 9) := by
    have := openL_ok H7.out.ok t6
    rw [t15] at this
    exact this
  go_wp2_with fail
  with_reducible refine OP.out.mono ?_
  rintro e w8 ⟨hp, k8⟩
  rw [if_pos rfl] at hp
  obtain ⟨y, rfl, hy, hyw⟩ := hp
  have hsz7 := K7.out.size
  have L4 : Hid (LogI w8 y d bs m tL4) := hy
  have H8 := Lib.hid (H7.out.same k8)
  have K8 := Lib.hid (K7.out.trans k8)
  clear OP H7 K7 hy k8
  have RC := Lib.hid (wl_records L4.out (by rw [t7]; decide))
  rw [t7] at RC
  go_wp2_with fail
  with_reducible refine RC.out.mono ?_
  rintro e w9 ⟨⟨v9, rfl, o9⟩, k9⟩
  have hy8 := L4.out.blk
  obtain ⟨b9, cap9, cur9, rfl, hb9, hbl9, hc9, -, hs9, ht9⟩ := o9.read (by simp)
  have T9 : Hid (TxtsAt w9 (some ⟨b9, 0, none⟩) [[97]]) := elsAt_of hbl9 ht9
  have hcap9 : 1 ≤ cap9 := hc9
  have L4' := Lib.hid (L4.out.same k9)
  have H9 := Lib.hid (H8.out.same k9)
  have K9 := Lib.hid (K8.out.trans k9)
  clear RC L4 H8 K8 o9 k9 hbl9 hs9 ht9 hc9
  have A3 := Lib.hid (show Calls Tryz.prog 17 #[.pointer (some ⟨y, 0, none⟩), .string ⟨#[120]⟩] w9 _ from wl_add L4'.out H9.out.box.lt H9.out.safe.lt H9.out.map.lt OK4.out [120] (by decide))
  rw [t8] at A3
  go_wp2_with fail
  with_reducible refine A3.out.mono ?_
  rintro e w10 ⟨rfl, g10, k10⟩
  have L5 : Hid (LogI w10 y d bs m tL5) := g10
  have K10 := Lib.hid (K9.out.step k10 (fun j hj q => by omega))
  have T10 := Lib.hid (T9.out.kept k10 (fun z hz => by cases hz; dsimp only; omega))
  clear A3 L4' H9 K9 T9 g10 k10
  have RS := Lib.hid (wl_restart L5.out 2)
  rw [t9] at RS
  go_wp2_with fail
  with_reducible refine RS.out.mono ?_
  rintro e w11 ⟨rfl, g11, k11⟩
  have L6 : Hid (LogI w11 y d bs m tL6) := g11
  have K11 := Lib.hid (K10.out.step k11 (fun j hj q => by omega))
  have T11 := Lib.hid (T10.out.kept k11 (fun z hz => by cases hz; dsimp only; omega))
  clear RS L5 K10 T10 g11 k11
  obtain ⟨b', off', s', e', -, hs', hc'⟩ := TxtsAt.at T11.out (i := 0) (by decide)
  cases e'
  cases hs'
  have hc97 : w11.cell? ⟨b9, 0, none⟩ = some (.string ⟨#[97]⟩) := hc'
  have EP := Lib.hid (wl_epoch L6.out)
  have LF := Lib.hid (wl_left L6.out t16.1 t16.2)
  rw [t10] at EP
  rw [t11] at LF
  clear hc' T11
  go_wp2_with fail
  with_reducible refine EP.out.mono ?_
  rintro e w12 ⟨rfl, rfl⟩
  go_wp2_with fail
  with_reducible refine LF.out.mono ?_
  rintro e w13 ⟨rfl, k13⟩
  have CL' := Lib.hid (wl_closed (L6.out.same k13))
  rw [t12] at CL'
  have K13 := Lib.hid (K11.out.trans k13)
  clear k13
  go_wp2_with fail
  with_reducible refine CL'.out.mono ?_
  rintro e w14 ⟨rfl, rfl⟩
  go_wp2_with fail
  go_ret
  exact ⟨rfl, K13.out⟩
end Go.Proofs.YtlmpkonfclnceaaGreat
