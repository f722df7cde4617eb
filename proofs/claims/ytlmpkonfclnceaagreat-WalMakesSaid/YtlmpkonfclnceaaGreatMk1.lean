/- WalMakes. -/
import Derived.Test.YtlmpkonfclnceaaGreatWd6
import Derived.Test.YtlmpkonfclnceaaGreatGWlF
namespace Go.Proofs.YtlmpkonfclnceaaGreat
open Go.RowKit Go.Sort

theorem new20 : newE (newD 20) 2 9 1 = 0 := by kernel_rfl
theorem newPostP_any {w w' : World} {d bs m E : Nat} {L : Lg} {r : Ending} (h : NewPostP w d bs m E L r w') : (∃ v, r = .returned (.tuple #[v, .int .i64 (E : Nat)])) ∧ Same w w' := by
  refine ⟨?_, h.2⟩
  have h1 := h.1
  by_cases q : E = 0
  · rw [if_pos q] at h1
    obtain ⟨g, hr, _⟩ := h1
    exact ⟨_, by rw [hr, q]; rfl⟩
  · rw [if_neg q] at h1
    exact ⟨_, h1⟩
theorem rnew_any {w w' : World} {P : Nat → Prop} {a : Option Addr} {c : Nat} {D : Dsk} {E : Nat} {L : Lg} {r : Ending} (h : RNew w P a c D E L r w') : (∃ sa sn sc b0 i0 i1 b1 i2 i3 i4 i5 ta tn tc ua un uc b2 b3, r = .returned (.tuple #[.agg #[.slice sa sn sc, .bool b0, .int .i64 i0, .int .i64 i1, .bool b1, .int .i64 i2, .int .i64 i3, .int .i64 i4, .int .i64 i5, .slice ta tn tc, .slice ua un uc, .bool b2, .bool b3], .int .i64 (E : Nat)])) ∧ Same w w' := by
  refine ⟨?_, h.2⟩
  have h1 := h.1
  by_cases q : E = 0
  · rw [if_pos q] at h1
    obtain ⟨ha, hc, wa, wc, hr, _⟩ := h1
    exact ⟨_, _, _, _, _, _, _, _, _, _, _, _, _, _, _, _, _, _, _, by rw [hr, q]; rfl⟩
  · rw [if_neg q] at h1
    exact ⟨_, _, _, _, _, _, _, _, _, _, _, _, _, _, _, _, _, _, _, h1⟩
section
attribute [local go_sem ↓] exec_app semAt_app
attribute [local go_sem] isApp_lit appA appX
set_option maxRecDepth 100000 in
set_option maxHeartbeats 4000000 in
theorem make10_any (W : World) (n0 n1 n2 : Int) (a : Option Addr) (len cap0 : Nat) (A : Nat → A10) (hacts : len = 0 ∨ ∃ b off, a = some ⟨b, off, none⟩ ∧ b < W.heap.size ∧ Acts10 W b off len A) (a2 : Option Addr) (len2 cap2 : Nat) (A2 : Nat → A10) (hacts2 : len2 = 0 ∨ ∃ b off, a2 = some ⟨b, off, none⟩ ∧ b < W.heap.size ∧ Acts10 W b off len2 A2) :
    Calls Tryz.prog 4 #[.agg #[.int .i64 n0, .int .i64 n1, .int .i64 n2], .slice a len cap0, .slice a2 len2 cap2] W fun e w' => e = .returned (.bool true) ∧ Same W w' := by
  have FW1 := Lib.hid fun (w' : World) (kk : Same W w') => few10 W a len cap0 16 (by decide) A hacts w' kk
  have FW2 := Lib.hid fun (w' : World) (kk : Same W w') => few10 W a2 len2 cap2 16 (by decide) A2 hacts2 w' kk
  obtain ⟨r1, hr1⟩ : ∃ r1, fewA A len 16 = r1 := ⟨_, rfl⟩
  obtain ⟨r2, hr2⟩ : ∃ r2, fewA A2 len2 16 = r2 := ⟨_, rfl⟩
  simp only [hr1] at FW1
  simp only [hr2] at FW2
  by_cases hr : r1 = true ∧ r2 = true
  · obtain ⟨rfl, rfl⟩ := hr
    obtain ⟨hl', hsh⟩ := fewA_true hr1
    obtain ⟨hl2', hsh2⟩ := fewA_true hr2
    have HL := Lib.hid (show len ≤ 16 by omega)
    have HL2 := Lib.hid (show len2 ≤ 16 by omega)
    have SH := Lib.hid hsh
    have SH2 := Lib.hid hsh2
    have HA := Lib.hid hacts
    have HA2 := Lib.hid hacts2
    clear hr1 hr2 hl' hl2' hsh hsh2 hacts hacts2
    go_enter Tryz.func4, Tryz.ntmps4
    go_wp2_with fail
    refine Calls.fr1 ?_
    intro w0 F' K' hz'
    have F := Lib.hid F'
    have K := Lib.hid K'
    clear F' K' hz'
    with_reducible refine (FW1.out _ K.out).mono ?_
    rintro e w1 ⟨rfl, rfl⟩
    obtain ⟨p0, f0, -⟩ := F.out.rules
    have z0 := F.out.1.lt
    go_wp2_with fail
    with_reducible refine (FW2.out _ K.out).mono ?_
    rintro e w1 ⟨rfl, rfl⟩
    go_wp2_with fail
    with_reducible refine (sd_new 20 w1).mono ?_
    rintro e w2 ⟨d, bs, cap, m, rfl, hd, -, -, -, k2⟩
    have HD := Lib.hid hd
    have F2 := Lib.hid (F.out.same k2)
    have K2 := Lib.hid (K.out.trans k2)
    clear hd k2 p0 f0 z0 F K
    go_wp2_with fail
    with_reducible refine (rs_new 20 w2).mono ?_
    rintro r w3 ⟨ra, rc, rfl, ⟨hs3, -⟩, k3⟩
    have HD3 := Lib.hid (HD.out.same k3)
    have HS3 := Lib.hid hs3
    have F3 := Lib.hid (F2.out.same k3)
    have K3 := Lib.hid (K2.out.trans k3)
    clear hs3 k3 F2 K2 HD
    obtain ⟨D0, hD0⟩ : ∃ D0, newD 20 = D0 := ⟨_, rfl⟩
    have HOK := Lib.hid (newD_ok 20)
    rw [hD0] at HD3 HS3 HOK ⊢
    have HD0 := Lib.hid hD0
    clear hD0
    simp only [refV]
    go_upto_region 4 with fail
    refine cutWl (fun wn => Fr wn [(w3.heap.size, #[.slice ra D0.s.length rc, .bool D0.off, .int .i64 D0.calls, .int .i64 D0.after, .bool D0.done], 40), (W.heap.size, #[.int .i64 n0, .int .i64 n1, .int .i64 n2], 35)] ∧ Same w3 wn) ⟨⟨Blk.new _ _ _, F3.out.1.alloc _, trivial⟩, (Kept.refl _ _).alloc _⟩ ?_
    rintro w4 ⟨hf4, k4⟩
    have F4 := Lib.hid hf4
    have K4 := Lib.hid (K3.out.trans k4)
    have HD4 := Lib.hid (HD3.out.same k4)
    have HS4 := Lib.hid (HS3.out.kept k4 (.inr (fun _ _ h => h)))
    clear hf4 k4 F3 K3 HD3 HS3
    obtain ⟨p1, f1, p0, f0, -⟩ := F4.out.rules
    have z1 := F4.out.1.lt
    have z0 := F4.out.2.1.lt
    go_wp2_with fail
    obtain ⟨E, hE⟩ : ∃ E, newE D0 n0 n1 n2 = E := ⟨_, rfl⟩
    have HE := Lib.hid hE
    clear hE
    have NW := Lib.hid ((wl_newP HD4.out n0 n1 n2).mono (fun _ _ q => newPostP_any q))
    rw [HE.out] at NW
    with_reducible refine NW.out.mono ?_
    rintro r w5 ⟨⟨v, rfl⟩, k5⟩
    have F5 := Lib.hid (F4.out.same k5)
    have K5 := Lib.hid (K4.out.trans k5)
    have HD5 := Lib.hid (HD4.out.same k5)
    have HS5 := Lib.hid (HS4.out.kept k5 (.inr (fun _ _ h => h)))
    clear k5 F4 K4 HD4 HS4 NW p0 f0 p1 f1 z0 z1
    obtain ⟨p1, f1, p0, f0, -⟩ := F5.out.rules
    have z1 := F5.out.1.lt
    have z0 := F5.out.2.1.lt
    have RN := (rx_new (w := w5) (P := fun _ => True) ra rc D0 HS5.out (fun _ _ => trivial) HOK.out.few n0 n1 n2).mono (fun _ _ q => rnew_any q)
    rw [HE.out] at RN
    simp only [refV] at RN
    have RN := Lib.hid RN
    go_wp2_with fail
    with_reducible refine RN.out.mono ?_
    rintro r w6 ⟨⟨sa, sn, sc, b0, i0, i1, b1, i2, i3, i4, i5, ta, tn, tc, ua, un, uc, b2, b3, rfl⟩, k6⟩
    have F6 := Lib.hid (F5.out.same k6)
    have K6 := Lib.hid (K5.out.trans k6)
    have HD6 := Lib.hid (HD5.out.same k6)
    clear k6 F5 K5 HD5 HS5 RN p0 f0 p1 f1 z0 z1
    go_upto_region 6 with fail
    refine cutWl (fun wn => Fr wn [(W.heap.size, #[.int .i64 n0, .int .i64 n1, .int .i64 n2], 35)] ∧ Same w6 wn) ⟨⟨F6.out.2.1.alloc _, trivial⟩, (Kept.refl _ _).alloc _⟩ ?_
    rintro w7 ⟨hf7, k7⟩
    have F7 := Lib.hid hf7
    have K7 := Lib.hid (K6.out.trans k7)
    have HD7 := Lib.hid (HD6.out.same k7)
    clear hf7 k7 F6 K6 HD6
    obtain ⟨p0, f0, -⟩ := F7.out.rules
    have z0 := F7.out.1.lt
    have WO := Lib.hid ((wl_openP HD7.out n0 n1 n2).mono (fun _ _ q => newPostP_any q))
    rw [HE.out] at WO
    go_wp2_with fail
    with_reducible refine WO.out.mono ?_
    rintro r w8 ⟨⟨v', rfl⟩, k8⟩
    have K8 := Lib.hid (K7.out.trans k8)
    clear k8 F7 K7 HD7 WO p0 f0 z0
    go_wp2_with fail
    have BG := Lib.hid (wd_begun 20 2 9 new20 (by intro z; have := congrArg List.length z; rw [show (newD 20).s.length = 20 by kernel_rfl] at this; cases this) w8)
    have HLN := Lib.hid (show (newD 20).s.length = 20 by kernel_rfl)
    rw [HD0.out] at BG HLN
    obtain ⟨L0, hL0⟩ : ∃ L0, newL 2 9 1 = L0 := ⟨_, rfl⟩
    rw [hL0] at BG
    clear hL0
    with_reducible refine BG.out.mono ?_
    rintro r w9 ⟨⟨x, d1, bs1, cap1, m1, g0, a0, c0, ha0, hc0, wa0, wc0, rfl, hw, hx1, hd1, hbs1, hm1, hg1⟩, k9⟩
    have HW := Lib.hid hw
    have K9 := Lib.hid (K8.out.trans k9)
    have hsz8 := K8.out.size
    clear hw k9 BG K8
    go_wp2_with fail
    go_loopw [17] (fun t wr => ∃ (i g : Nat) (D : Dsk) (L : Lg) (a1 : Option Addr) (c1 : Nat) (ha : Option Addr) (hc : Nat) (wa : Option Addr) (wc : Nat), t = .int .i64 i ∧ i ≤ len ∧ W10 wr x d1 bs1 cap1 m1 g D L a1 c1 ha hc wa wc ∧ D.s.length = 20 ∧ W.heap.size ≤ g ∧ Same W wr) (fun t _ => len - (intOf t).toNat)
    case atStart => exact ⟨0, g0, D0, L0, a0, c0, ha0, hc0, wa0, wc0, rfl, Nat.zero_le _, HW.out, HLN.out, by omega, K9.out⟩
    case round =>
      clear HW K9 HLN
      obtain ⟨i, g, D, L, a1, c1, ha, hc, wa, wc, rfl, hi, hw, hdl, hg, hk⟩ := hrel
      have hl16 := HL.out
      have HW := Lib.hid hw
      have K := Lib.hid hk
      have DL := Lib.hid hdl
      clear hw hk hdl
      by_cases hgo : i < len
      · obtain ⟨b, off, rfl, hb, hall⟩ := HA.out.resolve_left (by omega)
        have AC := Lib.hid ((hall i hgo).same K.out hb)
        have SHI := Lib.hid (SH.out i hgo)
        have AT := Lib.hid (hall i hgo).at_
        have hoff : (A i).fs = [] ∨ ∀ y, (A i).fa = some y → ¬ dod d1 bs1 m1 y.block := by
          rcases AT.out with q | ⟨b', o', q, hb', _⟩
          · exact .inl q
          · refine .inr (fun y hy => ?_)
            rw [q] at hy
            cases hy
            rintro (z | z | z) <;> (dsimp only at z; omega)
        have DA := Lib.hid (wd_any HW.out (A i) ⟨AC.out.kb2, AC.out.nb2, AC.out.cb, AC.out.ub, AC.out.fl_, AC.out.fc_, AC.out.fb, AC.out.at_, hoff⟩ (by have := SHI.out; omega) AC.out.sb (by intro z; have := DL.out; rw [z] at this; cases this))
        rw [DL.out] at DA
        unfold actV at DA
        clear hoff AT SHI
        generalize A i = α at *
        obtain ⟨k, s, n, kq, nq, cc, u, dn, fa, fl, fc, fs⟩ := α
        obtain ⟨v0, v1, v2, v3, v4, v5, v6, v7, v8, -, -, -, -, -, -, -, -, -, -, -⟩ := AC.out
        dsimp only at v0 v1 v2 v3 v4 v5 v6 v7 v8 DA
        have g1 : (i : Int) < (len : Int) := by omega
        have gz : (0 : Int) ≤ (i : Int) := by omega
        clear hall AC
        go_wp2_with fail
        with_reducible refine DA.out.mono ?_
        rintro e w5 ⟨g5, D5, L5, a5, c5, ha5, hc5, wa5, wc5, rfl, hdl5, hw5, hg5, k5⟩
        have HW5 := Lib.hid hw5
        have K5 := Lib.hid (K.out.step k5 (fun j hj z => by rcases z with z | z | z | z | z <;> omega))
        have HD5 := Lib.hid hdl5
        have hsz := K.out.size
        clear hw5 k5 hdl5 DA HW K v0 v1 v2 v3 v4 v5 v6 v7 v8
        go_wp2_with fail
        go_roundw
        case rel => exact ⟨i + 1, g5, D5, L5, a5, _, ha5, hc5, wa5, wc5, by go_num, by omega, HW5.out, HD5.out, by omega, K5.out⟩
        case measure => simp [intOf]; omega
      · have g1 : ¬ (i : Int) < (len : Int) := by omega
        have p0 := cell_blk HW.out.box
        simp only [wdV] at p0
        have f0 := fun i => HW.out.box.free i
        have z0 := HW.out.box.lt
        go_wp2_with fail
        with_reducible refine (sd_fork HW.out.disk).mono ?_
        rintro e w5 ⟨d2, bs2, cap3, m2, rfl, h5, hd5, hbs5, hm5, k5⟩
        have HW5 := Lib.hid (HW.out.same k5)
        have HD5 := Lib.hid h5
        have K5 := Lib.hid (K.out.trans k5)
        have hk5 := K.out.size
        have RA := Lib.hid ((secsAt_lt HW.out.ref.s).resolve_left (by intro z; have := DL.out; rw [z] at this; cases this))
        have RH := Lib.hid HW.out.ref.lh
        have RW := Lib.hid HW.out.ref.lw
        have HWS := Lib.hid (show W.heap.size ≤ wr.heap.size from hk5)
        obtain ⟨Z, hZ⟩ : ∃ Z, wr.heap.size = Z := ⟨_, rfl⟩
        rw [hZ] at RA RH RW HWS hd5 hbs5 hm5 hk5
        have l1 := h5.box.lt; have l2 := h5.safe.lt; have l3 := h5.map.lt
        have HL1 := Lib.hid (⟨⟨hd5, hbs5, hm5⟩, l1, l2, l3⟩ : (Z ≤ d2 ∧ Z ≤ bs2 ∧ Z ≤ m2) ∧ d2 < w5.heap.size ∧ bs2 < w5.heap.size ∧ m2 < w5.heap.size)
        have HM := Lib.hid HW.out
        have KM := Lib.hid K.out
        have KM5 := Lib.hid k5
        have HZ := Lib.hid hZ
        clear h5 k5 HW K p0 f0 z0 hZ hk5 hd5 hbs5 hm5 l1 l2 l3
        have p0 := cell_blk HW5.out.box
        simp only [wdV] at p0
        have f0 := fun i => HW5.out.box.free i
        have z0 := HW5.out.box.lt
        have QX := Lib.hid fun (w' : World) (kk : Same w5 w') => (show (fun w' : World => ∀ i, w'.cell? ⟨x, i, none⟩ = (#[.pointer (some ⟨d1, 0, none⟩), .pointer (some ⟨g, 0, none⟩), .slice a1 D.s.length c1, .bool D.off, .int .i64 D.calls, .int .i64 D.after, .bool D.done, .int .i64 (L.first : Nat), .int .i64 (L.count : Nat), .int .i64 (L.epoch : Nat), .int .i64 (L.at_ : Nat), .slice ha L.has.length hc, .slice wa L.wait.length wc, .bool L.closed, .bool L.bad] : Array Value)[i]?) w' from cell_blk (HW5.out.box.kept kk (fun h => h)))
        have WF := Lib.hid fun (w' : World) (kk : Same w5 w') => wl_fork (HW5.out.log.i.same kk) (Nat.le_trans HW5.out.lok.hasl (show 61184 ≤ 1000000 by decide)) (Nat.le_trans HW5.out.lok.wl (show 61184 ≤ 1000000 by decide)) d2 bs2 m2 (Nat.lt_of_lt_of_le HL1.out.2.1 kk.size) (Nat.lt_of_lt_of_le HL1.out.2.2.1 kk.size) (Nat.lt_of_lt_of_le HL1.out.2.2.2 kk.size)
        go_upto_region 15 with fail
        refine wp_region_T (S := (fun w' : World => ∀ i, w'.cell? ⟨x, i, none⟩ = (#[.pointer (some ⟨d1, 0, none⟩), .pointer (some ⟨g, 0, none⟩), .slice a1 D.s.length c1, .bool D.off, .int .i64 D.calls, .int .i64 D.after, .bool D.done, .int .i64 (L.first : Nat), .int .i64 (L.count : Nat), .int .i64 (L.epoch : Nat), .int .i64 (L.at_ : Nat), .slice ha L.has.length hc, .slice wa L.wait.length wc, .bool L.closed, .bool L.bad] : Array Value)[i]?)) 12 (by kernel_rfl) (QX.out _ (Kept.refl _ _).drew) (fun hHeld hDn => ?_)
        refine wpT_take (i := 0) (t := 104) (v := ?_) rfl rfl rfl (by kernel_rfl) (by kernel_rfl) (by kernel_rfl) (by kernel_rfl) (fun _ _ _ h => h) (Or.inl ⟨by rfl, ?_⟩) hHeld hDn (fun hDn' => ?_)
        rotate_left
        · (intro w hSw; (try dsimp only at hSw); go_simp; (try with_reducible rfl))
        clear hDn; have hDn := hDn'; clear hDn'
        simp only [Act.put, List.setIfInBounds_toArray, List.set_cons_zero, List.set_cons_succ]
        refine wpT_take (i := 1) (t := 105) (v := ?_) rfl rfl rfl (by kernel_rfl) (by kernel_rfl) (by kernel_rfl) (by kernel_rfl) (fun _ _ _ h => h) (Or.inl ⟨by rfl, ?_⟩) hHeld hDn (fun hDn' => ?_)
        rotate_left
        · (intro w hSw; (try dsimp only at hSw); go_simp; (try with_reducible rfl))
        clear hDn; have hDn := hDn'; clear hDn'
        simp only [Act.put, List.setIfInBounds_toArray, List.set_cons_zero, List.set_cons_succ]
        refine wpT_take (i := 2) (t := 106) (v := ?_) rfl rfl rfl (by kernel_rfl) (by kernel_rfl) (by kernel_rfl) (by kernel_rfl) (fun _ _ _ h => h) (Or.inl ⟨by rfl, ?_⟩) hHeld hDn (fun hDn' => ?_)
        rotate_left
        · (intro w hSw; (try dsimp only at hSw); go_simp; (try with_reducible rfl))
        clear hDn; have hDn := hDn'; clear hDn'
        simp only [Act.put, List.setIfInBounds_toArray, List.set_cons_zero, List.set_cons_succ]
        refine wpT_take (i := 3) (t := 107) (v := ?_) rfl rfl rfl (by kernel_rfl) (by kernel_rfl) (by kernel_rfl) (by kernel_rfl) (fun _ _ _ h => h) (Or.inl ⟨by rfl, ?_⟩) hHeld hDn (fun hDn' => ?_)
        rotate_left
        · (intro w hSw; (try dsimp only at hSw); go_simp; (try with_reducible rfl))
        clear hDn; have hDn := hDn'; clear hDn'
        simp only [Act.put, List.setIfInBounds_toArray, List.set_cons_zero, List.set_cons_succ]
        refine wpT_take (i := 4) (t := 108) (v := ?_) rfl rfl rfl (by kernel_rfl) (by kernel_rfl) (by kernel_rfl) (by kernel_rfl) (fun _ _ _ h => h) (Or.inl ⟨by rfl, ?_⟩) hHeld hDn (fun hDn' => ?_)
        rotate_left
        · (intro w hSw; (try dsimp only at hSw); go_simp; (try with_reducible rfl))
        clear hDn; have hDn := hDn'; clear hDn'
        simp only [Act.put, List.setIfInBounds_toArray, List.set_cons_zero, List.set_cons_succ]
        refine wpT_take (i := 5) (t := 109) (v := ?_) rfl rfl rfl (by kernel_rfl) (by kernel_rfl) (by kernel_rfl) (by kernel_rfl) (fun _ _ _ h => h) (Or.inl ⟨by rfl, ?_⟩) hHeld hDn (fun hDn' => ?_)
        rotate_left
        · (intro w hSw; (try dsimp only at hSw); go_simp; (try with_reducible rfl))
        clear hDn; have hDn := hDn'; clear hDn'
        simp only [Act.put, List.setIfInBounds_toArray, List.set_cons_zero, List.set_cons_succ]
        refine wpT_take (i := 7) (t := 111) (v := ?_) rfl rfl rfl (by kernel_rfl) (by kernel_rfl) (by kernel_rfl) (by kernel_rfl) (fun _ _ _ h => h) (Or.inl ⟨by rfl, ?_⟩) hHeld hDn (fun hDn' => ?_)
        rotate_left
        · (intro w hSw; (try dsimp only at hSw); go_simp; (try with_reducible rfl))
        clear hDn; have hDn := hDn'; clear hDn'
        simp only [Act.put, List.setIfInBounds_toArray, List.set_cons_zero, List.set_cons_succ]
        refine wpT_take (i := 8) (t := 112) (v := ?_) rfl rfl rfl (by kernel_rfl) (by kernel_rfl) (by kernel_rfl) (by kernel_rfl) (fun _ _ _ h => h) (Or.inl ⟨by rfl, ?_⟩) hHeld hDn (fun hDn' => ?_)
        rotate_left
        · (intro w hSw; (try dsimp only at hSw); go_simp; (try with_reducible rfl))
        clear hDn; have hDn := hDn'; clear hDn'
        simp only [Act.put, List.setIfInBounds_toArray, List.set_cons_zero, List.set_cons_succ]
        refine wpT_take (i := 9) (t := 113) (v := ?_) rfl rfl rfl (by kernel_rfl) (by kernel_rfl) (by kernel_rfl) (by kernel_rfl) (fun _ _ _ h => h) (Or.inl ⟨by rfl, ?_⟩) hHeld hDn (fun hDn' => ?_)
        rotate_left
        · (intro w hSw; (try dsimp only at hSw); go_simp; (try with_reducible rfl))
        clear hDn; have hDn := hDn'; clear hDn'
        simp only [Act.put, List.setIfInBounds_toArray, List.set_cons_zero, List.set_cons_succ]
        refine wpT_take (i := 10) (t := 114) (v := ?_) rfl rfl rfl (by kernel_rfl) (by kernel_rfl) (by kernel_rfl) (by kernel_rfl) (fun _ _ _ h => h) (Or.inl ⟨by rfl, ?_⟩) hHeld hDn (fun hDn' => ?_)
        rotate_left
        · (intro w hSw; (try dsimp only at hSw); go_simp; (try with_reducible rfl))
        clear hDn; have hDn := hDn'; clear hDn'
        simp only [Act.put, List.setIfInBounds_toArray, List.set_cons_zero, List.set_cons_succ]
        refine wpT_one (i := 6) rfl (by kernel_rfl) hDn (fun K' hK => ?_)
        go_simp
        with_reducible refine (WF.out _ (Kept.refl _ _).drew).mono ?_
        rintro e w6 ⟨⟨g2, rfl, hlg, hg2⟩, k6⟩
        have k6' : Same w5 w6 := (Kept.refl _ w5).drew.trans k6
        have hg2' : w5.heap.size ≤ g2 := Nat.le_trans ((Kept.refl (fun _ => False) w5).drew).size hg2
        refine hK.out _ _ ?_ (fun hHeld2 hDn2 => ?_)
        · exact QX.out _ k6'
        clear hK K' hHeld hDn
        have hHeld := hHeld2; have hDn := hDn2
        clear hHeld2 hDn2
        have hgl := hlg.i.blk
        have LG6 := Lib.hid (hlg.mono (Q := fun j => Z ≤ j) (fun j hj q => by have := HL1.out; have := ((Kept.refl (fun _ => False) w5).drew).size; omega))
        have K6 := Lib.hid k6'
        clear hlg k6 p0 f0 z0
        have b6 := HW5.out.box.kept k6' (fun h => h)
        have p0 := cell_blk b6
        simp only [wdV] at p0
        have f0 := fun i => b6.free i
        have z0 := b6.lt
        clear b6 k6'
        refine wpT_take (i := 11) (t := 115) (v := ?_) rfl rfl rfl (by kernel_rfl) (by kernel_rfl) (by kernel_rfl) (by kernel_rfl) (fun _ _ _ h => h) (Or.inl ⟨by rfl, ?_⟩) hHeld hDn (fun hDn' => ?_)
        rotate_left
        · (intro w hSw; (try dsimp only at hSw); go_simp; (try with_reducible rfl))
        clear hDn; have hDn := hDn'; clear hDn'
        simp only [Act.put, List.setIfInBounds_toArray, List.set_cons_zero, List.set_cons_succ]
        refine wpT_last rfl (by kernel_rfl) hDn (fun K hK => ?_)
        go_simp
        refine hK.out _ _ (fun hDn' => ?_)
        clear hK K hDn hHeld; have hDn := hDn'; clear hDn'
        refine wpT_takeE (i := 13) (t := 19) (v := ?_) rfl (by kernel_rfl) rfl rfl (by kernel_rfl) (by kernel_rfl) (by kernel_rfl) (fun _ _ _ h => h) (Or.inl ⟨by rfl, ?_⟩) hDn (fun hDn' => ?_)
        rotate_left
        · (intro w _; go_simp; (try with_reducible rfl))
        clear hDn; have hDn := hDn'; clear hDn'
        simp only [Act.put, List.setIfInBounds_toArray, List.set_cons_zero, List.set_cons_succ]
        refine wpT_done (by kernel_rfl) ?_ _
        clear p0 f0 z0 hDn QX WF
        have hz5 := K6.out.size
        obtain ⟨y, hy⟩ : ∃ y, w6.heap.size = y := ⟨_, rfl⟩
        rw [hy]
        refine cutE (fun wn => W10 wn y d2 bs2 cap3 m2 g2 D L a1 c1 ha hc wa wc ∧ Same w5 wn) ⟨⟨Blk.new' _ _ _ hy.symm, (HD5.out.same K6.out).same ((Kept.refl _ _).alloc _), ?_, ?_, HW5.out.lok, ?_, by omega⟩, K6.out.alloc _⟩ ?_
        · exact (LG6.out.mono (Q := fun j => j ≠ y) (fun j hj _ => by omega)).same ((Kept.refl _ _).alloc _)
        · have r7 := HW5.out.ref.same (K6.out.alloc (.cells #[.pointer (some ⟨d2, 0, none⟩), .pointer (some ⟨g2, 0, none⟩), .slice a1 D.s.length c1, .bool D.off, .int .i64 D.calls, .int .i64 D.after, .bool D.done, .int .i64 (L.first : Nat), .int .i64 (L.count : Nat), .int .i64 (L.epoch : Nat), .int .i64 (L.at_ : Nat), .slice ha L.has.length hc, .slice wa L.wait.length wc, .bool L.closed, .bool L.bad] 52))
          have hq : ∀ j, j < Z → j ≠ g2 ∧ ¬ dod d2 bs2 m2 j ∧ j ≠ y := by
            intro j hj
            have := HL1.out
            have := HWS.out
            refine ⟨by omega, ?_, by omega⟩
            rintro (q | q | q) <;> omega
          exact ⟨r7.s, r7.has, r7.hnil, r7.wt, r7.wnil, fun z hz => hq _ (RA.out z hz), fun z hz => hq _ (RH.out z hz), fun z hz => hq _ (RW.out z hz), r7.lh, r7.lw⟩
        · have := HL1.out
          rintro (q | q | q) <;> omega
        rintro w7 ⟨hw7, k7⟩
        have HF7 := Lib.hid hw7
        have KF7 := Lib.hid k7
        have hz7 := k7.size
        have KM7 := Lib.hid (KM5.out.trans k7)
        have HY := Lib.hid (show Z ≤ g2 ∧ Z ≤ y ∧ Z ≤ d2 ∧ Z ≤ bs2 ∧ Z ≤ m2 from by have := HL1.out; exact ⟨by omega, by omega, by omega, by omega, by omega⟩)
        clear hw7 k7 K6 LG6 HD5 RA RH RW KF7 HW5 KM5 HL1 K5 hz5 hz7 hg2 hg2' hgl
        go_wp2_with fail
        generalize wr = wm at *
        go_loopw [20] (fun t wr => ∃ (i g : Nat) (D : Dsk) (L : Lg) (a1 : Option Addr) (c1 : Nat) (ha : Option Addr) (hc : Nat) (wa : Option Addr) (wc : Nat), t = .int .i64 i ∧ i ≤ len2 ∧ W10 wr y d2 bs2 cap3 m2 g D L a1 c1 ha hc wa wc ∧ D.s.length = 20 ∧ Z ≤ g ∧ Same wm wr) (fun t _ => len2 - (intOf t).toNat)
        case atStart => exact ⟨0, g2, D, L, a1, c1, ha, hc, wa, wc, rfl, Nat.zero_le _, HF7.out, DL.out, HY.out.1, KM7.out⟩
        case round =>
          clear HF7 KM7
          obtain ⟨i', g', D', L', a1', c1', ha', hc', wa', wc', rfl, hi', hw', hdl', hg', hk'⟩ := hrel
          have hl16' := HL2.out
          have HWf := Lib.hid hw'
          have KK := Lib.hid hk'
          have DLf := Lib.hid hdl'
          clear hw' hk' hdl'
          by_cases hgo' : i' < len2
          · obtain ⟨b, off, rfl, hb, hall⟩ := HA2.out.resolve_left (by omega)
            have AC := Lib.hid ((hall i' hgo').same (KM.out.trans KK.out) hb)
            have SHI := Lib.hid (SH2.out i' hgo')
            have AT := Lib.hid (hall i' hgo').at_
            have hoff : (A2 i').fs = [] ∨ ∀ z, (A2 i').fa = some z → ¬ dod d2 bs2 m2 z.block := by
              rcases AT.out with q | ⟨b', o', q, hb', _⟩
              · exact .inl q
              · refine .inr (fun z hz => ?_)
                rw [q] at hz
                cases hz
                have := HY.out
                have := HWS.out
                rintro (z | z | z) <;> (dsimp only at z; omega)
            have DA := Lib.hid (wd_any HWf.out (A2 i') ⟨AC.out.kb2, AC.out.nb2, AC.out.cb, AC.out.ub, AC.out.fl_, AC.out.fc_, AC.out.fb, AC.out.at_, hoff⟩ (by have := SHI.out; omega) AC.out.sb (by intro z; have := DLf.out; rw [z] at this; cases this))
            rw [DLf.out] at DA
            unfold actV at DA
            clear hoff AT SHI
            generalize A2 i' = α at *
            obtain ⟨k, s, n, kq, nq, cc, u, dn, fa, fl, fc, fs⟩ := α
            obtain ⟨v0, v1, v2, v3, v4, v5, v6, v7, v8, -, -, -, -, -, -, -, -, -, -, -⟩ := AC.out
            dsimp only at v0 v1 v2 v3 v4 v5 v6 v7 v8 DA
            have g1' : (i' : Int) < (len2 : Int) := by omega
            have gz' : (0 : Int) ≤ (i' : Int) := by omega
            clear hall AC
            go_wp2_with fail
            with_reducible refine DA.out.mono ?_
            rintro e w8 ⟨g5, D5, L5, a5, c5, ha5, hc5, wa5, wc5, rfl, hdl5, hw5, hg5, k5⟩
            have HW5 := Lib.hid hw5
            have K5 := Lib.hid (KK.out.step k5 (fun j hj z => by have := HY.out; have := HZ.out; rcases z with z | z | z | z | z <;> omega))
            have HD5 := Lib.hid hdl5
            have hsz' := KK.out.size
            have hz0' := HZ.out
            clear hw5 k5 hdl5 DA HWf KK v0 v1 v2 v3 v4 v5 v6 v7 v8
            go_wp2_with fail
            go_roundw
            case rel => exact ⟨i' + 1, g5, D5, L5, a5, _, ha5, hc5, wa5, wc5, by go_num, by omega, HW5.out, HD5.out, by omega, K5.out⟩
            case measure => simp [intOf]; omega
          · have g1' : ¬ (i' : Int) < (len2 : Int) := by omega
            have KT := Lib.hid (KM.out.trans KK.out)
            have HX := Lib.hid (HM.out.same KK.out)
            have HXf := Lib.hid HWf.out
            clear HM KM HWf KK HZ HY HWS
            go_wp2_with fail
            with_reducible refine (nl_new _ _ _ _).mono ?_
            rintro e wn ⟨rfl, kn⟩
            have KT' := Lib.hid (KT.out.trans kn)
            have HX' := Lib.hid (HX.out.same kn)
            have HXf' := Lib.hid (HXf.out.same kn)
            clear KT HX HXf kn
            have KT := KT'; have HX := HX'; have HXf := HXf'
            clear KT' HX' HXf'
            go_wp2_with fail
            with_reducible refine (nl_open _ _ _ _).mono ?_
            rintro e wn ⟨rfl, kn⟩
            have KT' := Lib.hid (KT.out.trans kn)
            have HX' := Lib.hid (HX.out.same kn)
            have HXf' := Lib.hid (HXf.out.same kn)
            clear KT HX HXf kn
            have KT := KT'; have HX := HX'; have HXf := HXf'
            clear KT' HX' HXf'
            go_wp2_with fail
            with_reducible refine (nl_add _ _).mono ?_
            rintro e wn ⟨rfl, kn⟩
            have KT' := Lib.hid (KT.out.trans kn)
            have HX' := Lib.hid (HX.out.same kn)
            have HXf' := Lib.hid (HXf.out.same kn)
            clear KT HX HXf kn
            have KT := KT'; have HX := HX'; have HXf := HXf'
            clear KT' HX' HXf'
            go_wp2_with fail
            with_reducible refine (nl_sync _).mono ?_
            rintro e wn ⟨rfl, kn⟩
            have KT' := Lib.hid (KT.out.trans kn)
            have HX' := Lib.hid (HX.out.same kn)
            have HXf' := Lib.hid (HXf.out.same kn)
            clear KT HX HXf kn
            have KT := KT'; have HX := HX'; have HXf := HXf'
            clear KT' HX' HXf'
            go_wp2_with fail
            with_reducible refine (nl_restart _ _).mono ?_
            rintro e wn ⟨rfl, kn⟩
            have KT' := Lib.hid (KT.out.trans kn)
            have HX' := Lib.hid (HX.out.same kn)
            have HXf' := Lib.hid (HXf.out.same kn)
            clear KT HX HXf kn
            have KT := KT'; have HX := HX'; have HXf := HXf'
            clear KT' HX' HXf'
            go_wp2_with fail
            with_reducible refine (nl_records _).mono ?_
            rintro e wn ⟨rfl, kn⟩
            have KT' := Lib.hid (KT.out.trans kn)
            have HX' := Lib.hid (HX.out.same kn)
            have HXf' := Lib.hid (HXf.out.same kn)
            clear KT HX HXf kn
            have KT := KT'; have HX := HX'; have HXf := HXf'
            clear KT' HX' HXf'
            go_wp2_with fail
            with_reducible refine (nl_waits _).mono ?_
            rintro e wn ⟨rfl, kn⟩
            have KT' := Lib.hid (KT.out.trans kn)
            have HX' := Lib.hid (HX.out.same kn)
            have HXf' := Lib.hid (HXf.out.same kn)
            clear KT HX HXf kn
            have KT := KT'; have HX := HX'; have HXf := HXf'
            clear KT' HX' HXf'
            go_wp2_with fail
            with_reducible refine (nl_epoch _).mono ?_
            rintro e wn ⟨rfl, kn⟩
            have KT' := Lib.hid (KT.out.trans kn)
            have HX' := Lib.hid (HX.out.same kn)
            have HXf' := Lib.hid (HXf.out.same kn)
            clear KT HX HXf kn
            have KT := KT'; have HX := HX'; have HXf := HXf'
            clear KT' HX' HXf'
            go_wp2_with fail
            with_reducible refine (nl_left _).mono ?_
            rintro e wn ⟨rfl, kn⟩
            have KT' := Lib.hid (KT.out.trans kn)
            have HX' := Lib.hid (HX.out.same kn)
            have HXf' := Lib.hid (HXf.out.same kn)
            clear KT HX HXf kn
            have KT := KT'; have HX := HX'; have HXf := HXf'
            clear KT' HX' HXf'
            go_wp2_with fail
            with_reducible refine (nl_closed _).mono ?_
            rintro e wn ⟨rfl, kn⟩
            have KT' := Lib.hid (KT.out.trans kn)
            have HX' := Lib.hid (HX.out.same kn)
            have HXf' := Lib.hid (HXf.out.same kn)
            clear KT HX HXf kn
            have KT := KT'; have HX := HX'; have HXf := HXf'
            clear KT' HX' HXf'
            go_wp2_with fail
            with_reducible refine (nl_bad _).mono ?_
            rintro e wn ⟨rfl, kn⟩
            have KT' := Lib.hid (KT.out.trans kn)
            have HX' := Lib.hid (HX.out.same kn)
            have HXf' := Lib.hid (HXf.out.same kn)
            clear KT HX HXf kn
            have KT := KT'; have HX := HX'; have HXf := HXf'
            clear KT' HX' HXf'
            go_wp2_with fail
            with_reducible refine (nl_fork _ _).mono ?_
            rintro e wn ⟨rfl, kn⟩
            have KT' := Lib.hid (KT.out.trans kn)
            have HX' := Lib.hid (HX.out.same kn)
            have HXf' := Lib.hid (HXf.out.same kn)
            clear KT HX HXf kn
            have KT := KT'; have HX := HX'; have HXf := HXf'
            clear KT' HX' HXf'
            have p0 := cell_blk HX.out.box
            simp only [wdV] at p0
            have f0 := fun i => HX.out.box.free i
            have z0 := HX.out.box.lt
            go_wp2_with fail
            with_reducible refine (nl_fork2 _ _).mono ?_
            rintro e wn ⟨rfl, kn⟩
            have KT' := Lib.hid (KT.out.trans kn)
            have HX' := Lib.hid (HX.out.same kn)
            have HXf' := Lib.hid (HXf.out.same kn)
            clear KT HX HXf kn p0 f0 z0
            have KT := KT'; have HX := HX'; have HXf := HXf'
            clear KT' HX' HXf'
            go_wp2_with fail
            with_reducible refine (wd_same HXf.out).mono ?_
            rintro e wn ⟨rfl, kn⟩
            have KT' := Lib.hid (KT.out.trans kn)
            have HX' := Lib.hid (HX.out.same kn)
            have HXf' := Lib.hid (HXf.out.same kn)
            clear KT HX HXf kn
            have KT := KT'; have HX := HX'; have HXf := HXf'
            clear KT' HX' HXf'
            go_wp2_with fail
            with_reducible refine (wd_same HX.out).mono ?_
            rintro e wn ⟨rfl, kn⟩
            have KT' := Lib.hid (KT.out.trans kn)
            have HX' := Lib.hid (HX.out.same kn)
            have HXf' := Lib.hid (HXf.out.same kn)
            clear KT HX HXf kn
            have KT := KT'; have HX := HX'; have HXf := HXf'
            clear KT' HX' HXf'
            go_wp2_with fail
            with_reducible refine (aw10 _).mono ?_
            rintro e wn ⟨rfl, kn⟩
            go_wp2_with fail
            go_ret
            exact ⟨rfl, KT.out.trans kn⟩
  · clear hr1 hr2 hacts hacts2
    cases r1
    · clear hr
      go_enter Tryz.func4, Tryz.ntmps4
      go_wp2_with fail
      refine Calls.fr1 ?_
      intro w0 F' K' hz'
      have K := Lib.hid K'
      clear F' K' hz'
      with_reducible refine (FW1.out _ K.out).mono ?_
      rintro e w1 ⟨rfl, rfl⟩
      go_wp2_with fail
      with_reducible refine (aw10 _).mono ?_
      rintro e w6 ⟨rfl, k6⟩
      go_wp2_with fail
      go_ret
      exact ⟨rfl, K.out.trans k6⟩
    · obtain rfl : r2 = false := by cases r2; rfl; exact absurd ⟨rfl, rfl⟩ hr
      clear hr
      go_enter Tryz.func4, Tryz.ntmps4
      go_wp2_with fail
      refine Calls.fr1 ?_
      intro w0 F' K' hz'
      have K := Lib.hid K'
      clear F' K' hz'
      with_reducible refine (FW1.out _ K.out).mono ?_
      rintro e w1 ⟨rfl, rfl⟩
      go_wp2_with fail
      with_reducible refine (FW2.out _ K.out).mono ?_
      rintro e w1 ⟨rfl, rfl⟩
      go_wp2_with fail
      with_reducible refine (aw10 _).mono ?_
      rintro e w6 ⟨rfl, k6⟩
      go_wp2_with fail
      go_ret
      exact ⟨rfl, K.out.trans k6⟩
end
end Go.Proofs.YtlmpkonfclnceaaGreat
