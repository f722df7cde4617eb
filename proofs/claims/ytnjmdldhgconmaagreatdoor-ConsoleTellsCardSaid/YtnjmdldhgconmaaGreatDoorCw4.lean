/- Cw4: ConsoleTells, whatever the input. -/
import Derived.Test.YtnjmdldhgconmaaGreatDoorCw1
import Derived.Test.YtnjmdldhgconmaaGreatDoorCr9
namespace Go.Proofs.YtnjmdldhgconmaaGreatDoor
open Go.RowKit Go.Sort

theorem co_toldX (s : Stp) (fa : Option Addr) (ca : Nat) (id ts : Int) (val : Tx) (is : Bool) (pa : Option Addr) (pn pc : Nat) (ps : List (Tx × Tx)) (e : Int) (w : World)
    (i1 : -9223372036854775807 ≤ id) (i2 : id ≤ 9223372036854775807) (t1 : -9223372036854775807 ≤ ts) (t2 : ts ≤ 9223372036854775807) (hv : val.length ≤ 1000) (e1 : -9223372036854775807 ≤ e) (e2 : e ≤ 9223372036854775807)
    (hpn : pn = ps.length) (hps : ps.length ≤ 40) (hpl : ∀ p ∈ ps, p.1.length ≤ 200 ∧ p.2.length ≤ 200) (hpa : ElsAt ptE w pa ps) :
    Calls Tryz.prog 21 #[.agg #[.int .u8 (s.k : Nat), .int .i64 s.txn, encStr s.key, encStr s.val, .int .i64 s.n, .bool s.d, .slice fa s.f.length ca], .agg #[.int .i64 id, .int .i64 ts, encStr val, .bool is, .slice pa pn pc], .int .i64 e] w fun e' w' => ∃ v, e' = .returned v ∧ WordsV w' (toldT s.k id ts val is ps e) v ∧ Same w w' := by
  by_cases h : e ≠ 0 ∨ s.k ≠ 4
  · exact co_told s fa ca id ts val is pa pn pc ps e w i1 i2 t1 t2 hv e1 e2 h
  · obtain rfl : e = 0 := Classical.byContradiction fun q => h (.inl q)
    have hk : s.k = 4 := Classical.byContradiction fun q => h (.inr q)
    exact co_told4 s hk fa ca id ts val is pa pn pc ps w hpn hps hpl hpa
theorem cr_toldX (s : Stp) (fa : Option Addr) (ca : Nat) (id ts : Int) (val : Tx) (is : Bool) (pa : Option Addr) (pn pc : Nat) (ps : List (Tx × Tx)) (e : Int) (w : World)
    (i1 : -9223372036854775807 ≤ id) (i2 : id ≤ 9223372036854775807) (t1 : -9223372036854775807 ≤ ts) (t2 : ts ≤ 9223372036854775807) (hv : val.length ≤ 1000) (e1 : -9223372036854775807 ≤ e) (e2 : e ≤ 9223372036854775807)
    (hpn : pn = ps.length) (hps : ps.length ≤ 40) (hpl : ∀ p ∈ ps, p.1.length ≤ 200 ∧ p.2.length ≤ 200) (hpa : ElsAt ptE w pa ps) :
    Calls Tryz.prog 22 #[.agg #[.int .u8 (s.k : Nat), .int .i64 s.txn, encStr s.key, encStr s.val, .int .i64 s.n, .bool s.d, .slice fa s.f.length ca], .agg #[.int .i64 id, .int .i64 ts, encStr val, .bool is, .slice pa pn pc], .int .i64 e] w fun e' w' => ∃ v, e' = .returned v ∧ WordsV w' (toldT s.k id ts val is ps e) v ∧ Same w w' := by
  by_cases h : e ≠ 0 ∨ s.k ≠ 4
  · exact cr_told s fa ca id ts val is pa pn pc ps e w i1 i2 t1 t2 hv e1 e2 h
  · obtain rfl : e = 0 := Classical.byContradiction fun q => h (.inl q)
    have hk : s.k = 4 := Classical.byContradiction fun q => h (.inr q)
    exact cr_told4 s hk fa ca id ts val is pa pn pc ps w hpn hps hpl hpa
theorem toldT_len (k : Nat) (id ts : Int) (val : Tx) (is : Bool) (ps : List (Tx × Tx)) (e : Int) (h : ps.length ≤ 40) : (toldT k id ts val is ps e).length ≤ 100 := by
  unfold toldT
  split
  · simp
  · split <;> (try split) <;> simp <;> omega
set_option maxRecDepth 100000 in
set_option maxHeartbeats 12800000 in
theorem tells27_any (w : World) (hT : TabOK w) (hM : MaxOK w) (s : Stp) (h1 : -9223372036854775808 ≤ s.txn) (h2 : s.txn ≤ 9223372036854775807) (h3 : -9223372036854775808 ≤ s.n) (h4 : s.n ≤ 9223372036854775807) (fa : Option Addr) (ca : Nat) (hA : NatsAt w .u8 fa (natsU s.f))
    (id ts : Int) (val : Tx) (is : Bool) (pa : Option Addr) (pn pc : Nat) (ps : List (Tx × Tx)) (hpn : pn = ps.length) (hpa : ElsAt ptE w pa ps) (hsz : ∀ p ∈ ps, p.1.length ≤ 140737488351232 ∧ p.2.length ≤ 140737488351232) (e : Nat) (he : e < 256) :
    Calls Tryz.prog 4 #[.agg #[.int .u8 (s.k : Nat), .int .i64 s.txn, encStr s.key, encStr s.val, .int .i64 s.n, .bool s.d, .slice fa s.f.length ca], .agg #[.int .i64 id, .int .i64 ts, encStr val, .bool is, .slice pa pn pc], .int .u8 (e : Nat)] w fun e' w' => e' = .returned (.bool true) ∧ Same w w' := by
  have AW := Lib.hid (fun w' (k : Same w w') => aw27 w' (hT.same k) (hM.same k))
  have LG := Lib.hid (fun w => cr_light s fa ca w)
  have OKS := Lib.hid (fun (h : lightS s = true) => show StpOK s by
    unfold lightS at h
    simp only [Bool.and_eq_true, decide_eq_true_eq] at h
    exact ⟨h1, h2, h3, h4, by omega, by omega, by omega⟩)
  have L1 := Lib.hid (fun (ok : StpOK s) w' (k : Same w w') => co_line s ok fa ca w' (hA.same k) (hM.same k))
  have L2 := Lib.hid (fun (ok : StpOK s) w' (k : Same w w') => cr_line s ok fa ca w' (hA.same k))
  have TO := Lib.hid (fun b1 b2 b3 b4 b5 b6 b7 w' (k : Same w w') => co_toldX s fa ca id ts val is pa pn pc ps (e : Int) w' b1 b2 b3 b4 b5 (by omega) (by omega) hpn b6 b7 (hpa.same k))
  have TR := Lib.hid (fun b1 b2 b3 b4 b5 b6 b7 w' (k : Same w w') => cr_toldX s fa ca id ts val is pa pn pc ps (e : Int) w' b1 b2 b3 b4 b5 (by omega) (by omega) hpn b6 b7 (hpa.same k))
  have TLN := Lib.hid (fun h => toldT_len s.k id ts val is ps (e : Int) h)
  obtain ⟨TT, hTT⟩ : ∃ t, toldT s.k id ts val is ps (e : Int) = t := ⟨_, rfl⟩
  rw [hTT] at TO TR TLN
  have PA := Lib.hid hpa; have PN := Lib.hid hpn; have SZ := Lib.hid hsz
  clear hTT hT hM hA hpa hpn hsz
  obtain ⟨lg, hlg⟩ : ∃ b, lightS s = b := ⟨_, rfl⟩
  rw [hlg] at LG OKS
  clear hlg
  unfold lineV at L1 L2
  obtain ⟨lw, hlw⟩ : ∃ t, (lineT s).getD [] = t := ⟨_, rfl⟩
  obtain ⟨lk, hlk⟩ : ∃ t, (lineT s).isSome = t := ⟨_, rfl⟩
  rw [hlw, hlk] at L1 L2
  clear hlw hlk
  obtain ⟨y, hyy⟩ : ∃ y, w.heap.size = y := ⟨_, rfl⟩
  have k0 : Same w ((w.alloc (.cells #[.int .u8 (s.k : Nat), .int .i64 s.txn, encStr s.key, encStr s.val, .int .i64 s.n, .bool s.d, .slice fa s.f.length ca] 30)).alloc (.cells #[.int .i64 id, .int .i64 ts, encStr val, .bool is, .slice pa pn pc] 39)) := ((Kept.refl _ w).alloc _).alloc _
  have b0 : Blk ((w.alloc (.cells #[.int .u8 (s.k : Nat), .int .i64 s.txn, encStr s.key, encStr s.val, .int .i64 s.n, .bool s.d, .slice fa s.f.length ca] 30)).alloc (.cells #[.int .i64 id, .int .i64 ts, encStr val, .bool is, .slice pa pn pc] 39)) y #[.int .u8 (s.k : Nat), .int .i64 s.txn, encStr s.key, encStr s.val, .int .i64 s.n, .bool s.d, .slice fa s.f.length ca] 30 := (Blk.new' _ _ _ hyy.symm).alloc _
  have c0 : Blk ((w.alloc (.cells #[.int .u8 (s.k : Nat), .int .i64 s.txn, encStr s.key, encStr s.val, .int .i64 s.n, .bool s.d, .slice fa s.f.length ca] 30)).alloc (.cells #[.int .i64 id, .int .i64 ts, encStr val, .bool is, .slice pa pn pc] 39)) (y + 1) #[.int .i64 id, .int .i64 ts, encStr val, .bool is, .slice pa pn pc] 39 := Blk.new' _ _ _ (by simp [hyy])
  obtain ⟨sk, tx, key, sva, n, d, f⟩ := s
  simp only at h1 h2 h3 h4 LG OKS L1 L2 TO TR k0 b0 c0 ⊢
  go_enter Tryz.func4, Tryz.ntmps4
  go_upto_region 1 with fail
  refine cutC (fun wn => Blk wn y #[.int .u8 (sk : Nat), .int .i64 tx, encStr key, encStr sva, .int .i64 n, .bool d, .slice fa f.length ca] 30 ∧ Blk wn (y + 1) #[.int .i64 id, .int .i64 ts, encStr val, .bool is, .slice pa pn pc] 39 ∧ Same w wn) ⟨b0, c0, k0⟩ ?_
  clear b0 c0 k0
  rintro w0 ⟨b0, c0, k0⟩
  have B7 := Lib.hid (fun w' (k : Same w0 w') => b0.kept k (fun h => h))
  have C7 := Lib.hid (fun w' (k : Same w0 w') => c0.kept k (fun h => h))
  have K0 := Lib.hid k0
  have p0 := cell_blk b0 0
  have p1 := cell_blk b0 1
  have p2 := cell_blk b0 2
  have p3 := cell_blk b0 3
  have p4 := cell_blk b0 4
  have p5 := cell_blk b0 5
  have p6 := cell_blk b0 6
  clear b0 c0 k0
  go_wp2_with fail
  refine (LG.out _).mono ?_
  rintro e' w1 ⟨rfl, k1⟩
  have K9 := Lib.hid (K0.out.trans k1)
  have KA := Lib.hid k1
  have p0 := cell_blk (B7.out _ k1) 0
  have p1 := cell_blk (B7.out _ k1) 1
  have p2 := cell_blk (B7.out _ k1) 2
  have p3 := cell_blk (B7.out _ k1) 3
  have p4 := cell_blk (B7.out _ k1) 4
  have p5 := cell_blk (B7.out _ k1) 5
  have p6 := cell_blk (B7.out _ k1) 6
  have cc := C7.out _ k1
  have r0 := cell_blk cc 0
  have r1 := cell_blk cc 1
  have r2 := cell_blk cc 2
  have r3 := cell_blk cc 3
  have r4 := cell_blk cc 4
  clear k1 LG cc
  cases lg with
  | false =>
    go_wp2_with fail
    refine (AW.out _ K9.out).mono ?_
    rintro e w9 ⟨rfl, k9⟩
    have K10 := Lib.hid (K9.out.trans k9)
    clear k9
    go_wp2_with fail
    go_ret
    exact ⟨rfl, K10.out⟩
  | true =>
  by_cases g1 : 40 < pn
  · have g1' : (40 : Int) < (pn : Int) := by omega
    go_wp2_with fail
    refine (AW.out _ K9.out).mono ?_
    rintro e w9 ⟨rfl, k9⟩
    have K10 := Lib.hid (K9.out.trans k9)
    clear k9
    go_wp2_with fail
    go_ret
    exact ⟨rfl, K10.out⟩
  have g1' : ¬ (40 : Int) < (pn : Int) := by omega
  by_cases g2 : 100 < val.length
  · have g2' : (100 : Int) < (val.length : Int) := by omega
    go_wp2_with fail
    refine (AW.out _ K9.out).mono ?_
    rintro e w9 ⟨rfl, k9⟩
    have K10 := Lib.hid (K9.out.trans k9)
    clear k9
    go_wp2_with fail
    go_ret
    exact ⟨rfl, K10.out⟩
  have g2' : ¬ (100 : Int) < (val.length : Int) := by omega
  by_cases g3 : id < -2305843009213693952
  · go_wp2_with fail
    refine (AW.out _ K9.out).mono ?_
    rintro e w9 ⟨rfl, k9⟩
    have K10 := Lib.hid (K9.out.trans k9)
    clear k9
    go_wp2_with fail
    go_ret
    exact ⟨rfl, K10.out⟩
  by_cases g4 : 2305843009213693952 < id
  · go_wp2_with fail
    refine (AW.out _ K9.out).mono ?_
    rintro e w9 ⟨rfl, k9⟩
    have K10 := Lib.hid (K9.out.trans k9)
    clear k9
    go_wp2_with fail
    go_ret
    exact ⟨rfl, K10.out⟩
  by_cases g5 : ts < -2305843009213693952
  · go_wp2_with fail
    refine (AW.out _ K9.out).mono ?_
    rintro e w9 ⟨rfl, k9⟩
    have K10 := Lib.hid (K9.out.trans k9)
    clear k9
    go_wp2_with fail
    go_ret
    exact ⟨rfl, K10.out⟩
  by_cases g6 : 2305843009213693952 < ts
  · go_wp2_with fail
    refine (AW.out _ K9.out).mono ?_
    rintro e w9 ⟨rfl, k9⟩
    have K10 := Lib.hid (K9.out.trans k9)
    clear k9
    go_wp2_with fail
    go_ret
    exact ⟨rfl, K10.out⟩
  by_cases g7 : 2305843009213693952 < tx
  · go_wp2_with fail
    refine (AW.out _ K9.out).mono ?_
    rintro e w9 ⟨rfl, k9⟩
    have K10 := Lib.hid (K9.out.trans k9)
    clear k9
    go_wp2_with fail
    go_ret
    exact ⟨rfl, K10.out⟩
  by_cases g8 : 2305843009213693952 < n
  · go_wp2_with fail
    refine (AW.out _ K9.out).mono ?_
    rintro e w9 ⟨rfl, k9⟩
    have K10 := Lib.hid (K9.out.trans k9)
    clear k9
    go_wp2_with fail
    go_ret
    exact ⟨rfl, K10.out⟩
  go_wp2_with fail
  go_loopw [7] (fun t wr => ∃ i : Nat, t = .int .i64 i ∧ i ≤ pn ∧ (∀ j p, j < i → ps[j]? = some p → p.1.length + p.2.length ≤ 200) ∧ Same w1 wr) (fun t _ => pn - (Go.RowKit.intOf t).toNat)
  case atStart => exact ⟨0, rfl, by omega, fun j p hj => absurd hj (Nat.not_lt_zero _), Kept.refl _ _⟩
  case round =>
    obtain ⟨i, rfl, hi, hall, hk⟩ := hrel
    have HAL := Lib.hid hall; have HK := Lib.hid hk
    clear hall hk
    have kq := KA.out.trans HK.out
    have p0 := cell_blk (B7.out _ kq) 0
    have p1 := cell_blk (B7.out _ kq) 1
    have p2 := cell_blk (B7.out _ kq) 2
    have p3 := cell_blk (B7.out _ kq) 3
    have p4 := cell_blk (B7.out _ kq) 4
    have p5 := cell_blk (B7.out _ kq) 5
    have p6 := cell_blk (B7.out _ kq) 6
    have cc := C7.out _ kq
    have r0 := cell_blk cc 0
    have r1 := cell_blk cc 1
    have r2 := cell_blk cc 2
    have r3 := cell_blk cc 3
    have r4 := cell_blk cc 4
    have KQ := Lib.hid kq
    clear cc kq
    by_cases hgo : i < pn
    · have i1 : (i : Int) < (pn : Int) := by omega
      have i0 : (0 : Int) ≤ (i : Int) := by omega
      obtain ⟨p, hp⟩ : ∃ p, ps[i]? = some p := ⟨_, List.getElem?_eq_getElem (by have := PN.out; omega)⟩
      obtain ⟨b, off, rfl, hcl⟩ := pt_at (PA.out.same (K9.out.trans HK.out)) hp
      obtain ⟨c0, c1⟩ := hcl wr (Kept.refl _ _)
      have HP := Lib.hid hp
      obtain ⟨z1, z2⟩ := SZ.out p (List.mem_of_getElem? hp)
      obtain ⟨p1, p2⟩ := p
      simp only at z1 z2
      simp only at c0 c1
      clear hcl hp
      by_cases hs2 : 200 < p1.length + p2.length
      · have s1 : (200 : Int) < (p1.length : Int) + (p2.length : Int) := by omega
        have s2 : (p1.length : Int) + (p2.length : Int) ≤ 9223372036854775807 := by omega
        have s3 : (-9223372036854775808 : Int) ≤ (p1.length : Int) + (p2.length : Int) := by omega
        have s4 : ¬ (p1.length : Int) + (p2.length : Int) ≤ 200 := by omega
        have KL := K9
        clear K9
        go_upto_region 8 with fail
        go_quiet (fail)
        go_wp2_with fail
        refine (AW.out _ ((KL.out.trans HK.out).drewN _)).mono ?_
        rintro e' w9 ⟨rfl, k9⟩
        have K10 := Lib.hid (((KL.out.trans HK.out).drewN _).trans k9)
        go_wp2_with fail
        go_ret
        exact ⟨rfl, K10.out⟩
      · have s1 : ¬ (200 : Int) < (p1.length : Int) + (p2.length : Int) := by omega
        have HN := Lib.hid (show ∀ j q, j < i + 1 → ps[j]? = some q → q.1.length + q.2.length ≤ 200 by
          intro j q hj hq
          rcases Nat.lt_succ_iff_lt_or_eq.1 hj with h | rfl
          · exact HAL.out j q h hq
          · rw [HP.out] at hq; cases hq; show p1.length + p2.length ≤ 200; omega)
        go_upto_region 8 with fail
        go_quiet (fail)
        go_wp2_with fail
        go_roundw
        case rel => exact ⟨i + 1, by go_num, by omega, HN.out, HK.out.drewN _⟩
        case measure => simp [Go.RowKit.intOf]; omega
    · have i1 : ¬ (i : Int) < (pn : Int) := by omega
      have e' : i = pn := by omega
      subst e'
      have hpl : ∀ p ∈ ps, p.1.length ≤ 200 ∧ p.2.length ≤ 200 := fun p hp => by
        obtain ⟨j, hj, e⟩ := List.mem_iff_getElem.1 hp
        have := HAL.out j p (by have := PN.out; omega) (by rw [List.getElem?_eq_getElem hj, e])
        omega
      have KW := Lib.hid (K9.out.trans HK.out)
      have LA := Lib.hid (L1.out (OKS.out (by trivial)) wr KW.out)
      have L2' := Lib.hid (L2.out (OKS.out (by trivial)))
      have TO' := Lib.hid (TO.out (by omega) (by omega) (by omega) (by omega) (by omega) (by have := PN.out; omega) hpl)
      have TR' := Lib.hid (TR.out (by omega) (by omega) (by omega) (by omega) (by omega) (by have := PN.out; omega) hpl)
      have TL' := Lib.hid (TLN.out (by have := PN.out; omega))
      clear L1 L2 TO TR TLN OKS hpl HAL HK K9
      go_wp2_with fail
      refine LA.out.mono ?_
      rintro e' w2 ⟨rfl, k2⟩
      have KB := Lib.hid (KQ.out.trans k2)
      have KX := Lib.hid (KW.out.trans k2)
      have p0 := cell_blk (B7.out _ (KQ.out.trans k2)) 0
      have p1 := cell_blk (B7.out _ (KQ.out.trans k2)) 1
      have p2 := cell_blk (B7.out _ (KQ.out.trans k2)) 2
      have p3 := cell_blk (B7.out _ (KQ.out.trans k2)) 3
      have p4 := cell_blk (B7.out _ (KQ.out.trans k2)) 4
      have p5 := cell_blk (B7.out _ (KQ.out.trans k2)) 5
      have p6 := cell_blk (B7.out _ (KQ.out.trans k2)) 6
      have LB := Lib.hid (L2'.out w2 (KW.out.trans k2))
      clear k2 LA KW
      go_wp2_with fail
      refine LB.out.mono ?_
      rintro e' w3 ⟨rfl, k3⟩
      have KC := Lib.hid (KB.out.trans k3)
      have KY := Lib.hid (KX.out.trans k3)
      have B3 := Lib.hid (fun w' (k : Same w3 w') => B7.out w' (KC.out.trans k)); have C3 := Lib.hid (fun w' (k : Same w3 w') => C7.out w' (KC.out.trans k))
      clear k3 LB KB KX
      have hwe : IntKind.i64.wrap ((e : Nat) : Int) = (e : Int) := by rw [IntKind.wrap_i64]; omega
      go_upto_region 12 with fail
      refine wp_region_T (S := fun w' => Same w3 w') 22 (by kernel_rfl) (Kept.refl _ _).drew (fun hHeld hDn => ?_)
      refine wpT_zs 0 91 hHeld hDn fun hDn => ?_
      refine wpT_zs 1 92 hHeld hDn fun hDn => ?_
      refine wpT_zs 2 93 (v := .bool true) hHeld hDn (fun hDn => ?_) (hv := by intro w _; go_simp)
      refine wpT_zs 3 94 hHeld hDn fun hDn => ?_
      refine wpT_zs 4 95 hHeld hDn fun hDn => ?_
      refine wpT_zs 5 96 hHeld hDn fun hDn => ?_
      refine wpT_zs 6 97 (v := .bool true) hHeld hDn (fun hDn => ?_) (hv := by intro w _; go_simp)
      refine wpT_zs 7 98 (v := .bool true) hHeld hDn (fun hDn => ?_) (hv := by intro w _; go_simp)
      refine wpT_zs 8 99 hHeld hDn fun hDn => ?_
      refine wpT_zs 9 100 (v := .agg #[.int .u8 (sk : Nat), .int .i64 tx, encStr key, encStr sva, .int .i64 n, .bool d, .slice fa f.length ca]) hHeld hDn (fun hDn => ?_) (hv := by intro w hSw; have qz := B3.out w hSw; have q0 := cell_blk qz 0; have q1 := cell_blk qz 1; have q2 := cell_blk qz 2; have q3 := cell_blk qz 3; have q4 := cell_blk qz 4; have q5 := cell_blk qz 5; have q6 := cell_blk qz 6; clear qz; go_simp)
      refine wpT_zs 10 101 (v := .agg #[.int .i64 id, .int .i64 ts, encStr val, .bool is, .slice pa i pc]) hHeld hDn (fun hDn => ?_) (hv := by intro w hSw; have qz := C3.out w hSw; have q0 := cell_blk qz 0; have q1 := cell_blk qz 1; have q2 := cell_blk qz 2; have q3 := cell_blk qz 3; have q4 := cell_blk qz 4; clear qz; go_simp)
      refine wpT_zs 11 102 hHeld hDn fun hDn => ?_
      refine wpT_zs 12 103 (v := .int .i64 (e : Nat)) hHeld hDn (fun hDn => ?_) (hv := by intro w _; go_simp)
      refine wpT_zs 14 105 (v := .agg #[.int .u8 (sk : Nat), .int .i64 tx, encStr key, encStr sva, .int .i64 n, .bool d, .slice fa f.length ca]) hHeld hDn (fun hDn => ?_) (hv := by intro w hSw; have qz := B3.out w hSw; have q0 := cell_blk qz 0; have q1 := cell_blk qz 1; have q2 := cell_blk qz 2; have q3 := cell_blk qz 3; have q4 := cell_blk qz 4; have q5 := cell_blk qz 5; have q6 := cell_blk qz 6; clear qz; go_simp)
      refine wpT_zs 15 106 (v := .agg #[.int .i64 id, .int .i64 ts, encStr val, .bool is, .slice pa i pc]) hHeld hDn (fun hDn => ?_) (hv := by intro w hSw; have qz := C3.out w hSw; have q0 := cell_blk qz 0; have q1 := cell_blk qz 1; have q2 := cell_blk qz 2; have q3 := cell_blk qz 3; have q4 := cell_blk qz 4; clear qz; go_simp)
      refine wpT_zs 16 107 hHeld hDn fun hDn => ?_
      refine wpT_zs 17 108 (v := .int .i64 (e : Nat)) hHeld hDn (fun hDn => ?_) (hv := by intro w _; go_simp)
      refine wpT_one (i := 13) rfl (by kernel_rfl) hDn (fun K' hK => ?_)
      go_simp
      refine (TO'.out _ KY.out.drew).mono ?_
      rintro e' w4 ⟨v1, rfl, ⟨a1, c1, rfl, at1, -⟩, k4⟩
      have k4 : Same w3 w4 := (Kept.refl _ w3).drew.trans k4
      refine hK.out _ _ k4 (fun hHeld2 hDn2 => ?_)
      clear hK K' hHeld hDn
      have hHeld := hHeld2; have hDn := hDn2
      clear hHeld2 hDn2
      refine wpT_one (i := 18) rfl (by kernel_rfl) hDn (fun K' hK => ?_)
      go_simp
      refine (TR'.out _ (KY.out.trans k4)).mono ?_
      rintro e' w5 ⟨v2, rfl, ⟨a2, c2, rfl, at2, -⟩, k5⟩
      refine hK.out _ _ (k4.trans k5) (fun hHeld2 hDn2 => ?_)
      clear hK K' hHeld hDn
      have hHeld := hHeld2; have hDn := hDn2
      clear hHeld2 hDn2
      refine wpT_one (i := 19) rfl (by kernel_rfl) hDn (fun K' hK => ?_)
      go_simp
      have SLN := cr_samelines a1 a2 TT.length TT.length c1 c2 TT TT w5 rfl rfl (at1.same k5) at2 (by have := TL'.out; omega) (by have := TL'.out; omega)
      rw [show decide (TT = TT) = true by simp] at SLN
      refine SLN.mono ?_
      rintro e' w6 ⟨rfl, k6⟩
      have k36 : Same w3 w6 := (k4.trans k5).trans k6
      refine hK.out _ _ k36 (fun hHeld2 hDn2 => ?_)
      clear hK K' hHeld hDn
      have hHeld := hHeld2; have hDn := hDn2
      clear hHeld2 hDn2
      refine wpT_zs 20 111 (v := .bool true) hHeld hDn (fun hDn => ?_) (hv := by intro w _; go_simp)
      refine wpT_zs 21 112 hHeld hDn fun hDn => ?_
      refine wpT_last rfl (by kernel_rfl) hDn (fun K hK => ?_)
      go_simp
      refine (AW.out _ (KY.out.trans k36)).mono ?_
      rintro e' w7 ⟨rfl, k7⟩
      have K7 := Lib.hid ((KY.out.trans k36).trans k7)
      refine hK.out _ _ (fun hDn' => ?_)
      clear hK K hDn hHeld; have hDn := hDn'; clear hDn'
      refine wpT_ze 23 114 (v := .bool true) hDn (fun hDn => ?_) (hv := by intro w _; go_simp)
      refine wpT_ze 24 6 hDn fun hDn => ?_
      refine wpT_done (by kernel_rfl) ?_ _
      clear hDn
      go_wp2_with fail
      go_ret
      exact ⟨rfl, K7.out⟩
end Go.Proofs.YtnjmdldhgconmaaGreatDoor
