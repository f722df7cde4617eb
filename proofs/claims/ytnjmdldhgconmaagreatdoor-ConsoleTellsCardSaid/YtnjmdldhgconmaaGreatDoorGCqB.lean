/- GCqB: Cq5, Cq6. -/
import Derived.Test.YtnjmdldhgconmaaGreatDoorGCrB
namespace Go.Proofs.YtnjmdldhgconmaaGreatDoor
open Go.RowKit Go.Sort

theorem co_flag (b : Bool) (w : World) : Calls Tryz.prog 55 #[.bool b] w fun e w' => e = .returned (encStr (if b then [49] else [48])) ∧ w' = w := by
  cases b with
  | false =>
    go_enter Tryz.func55, Tryz.ntmps55
    go_wp2_with fail
    go_ret
    exact ⟨rfl, rfl⟩
  | true =>
    go_enter Tryz.func55, Tryz.ntmps55
    go_wp2_with fail
    go_ret
    exact ⟨rfl, rfl⟩
/-- A step small enough. -/
def StpOK (s : Stp) : Prop := -9223372036854775808 ≤ s.txn ∧ s.txn ≤ 9223372036854775807 ∧ -9223372036854775808 ≤ s.n ∧ s.n ≤ 9223372036854775807 ∧ s.key.length ≤ 1000 ∧ s.val.length ≤ 1000 ∧ s.f.length ≤ 1000
/-- Texts told as a slice. -/
def WordsV (w : World) (ws : List Tx) (v : Value) : Prop := ∃ a c, v = .slice a ws.length c ∧ ElsAt txE w a ws ∧ ws.length ≤ c
theorem els_lit (w : World) (ws : List Tx) : ElsAt txE (w.alloc (.cells (ws.map encStr).toArray 9)) (some ⟨w.heap.size, 0, none⟩) ws := by
  refine elsAt_of (Blk.new w _ _) ?_
  rw [show ws.length * txE.n = ws.length from Nat.mul_one _, txE_all, List.take_of_length_le (by simp)]
set_option maxRecDepth 100000 in
set_option maxHeartbeats 6400000 in
theorem co_words (s : Stp) (hs : StpOK s) (fa : Option Addr) (ca : Nat) (w : World) (hA : NatsAt w .u8 fa (natsU s.f)) :
    Calls Tryz.prog 39 #[.agg #[.int .u8 (s.k : Nat), .int .i64 s.txn, encStr s.key, encStr s.val, .int .i64 s.n, .bool s.d, .slice fa s.f.length ca]] w fun e w' => ∃ v, e = .returned v ∧ WordsV w' (wordsS s) v ∧ Same w w' := by
  obtain ⟨h1, h2, h3, h4, h5, h6, h7⟩ := hs
  obtain ⟨k, tx, key, val, n, d, f⟩ := s
  simp only at h1 h2 h3 h4 h5 h6 h7 hA ⊢
  have HA := Lib.hid hA
  have N1 := Lib.hid (fun w => co_num tx h1 h2 w)
  have N2 := Lib.hid (fun w => co_num n h3 h4 w)
  have W1 := Lib.hid (fun w => co_word key (by omega) w)
  have W2 := Lib.hid (fun w => co_word val (by omega) w)
  have W3 := Lib.hid (fun w => co_word f (by omega) w)
  obtain ⟨WS, hWS⟩ : ∃ ws, wordsS ⟨k, tx, key, val, n, d, f⟩ = ws := ⟨_, rfl⟩
  rw [hWS]
  have WD := Lib.hid hWS
  clear hWS
  obtain ⟨y, hyy⟩ : ∃ y, w.heap.size = y := ⟨_, rfl⟩
  clear h1 h2 h3 h4 h5 h6 h7 hA
  have k0 : Same w (w.alloc (.cells #[.int .u8 (k : Nat), .int .i64 tx, encStr key, encStr val, .int .i64 n, .bool d, .slice fa f.length ca] 27)) := (Kept.refl _ w).alloc _
  have b0 : Blk (w.alloc (.cells #[.int .u8 (k : Nat), .int .i64 tx, encStr key, encStr val, .int .i64 n, .bool d, .slice fa f.length ca] 27)) y #[.int .u8 (k : Nat), .int .i64 tx, encStr key, encStr val, .int .i64 n, .bool d, .slice fa f.length ca] 27 := Blk.new' _ _ _ hyy.symm
  obtain ⟨tw, htw⟩ : ∃ t, numT tx = t := ⟨_, rfl⟩
  obtain ⟨kw, hkw⟩ : ∃ t, wordT key = t := ⟨_, rfl⟩
  rw [htw] at N1
  rw [hkw] at W1
  have HTW := Lib.hid htw; have HKW := Lib.hid hkw
  clear htw hkw
  go_enter Tryz.func39, Tryz.ntmps39
  go_upto_region 1 with fail
  refine cutC (fun wn => Blk wn y #[.int .u8 (k : Nat), .int .i64 tx, encStr key, encStr val, .int .i64 n, .bool d, .slice fa f.length ca] 27 ∧ Same w wn) ⟨b0, k0⟩ ?_
  clear b0 k0
  rintro w0 ⟨b0, k0⟩
  have B0 := Lib.hid b0; have K0 := Lib.hid k0
  have B7 := Lib.hid (fun w' (k : Same w0 w') => b0.kept k (fun h => h))
  clear b0 k0
  refine wp_region_T (S := fun w' => Same w0 w') 5 (by kernel_rfl) (Kept.refl _ _).drew (fun hHeld hDn => ?_)
  refine wpT_zs 0 5 hHeld hDn fun hDn => ?_
  refine wpT_zs 1 6 (v := .int .i64 tx) hHeld hDn (fun hDn => ?_) (hv := by intro w hSw; have q := cell_blk (B7.out w hSw) 1; go_simp)
  refine wpT_zs 3 8 hHeld hDn fun hDn => ?_
  refine wpT_zs 4 9 (v := encStr key) hHeld hDn (fun hDn => ?_) (hv := by intro w hSw; have q := cell_blk (B7.out w hSw) 2; go_simp)
  refine wpT_one (i := 2) rfl (by kernel_rfl) hDn (fun K' hK => ?_)
  go_simp
  refine (N1.out _).mono ?_
  rintro e w2 ⟨rfl, rfl⟩
  refine hK.out _ _ ((Kept.refl _ _).drew) (fun hHeld2 hDn2 => ?_)
  clear hK K' hHeld hDn
  have hHeld := hHeld2; have hDn := hDn2
  clear hHeld2 hDn2
  refine wpT_last rfl (by kernel_rfl) hDn (fun K hK => ?_)
  go_simp
  refine (W1.out _).mono ?_
  rintro e w2 ⟨rfl, k2⟩
  have k2 : Same w0 w2 := (Kept.refl _ w0).drew.trans k2
  refine hK.out _ _ (fun hDn' => ?_)
  clear hK K hDn hHeld; have hDn := hDn'; clear hDn'
  refine wpT_ze 6 3 hDn fun hDn => ?_
  refine wpT_ze 7 4 hDn fun hDn => ?_
  refine wpT_done (by kernel_rfl) ?_ _
  clear hDn N1 W1
  have B2 := Lib.hid (B7.out w2 k2)
  have K1 := Lib.hid (K0.out.trans k2)
  clear k2 B7 K0 B0
  have p0 := cell_blk B2.out 0
  have p3 := cell_blk B2.out 3
  have p4 := cell_blk B2.out 4
  have p5 := cell_blk B2.out 5
  have p6 := cell_blk B2.out 6
  go_upto_region 3 with fail
  match k, WD, B2, p0 with
  | 0, WD, B2, p0 =>
    have E := Lib.hid (show WS = [[98, 101, 103, 105, 110]] from WD.out.symm)
    go_wp2_with fail
    go_ret
    exact ⟨_, rfl, by rw [E.out]; exact ⟨_, _, rfl, els_lit _ _, Nat.le_refl _⟩, K1.out.alloc _⟩
  | 1, WD, B2, p0 =>
    have E := Lib.hid (show WS = [[103, 101, 116], tw, kw] by rw [← WD.out]; rw [← HTW.out, ← HKW.out]; rfl)
    go_wp2_with fail
    go_ret
    exact ⟨_, rfl, by rw [E.out]; exact ⟨_, _, rfl, els_lit _ _, Nat.le_refl _⟩, K1.out.alloc _⟩
  | 2, WD, B2, p0 =>
    obtain ⟨vw, hvw⟩ : ∃ t, wordT val = t := ⟨_, rfl⟩
    rw [hvw] at W2
    have E := Lib.hid (show WS = [[112, 117, 116], tw, kw, vw] by rw [← WD.out]; rw [← HTW.out, ← HKW.out, ← hvw]; rfl)
    clear hvw
    go_wp2_with fail
    refine (W2.out _).mono ?_
    rintro e w3 ⟨rfl, k3⟩
    have K1 := Lib.hid (K1.out.trans k3)
    clear k3
    go_wp2_with fail
    go_ret
    exact ⟨_, rfl, by rw [E.out]; exact ⟨_, _, rfl, els_lit _ _, Nat.le_refl _⟩, K1.out.alloc _⟩
  | 3, WD, B2, p0 =>
    have E := Lib.hid (show WS = [[100, 101, 108], tw, kw] by rw [← WD.out]; rw [← HTW.out, ← HKW.out]; rfl)
    go_wp2_with fail
    go_ret
    exact ⟨_, rfl, by rw [E.out]; exact ⟨_, _, rfl, els_lit _ _, Nat.le_refl _⟩, K1.out.alloc _⟩
  | 4, WD, B2, p0 =>
    obtain ⟨vw, hvw⟩ : ∃ t, wordT val = t := ⟨_, rfl⟩
    obtain ⟨nw, hnw⟩ : ∃ t, numT n = t := ⟨_, rfl⟩
    rw [hvw] at W2
    rw [hnw] at N2
    have E := Lib.hid (show WS = [[115, 99, 97, 110], tw, kw, vw, nw] by rw [← WD.out]; rw [← HTW.out, ← HKW.out, ← hvw, ← hnw]; rfl)
    clear hvw hnw
    have B7 := Lib.hid (fun w' (k : Same w2 w') => B2.out.kept k (fun h => h))
    go_upto_region 12 with fail
    refine wp_region_T (S := fun w' => Same w2 w') 7 (by kernel_rfl) (Kept.refl _ _).drew (fun hHeld hDn => ?_)
    refine wpT_zw 0 36 hHeld hDn fun hDn => ?_
    refine wpT_zw 1 37 hHeld hDn fun hDn => ?_
    refine wpT_zs 2 38 hHeld hDn fun hDn => ?_
    refine wpT_zs 3 39 (v := encStr val) hHeld hDn (fun hDn => ?_) (hv := by intro w hSw; have q := cell_blk (B7.out w hSw) 3; go_simp)
    refine wpT_zs 5 41 hHeld hDn fun hDn => ?_
    refine wpT_zs 6 42 (v := .int .i64 n) hHeld hDn (fun hDn => ?_) (hv := by intro w hSw; have q := cell_blk (B7.out w hSw) 4; go_simp)
    refine wpT_one (i := 4) rfl (by kernel_rfl) hDn (fun K' hK => ?_)
    go_simp
    refine (W2.out _).mono ?_
    rintro e w3 ⟨rfl, k3⟩
    have k3 : Same w2 w3 := (Kept.refl _ w2).drew.trans k3
    refine hK.out _ _ k3 (fun hHeld2 hDn2 => ?_)
    clear hK K' hHeld hDn
    have hHeld := hHeld2; have hDn := hDn2
    clear hHeld2 hDn2
    have K1 := Lib.hid (K1.out.trans k3)
    clear k3
    refine wpT_last rfl (by kernel_rfl) hDn (fun K hK => ?_)
    go_simp
    refine (N2.out _).mono ?_
    rintro e w3 ⟨rfl, rfl⟩
    refine hK.out _ _ (fun hDn' => ?_)
    clear hK K hDn hHeld; have hDn := hDn'; clear hDn'
    refine wpT_oneF (i := 8) rfl (by kernel_rfl) rfl (by kernel_rfl) hDn (fun K hK => ?_)
    go_simp
    refine hK.out _ _ (fun hDn' => ?_)
    clear hK K hDn; have hDn := hDn'; clear hDn'
    refine wpT_ze 9 2 hDn fun hDn => ?_
    refine wpT_done (by kernel_rfl) ?_ _
    clear hDn
    go_wp2_with fail
    go_ret
    exact ⟨_, rfl, by rw [E.out]; exact ⟨_, _, rfl, els_lit _ _, Nat.le_refl _⟩, K1.out.alloc _⟩
  | 5, WD, B2, p0 =>
    have E := Lib.hid (show WS = [[99, 111, 109, 109, 105, 116], tw] by rw [← WD.out]; rw [← HTW.out]; rfl)
    go_wp2_with fail
    go_ret
    exact ⟨_, rfl, by rw [E.out]; exact ⟨_, _, rfl, els_lit _ _, Nat.le_refl _⟩, K1.out.alloc _⟩
  | 6, WD, B2, p0 =>
    have E := Lib.hid (show WS = [[97, 98, 111, 114, 116], tw] by rw [← WD.out]; rw [← HTW.out]; rfl)
    go_wp2_with fail
    go_ret
    exact ⟨_, rfl, by rw [E.out]; exact ⟨_, _, rfl, els_lit _ _, Nat.le_refl _⟩, K1.out.alloc _⟩
  | 7, WD, B2, p0 =>
    have E := Lib.hid (show WS = [[102, 108, 117, 115, 104]] from WD.out.symm)
    go_wp2_with fail
    go_ret
    exact ⟨_, rfl, by rw [E.out]; exact ⟨_, _, rfl, els_lit _ _, Nat.le_refl _⟩, K1.out.alloc _⟩
  | 8, WD, B2, p0 =>
    have E := Lib.hid (show WS = [[99, 104, 101, 99, 107, 112, 111, 105, 110, 116]] from WD.out.symm)
    go_wp2_with fail
    go_ret
    exact ⟨_, rfl, by rw [E.out]; exact ⟨_, _, rfl, els_lit _ _, Nat.le_refl _⟩, K1.out.alloc _⟩
  | 9, WD, B2, p0 =>
    have E := Lib.hid (show WS = [[103, 99]] from WD.out.symm)
    go_wp2_with fail
    go_ret
    exact ⟨_, rfl, by rw [E.out]; exact ⟨_, _, rfl, els_lit _ _, Nat.le_refl _⟩, K1.out.alloc _⟩
  | 10, WD, B2, p0 =>
    obtain ⟨nw, hnw⟩ : ∃ t, numT n = t := ⟨_, rfl⟩
    obtain ⟨dw, hdw⟩ : ∃ t : Tx, (if d then [49] else [48]) = t := ⟨_, rfl⟩
    have F1 := Lib.hid (fun w => co_flag d w)
    rw [hdw] at F1
    rw [hnw] at N2
    have E := Lib.hid (show WS = [[98, 114, 101, 97, 107], nw, dw] by rw [← WD.out]; rw [← hnw, ← hdw]; rfl)
    clear hnw hdw
    have B7 := Lib.hid (fun w' (k : Same w2 w') => B2.out.kept k (fun h => h))
    go_upto_region 24 with fail
    refine wp_region_T (S := fun w' => Same w2 w') 5 (by kernel_rfl) (Kept.refl _ _).drew (fun hHeld hDn => ?_)
    refine wpT_zs 0 64 hHeld hDn fun hDn => ?_
    refine wpT_zs 1 65 (v := .int .i64 n) hHeld hDn (fun hDn => ?_) (hv := by intro w hSw; have q := cell_blk (B7.out w hSw) 4; go_simp)
    refine wpT_zs 3 67 hHeld hDn fun hDn => ?_
    refine wpT_zs 4 68 (v := .bool d) hHeld hDn (fun hDn => ?_) (hv := by intro w hSw; have q := cell_blk (B7.out w hSw) 5; go_simp)
    refine wpT_one (i := 2) rfl (by kernel_rfl) hDn (fun K' hK => ?_)
    go_simp
    refine (N2.out _).mono ?_
    rintro e w3 ⟨rfl, rfl⟩
    refine hK.out _ _ ((Kept.refl _ _).drew) (fun hHeld2 hDn2 => ?_)
    clear hK K' hHeld hDn
    have hHeld := hHeld2; have hDn := hDn2
    clear hHeld2 hDn2
    refine wpT_last rfl (by kernel_rfl) hDn (fun K hK => ?_)
    go_simp
    refine (F1.out _).mono ?_
    rintro e w3 ⟨rfl, rfl⟩
    have K1 := Lib.hid (K1.out.drew)
    refine hK.out _ _ (fun hDn' => ?_)
    clear hK K hDn hHeld; have hDn := hDn'; clear hDn'
    refine wpT_oneF (i := 6) rfl (by kernel_rfl) rfl (by kernel_rfl) hDn (fun K hK => ?_)
    go_simp
    refine hK.out _ _ (fun hDn' => ?_)
    clear hK K hDn; have hDn := hDn'; clear hDn'
    refine wpT_ze 7 2 hDn fun hDn => ?_
    refine wpT_done (by kernel_rfl) ?_ _
    clear hDn
    go_wp2_with fail
    go_ret
    exact ⟨_, rfl, by rw [E.out]; exact ⟨_, _, rfl, els_lit _ _, Nat.le_refl _⟩, K1.out.alloc _⟩
  | 11, WD, B2, p0 =>
    obtain ⟨fw, hfw⟩ : ∃ t, wordT f = t := ⟨_, rfl⟩
    rw [hfw] at W3
    have E := Lib.hid (show WS = [[112, 111, 119, 101, 114], fw] by rw [← WD.out]; rw [← hfw]; rfl)
    clear hfw
    have hcv := conv_str fa f.length ca (natsU f) w2 (by rw [natsU_len]) (HA.out.same K1.out)
    rw [strN_natsU] at hcv
    go_wp2_with fail
    refine (W3.out _).mono ?_
    rintro e w3 ⟨rfl, k3⟩
    have K1 := Lib.hid (K1.out.trans k3)
    clear k3
    go_wp2_with fail
    go_ret
    exact ⟨_, rfl, by rw [E.out]; exact ⟨_, _, rfl, els_lit _ _, Nat.le_refl _⟩, K1.out.alloc _⟩
  | 12, WD, B2, p0 =>
    have E := Lib.hid (show WS = [[111, 112, 101, 110]] from WD.out.symm)
    go_wp2_with fail
    go_ret
    exact ⟨_, rfl, by rw [E.out]; exact ⟨_, _, rfl, els_lit _ _, Nat.le_refl _⟩, K1.out.alloc _⟩
  | m + 13, WD, B2, p0 =>
    have E := Lib.hid (show WS = [] from WD.out.symm)
    obtain ⟨q, hq⟩ : ∃ q, m + 13 = q := ⟨_, rfl⟩
    rw [hq] at p0
    have q0 : ((q : Int) == 0) = false := by simp only [beq_eq_false_iff_ne]; omega
    have q1 : ((q : Int) == 1) = false := by simp only [beq_eq_false_iff_ne]; omega
    have q2 : ((q : Int) == 2) = false := by simp only [beq_eq_false_iff_ne]; omega
    have q3 : ((q : Int) == 3) = false := by simp only [beq_eq_false_iff_ne]; omega
    have q4 : ((q : Int) == 4) = false := by simp only [beq_eq_false_iff_ne]; omega
    have q5 : ((q : Int) == 5) = false := by simp only [beq_eq_false_iff_ne]; omega
    have q6 : ((q : Int) == 6) = false := by simp only [beq_eq_false_iff_ne]; omega
    have q7 : ((q : Int) == 7) = false := by simp only [beq_eq_false_iff_ne]; omega
    have q8 : ((q : Int) == 8) = false := by simp only [beq_eq_false_iff_ne]; omega
    have q9 : ((q : Int) == 9) = false := by simp only [beq_eq_false_iff_ne]; omega
    have q10 : ((q : Int) == 10) = false := by simp only [beq_eq_false_iff_ne]; omega
    have q11 : ((q : Int) == 11) = false := by simp only [beq_eq_false_iff_ne]; omega
    have q12 : ((q : Int) == 12) = false := by simp only [beq_eq_false_iff_ne]; omega
    clear hq
    go_wp2_with fail
    go_ret
    exact ⟨_, rfl, by rw [E.out]; exact ⟨none, 0, rfl, .inl rfl, Nat.le_refl _⟩, K1.out⟩
end Go.Proofs.YtnjmdldhgconmaaGreatDoor

namespace Go.Proofs.YtnjmdldhgconmaaGreatDoor
open Go.RowKit Go.Sort

set_option maxRecDepth 100000 in
theorem co_join (ws : List Tx) (v : Value) (w : World) (hv : WordsV w ws v) (hl : (joinW ws).length ≤ 1000000) (hn : ws.length ≤ 10) :
    Calls Tryz.prog 38 #[v, encStr [32]] w fun e w' => e = .returned (encStr (joinW ws)) ∧ Same w w' := by
  obtain ⟨a, c, rfl, hat, hc⟩ := hv
  by_cases h0 : ws = []
  · subst h0
    clear hat
    go_enter Tryz.func38, Tryz.ntmps38
    go_wp2_with fail
    go_ret
    exact ⟨rfl, Kept.refl _ _⟩
  · obtain ⟨b, off, rfl, hb⟩ := hat.there h0
    have hd : (ws.map fun x => (⟨x.toArray⟩ : ByteArray)).map (·.data.toList) = ws := by
      rw [List.map_map]
      conv => rhs; rw [← List.map_id ws]
      apply List.map_congr_left
      intro x _
      simp
    have hj := lib_join ws
    have := Tryz.strings_Join b off c (ws.map fun x => (⟨x.toArray⟩ : ByteArray)) ⟨#[32]⟩ w (fun j x hx => by
      rw [List.getElem?_map] at hx
      obtain ⟨y, hy, rfl⟩ := Option.map_eq_some_iff.1 hx
      obtain ⟨b', off', e, _, hcl⟩ := tx_cell hat hy
      cases e
      exact hcl) hb (by rw [List.length_map]; omega) (by rw [List.length_map]; exact hc) (by rw [hd]; show (Lib.join ws [32]).length ≤ _; rw [hj]; omega)
    rw [List.length_map] at this
    refine this.mono ?_
    rintro e w' ⟨rfl, hk⟩
    refine ⟨?_, Kept.of_below hk⟩
    rw [hd]
    show Ending.returned (encStr (Lib.join ws [32])) = _
    rw [hj]
/-- A step's line told as two values. -/
def lineV (s : Stp) : Value := .tuple #[encStr ((lineT s).getD []), .bool (lineT s).isSome]
theorem join_len : ∀ ws : List Tx, (joinW ws).length ≤ (ws.map (fun x => x.length + 1)).sum
  | [] => by simp [joinW]
  | [w] => by simp [joinW]
  | w :: v :: ws => by
    have := join_len (v :: ws)
    simp only [joinW, List.length_append, List.length_cons, List.map_cons, List.sum_cons] at this ⊢
    omega
theorem sum_le {α : Type} (f : α → Nat) (B : Nat) : ∀ l : List α, (∀ x ∈ l, f x ≤ B) → (l.map f).sum ≤ l.length * B
  | [], _ => by simp
  | x :: l, h => by
    have h1 := sum_le f B l (fun y hy => h y (List.mem_cons_of_mem _ hy))
    have h2 := h x (List.mem_cons_self ..)
    rw [List.map_cons, List.sum_cons, List.length_cons, Nat.add_mul, Nat.one_mul]
    omega
theorem num_len (n : Int) (h1 : -9223372036854775808 ≤ n) (h2 : n ≤ 9223372036854775807) : (numT n).length ≤ 20 := by
  unfold numT
  split
  · have := dig_len 18 (-n).toNat (by omega)
    simp only [List.length_cons]
    omega
  · have := dig_len 18 n.toNat (by omega)
    omega
theorem getF_len {s : Stp} (h : StpOK s) (f : Fld) : (getF s f).length ≤ 2002 := by
  obtain ⟨h1, h2, h3, h4, h5, h6, h7⟩ := h
  cases f with
  | t => have := num_len s.txn h1 h2; simp only [getF]; omega
  | n => have := num_len s.n h3 h4; simp only [getF]; omega
  | d => simp only [getF]; split <;> simp
  | k => have := word_len s.key; simp only [getF]; omega
  | v => have := word_len s.val; simp only [getF]; omega
  | fl => have := word_len s.f; simp only [getF]; omega
theorem words_len {s : Stp} (h : StpOK s) : (joinW (wordsS s)).length ≤ 9000 ∧ (wordsS s).length ≤ 10 := by
  have key : ∀ k, k < 13 → (shapeT k).all (fun p => decide (p.1.length ≤ 10) && decide (p.2.length ≤ 4)) = true := by decide
  unfold wordsS
  split
  · rename_i nm fs hs
    have hk := key s.k (shape_lt hs)
    rw [hs] at hk
    simp only [Option.all_some, Bool.and_eq_true, decide_eq_true_eq] at hk
    have h1 := join_len (nm :: fs.map (getF s))
    have h2 := sum_le (fun x : Tx => x.length + 1) 2003 (fs.map (getF s)) (fun x hx => by
      obtain ⟨f, _, rfl⟩ := List.mem_map.1 hx
      have := getF_len h f
      omega)
    rw [List.length_map] at h2
    rw [List.map_cons, List.sum_cons] at h1
    have h3 : fs.length * 2003 ≤ 4 * 2003 := Nat.mul_le_mul_right _ hk.2
    simp only [List.length_cons, List.length_map]
    omega
  · simp [joinW]
theorem StpV.toNats {B : Nat} {w : World} {s : Stp} {v : Value} (h : StpV B w s v) : ∃ a c, v = .agg #[.int .u8 (s.k : Nat), .int .i64 s.txn, encStr s.key, encStr s.val, .int .i64 s.n, .bool s.d, .slice a s.f.length c] ∧ NatsAt w .u8 a (natsU s.f) := by
  obtain ⟨a, c, h1, h2, -⟩ := h
  exact ⟨a, c, h1, h2⟩

set_option maxRecDepth 100000 in
set_option maxHeartbeats 6400000 in
theorem co_line (s : Stp) (hs : StpOK s) (fa : Option Addr) (ca : Nat) (w : World) (hA : NatsAt w .u8 fa (natsU s.f)) (hM : MaxOK w) :
    Calls Tryz.prog 18 #[.agg #[.int .u8 (s.k : Nat), .int .i64 s.txn, encStr s.key, encStr s.val, .int .i64 s.n, .bool s.d, .slice fa s.f.length ca]] w fun e w' => e = .returned (lineV s) ∧ Same w w' := by
  have WL := Lib.hid (words_len hs)
  have LN := Lib.hid (line_neg (s := s))
  have LT : Hid (lineT s = if parseT (joinW (wordsS s)) = some s then some (joinW (wordsS s)) else none) := rfl
  have WC := Lib.hid (fun w' (k : Same w w') => co_words s hs fa ca w' (hA.same k))
  have SM := Lib.hid (fun (a : Stp) (aa : Option Addr) (ac : Nat) (w' : World) (k : Same w w') (ha : NatsAt w' .u8 aa (natsU a.f)) => co_same a s aa fa ac ca w' ha (hA.same k))
  have HM := Lib.hid (fun w' (k : Same w w') => hM.same k)
  obtain ⟨LV, hLV⟩ : ∃ v, lineV s = v := ⟨_, rfl⟩
  rw [hLV]
  have HLV := Lib.hid hLV
  clear hLV hM hA hs
  obtain ⟨k, tx, key, val, n, d, f⟩ := s
  simp only at WC SM LN ⊢
  obtain ⟨y, hyy⟩ : ∃ y, w.heap.size = y := ⟨_, rfl⟩
  have k0 : Same w (w.alloc (.cells #[.int .u8 (k : Nat), .int .i64 tx, encStr key, encStr val, .int .i64 n, .bool d, .slice fa f.length ca] 27)) := (Kept.refl _ w).alloc _
  have b0 : Blk (w.alloc (.cells #[.int .u8 (k : Nat), .int .i64 tx, encStr key, encStr val, .int .i64 n, .bool d, .slice fa f.length ca] 27)) y #[.int .u8 (k : Nat), .int .i64 tx, encStr key, encStr val, .int .i64 n, .bool d, .slice fa f.length ca] 27 := Blk.new' _ _ _ hyy.symm
  go_enter Tryz.func18, Tryz.ntmps18
  go_upto_region 1 with fail
  refine cutC (fun wn => Blk wn y #[.int .u8 (k : Nat), .int .i64 tx, encStr key, encStr val, .int .i64 n, .bool d, .slice fa f.length ca] 27 ∧ Same w wn) ⟨b0, k0⟩ ?_
  clear b0 k0
  rintro w0 ⟨b0, k0⟩
  have B0 := Lib.hid b0; have K0 := Lib.hid k0
  clear b0 k0
  have p0 := cell_blk B0.out 0
  have f0 := Blk.free B0.out 0
  have p1 := cell_blk B0.out 1
  have f1 := Blk.free B0.out 1
  have p2 := cell_blk B0.out 2
  have f2 := Blk.free B0.out 2
  have p3 := cell_blk B0.out 3
  have f3 := Blk.free B0.out 3
  have p4 := cell_blk B0.out 4
  have f4 := Blk.free B0.out 4
  have p5 := cell_blk B0.out 5
  have f5 := Blk.free B0.out 5
  have p6 := cell_blk B0.out 6
  have f6 := Blk.free B0.out 6
  clear f0 f1 f2 f3 f4 f5 f6
  by_cases g1 : tx < 0
  · have Z := Lib.hid (show LV = .tuple #[encStr [], .bool false] by rw [← HLV.out]; unfold lineV; rw [LN.out (.inl g1)]; rfl)
    go_wp2_with fail
    go_ret2
    exact ⟨by rw [Z.out]; rfl, K0.out⟩
  by_cases g2 : n < 0
  · have Z := Lib.hid (show LV = .tuple #[encStr [], .bool false] by rw [← HLV.out]; unfold lineV; rw [LN.out (.inr g2)]; rfl)
    go_wp2_with fail
    go_ret2
    exact ⟨by rw [Z.out]; rfl, K0.out⟩
  clear LN
  go_wp2_with fail
  refine (WC.out _ K0.out).mono ?_
  rintro e w1 ⟨v, rfl, hv, k1⟩
  have JC := Lib.hid (co_join _ v w1 hv (by have := WL.out.1; omega) WL.out.2)
  have K1 := Lib.hid (K0.out.trans k1)
  have B1 := Lib.hid (B0.out.kept k1 (fun h => h))
  clear hv k1 WC
  go_wp2_with fail
  refine JC.out.mono ?_
  rintro e w2 ⟨rfl, k2⟩
  have K2 := Lib.hid (K1.out.trans k2)
  have B2 := Lib.hid (B1.out.kept k2 (fun h => h))
  clear k2 JC
  have hll := WL.out.1
  obtain ⟨ln, hln⟩ : ∃ ln, joinW (wordsS ⟨k, tx, key, val, n, d, f⟩) = ln := ⟨_, rfl⟩
  rw [hln] at LT hll
  rw [hln]
  have PC := Lib.hid (co_parse ln (by omega) w2 (HM.out w2 K2.out))
  clear hln hll WL K0 K1 B0 B1 HM
  go_wp2_with fail
  refine PC.out.mono ?_
  rintro e w3 ⟨v, rfl, ⟨sv, rfl, hsv⟩, k3⟩
  obtain ⟨xa, xc, rfl, hxn⟩ := hsv.toNats
  have K3 := Lib.hid (K2.out.trans k3)
  have B3 := Lib.hid (B2.out.kept k3 (fun h => h))
  clear k3 hsv PC K2 B2
  have QS := Lib.hid (show (parseT ln).isSome = true → parseT ln = some ((parseT ln).getD (stp0 0)) by cases parseT ln with | none => intro h; cases h | some a => intro _; rfl)
  have QN := Lib.hid (show (parseT ln).isSome = false → parseT ln = none by cases parseT ln with | none => intro _; rfl | some a => intro h; cases h)
  obtain ⟨q, hq⟩ : ∃ q, (parseT ln).getD (stp0 0) = q := ⟨_, rfl⟩
  obtain ⟨ok, hok⟩ : ∃ ok, (parseT ln).isSome = ok := ⟨_, rfl⟩
  rw [hq] at hxn QS
  rw [hok] at QS QN
  rw [hq, hok]
  clear hq hok
  have p0 := cell_blk B3.out 0
  have p1 := cell_blk B3.out 1
  have p2 := cell_blk B3.out 2
  have p3 := cell_blk B3.out 3
  have p4 := cell_blk B3.out 4
  have p5 := cell_blk B3.out 5
  have p6 := cell_blk B3.out 6
  go_upto_region 5 with fail
  obtain ⟨z, hz⟩ : ∃ z, w3.heap.size = z := ⟨_, rfl⟩
  refine cutC (fun wn => Blk wn z #[.int .u8 (q.k : Nat), .int .i64 q.txn, encStr q.key, encStr q.val, .int .i64 q.n, .bool q.d, .slice xa q.f.length xc] 27 ∧ Blk wn y #[.int .u8 (k : Nat), .int .i64 tx, encStr key, encStr val, .int .i64 n, .bool d, .slice fa f.length ca] 27 ∧ Same w wn ∧ NatsAt wn .u8 xa (natsU q.f)) ⟨Blk.new' _ _ _ hz.symm, B3.out.alloc _, K3.out.alloc _, hxn.same ((Kept.refl _ _).alloc _)⟩ ?_
  rintro w4 ⟨bz, by4, k4, hx4⟩
  rw [hz]
  have BZ := Lib.hid bz; have BY := Lib.hid by4; have K4 := Lib.hid k4; have X4 := Lib.hid hx4
  clear bz by4 k4 hx4 hz hxn K3 B3
  have p0 := cell_blk BY.out 0
  have p1 := cell_blk BY.out 1
  have p2 := cell_blk BY.out 2
  have p3 := cell_blk BY.out 3
  have p4 := cell_blk BY.out 4
  have p5 := cell_blk BY.out 5
  have p6 := cell_blk BY.out 6
  have q0 := cell_blk BZ.out 0
  have q1 := cell_blk BZ.out 1
  have q2 := cell_blk BZ.out 2
  have q3 := cell_blk BZ.out 3
  have q4 := cell_blk BZ.out 4
  have q5 := cell_blk BZ.out 5
  have q6 := cell_blk BZ.out 6
  cases ok with
  | false =>
    have Z := Lib.hid (show LV = .tuple #[encStr [], .bool false] by rw [← HLV.out]; unfold lineV; rw [LT.out, QN.out rfl]; rfl)
    clear QS QN SM
    go_wp2_with fail
    go_ret2
    exact ⟨by rw [Z.out]; rfl, K4.out⟩
  | true =>
    have PE := QS.out rfl
    clear QS QN
    have SC := Lib.hid (SM.out q xa xc w4 K4.out X4.out)
    clear SM
    by_cases hqs : q = ⟨k, tx, key, val, n, d, f⟩
    · have Z := Lib.hid (show LV = .tuple #[encStr ln, .bool true] by rw [← HLV.out]; unfold lineV; rw [LT.out, PE, hqs, if_pos rfl]; rfl)
      rw [show decide (q = ⟨k, tx, key, val, n, d, f⟩) = true by simpa using hqs] at SC
      clear hqs PE LT HLV
      go_wp2_with fail
      refine SC.out.mono ?_
      rintro e w5 ⟨rfl, k5⟩
      have K5 := Lib.hid (K4.out.trans k5)
      clear k5
      go_wp2_with fail
      go_ret2
      exact ⟨by rw [Z.out]; rfl, K5.out⟩
    · have Z := Lib.hid (show LV = .tuple #[encStr [], .bool false] by rw [← HLV.out]; unfold lineV; rw [LT.out, PE, if_neg (fun h => hqs (Option.some.inj h))]; rfl)
      rw [show decide (q = ⟨k, tx, key, val, n, d, f⟩) = false by simpa using hqs] at SC
      clear hqs PE LT HLV
      go_wp2_with fail
      refine SC.out.mono ?_
      rintro e w5 ⟨rfl, k5⟩
      have K5 := Lib.hid (K4.out.trans k5)
      clear k5
      go_wp2_with fail
      go_ret2
      exact ⟨by rw [Z.out]; rfl, K5.out⟩
end Go.Proofs.YtnjmdldhgconmaaGreatDoor
