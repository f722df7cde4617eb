/- Ct2: what a console tells of a scan's answer (printed by gen/toldp2.py). -/
import Derived.Test.YtnjmdldhgconmaaGreatDoorGCs
namespace Go.Proofs.YtnjmdldhgconmaaGreatDoor
open Go.RowKit Go.Sort
attribute [local go_sem ↓] exec_app semAt_app
attribute [local go_sem] isApp_lit appA appX

/-- append in a region that draws, of elements of any kind. -/
theorem step_appendE {α : Type} {E : Enc α} {P : Program} {w : World} {ops : Array Oper} {o : Oper} {a : Act} {K : Act → World → Prop} {Q : Exit → Act → World → Prop} {E' : Prop} (hgd : o.guard = none) (s x : Operand) (t : TypeId)
    (ho : o.op = .call { callee := .builtin .append, args := #[s, x], argTypes := #[t, t] })
    (base : Nat) (e : TypeId) (z : Value) (bytes : Nat) (ht : P.underlying t = some (.slice e)) (hi : (P.info? e).map (fun i => (i.zero, i.size, i.bytes)) = some (some z, E.n, bytes)) (hzs : z.cells.size = E.n)
    (v : Value) (xs : List α) (hs : a.eval s = v) (hown : OwnE E w base e v xs) (ao : Option Addr) (m c : Nat) (ys : List α) (hx : a.eval x = .slice ao m c) (hm : m = ys.length) (hat : ElsAt E w ao ys) (hnil : ao = none → c = 0)
    (hlen : xs.length + ys.length ≤ maxLen) (hbytes : (xs.length + ys.length) * bytes ≤ 140737488355328) (hbase : base ≤ w.heap.size)
    (h : ∀ v' w', OwnE E w' base e v' (xs ++ ys) → w.grownBy w' v.ownBlock → K (a.put o.dst v') w') :
    if Region.wanted o (yielded ops a.tmps) = true then Oper.wp P o a w K Q else E' := by
  have hw : Region.wanted o (yielded ops a.tmps) = true := by simp [Region.wanted, hgd]
  rw [if_pos hw]
  obtain ⟨v', w', hrun, h2, h3, -⟩ := run_appendE (P := P) w t o.type base e z bytes E ht hi hzs v xs hown ao m c ys hm hat hnil hlen hbytes hbase
  unfold Oper.wp execOp
  simp only [ho, resolve, invoke, builtin, Sem.run_bind, Sem.run_pure, Result.andThen_ok, List.map_toArray, List.map_cons, List.map_nil, hs, hx, hrun]
  exact h v' w' h2 h3
/-- A pair's line. -/
def pairL (p : Tx × Tx) : Tx := wordT p.1 ++ [32] ++ wordT p.2
theorem pt_at {w : World} {a : Option Addr} {l : List (Tx × Tx)} (h : ElsAt ptE w a l) {i : Nat} {p : Tx × Tx} (hp : l[i]? = some p) :
    ∃ b off, a = some ⟨b, off, none⟩ ∧ ∀ w', Same w w' → w'.cell? ⟨b, off + i * 2, none⟩ = some (encStr p.1) ∧ w'.cell? ⟨b, off + i * 2 + 1, none⟩ = some (encStr p.2) := by
  obtain ⟨b, off, rfl, hb⟩ := h.there (fun e => by rw [e] at hp; simp at hp)
  refine ⟨b, off, rfl, fun w' k => ?_⟩
  have h2 := h.same k
  have g0 := h2.get hp 0 (u := encStr p.1) rfl
  have g1 := h2.get hp 1 (u := encStr p.2) rfl
  exact ⟨g0, by rw [Nat.add_assoc]; exact g1⟩
theorem told4 {id ts : Int} {val : Tx} {is : Bool} {ps : List (Tx × Tx)} : toldT 4 id ts val is ps 0 = ps.map pairL ++ [[112, 97, 105, 114, 115, 32] ++ numT ps.length] := rfl

set_option maxRecDepth 100000 in
set_option maxHeartbeats 6400000 in
theorem co_told4 (s : Stp) (hk : s.k = 4) (fa : Option Addr) (ca : Nat) (id ts : Int) (val : Tx) (is : Bool) (pa : Option Addr) (pn pc : Nat) (ps : List (Tx × Tx)) (w : World)
    (hpn : pn = ps.length) (hps : ps.length ≤ 40) (hpl : ∀ p ∈ ps, p.1.length ≤ 200 ∧ p.2.length ≤ 200) (hpa : ElsAt ptE w pa ps) :
    Calls Tryz.prog 21 #[.agg #[.int .u8 (s.k : Nat), .int .i64 s.txn, encStr s.key, encStr s.val, .int .i64 s.n, .bool s.d, .slice fa s.f.length ca], .agg #[.int .i64 id, .int .i64 ts, encStr val, .bool is, .slice pa pn pc], .int .i64 0] w fun e' w' => ∃ v, e' = .returned v ∧ WordsV w' (toldT s.k id ts val is ps 0) v ∧ Same w w' := by
  obtain ⟨k, tx, key, sva, n, d, f⟩ := s
  simp only at hk ⊢
  subst hk
  rw [told4]
  obtain ⟨QS, hQS⟩ : ∃ QS, ps.map pairL = QS := ⟨_, rfl⟩
  have HQ := Lib.hid (show QS.length = pn ∧ ∀ i p, ps[i]? = some p → QS[i]? = some (pairL p) by
    rw [← hQS]
    exact ⟨by rw [List.length_map]; exact hpn.symm, fun i p hp => by rw [List.getElem?_map, hp]; rfl⟩)
  rw [hQS]
  clear hQS
  have NN := Lib.hid (fun w => co_num (pn : Int) (by omega) (by omega) w)
  have ln := num_len (pn : Int) (by omega) (by omega)
  have WD := Lib.hid (fun (p : Tx × Tx) (hp : p ∈ ps) w => And.intro (co_word p.1 (by have := hpl p hp; omega) w) (co_word p.2 (by have := hpl p hp; omega) w))
  have PL := Lib.hid hpl; have PA := Lib.hid hpa; have PN := Lib.hid hpn
  rw [show ((ps.length : Nat) : Int) = (pn : Int) by rw [hpn]]
  obtain ⟨nw, hnw⟩ : ∃ t, numT (pn : Int) = t := ⟨_, rfl⟩
  rw [hnw] at NN ln
  rw [hnw]
  have cn : ((⟨#[112, 97, 105, 114, 115, 32]⟩ : ByteArray) ++ (⟨nw.toArray⟩ : ByteArray)) = ⟨([112, 97, 105, 114, 115, 32] ++ nw).toArray⟩ := two_cat [112, 97, 105, 114, 115, 32] nw
  have dn : 6 + nw.length ≤ 9223372036854775807 := by omega
  obtain ⟨nl, hnl⟩ : ∃ t, [112, 97, 105, 114, 115, 32] ++ nw = t := ⟨_, rfl⟩
  rw [hnl] at cn
  rw [hnl]
  clear hpl hpa hpn hnw hnl
  obtain ⟨y, hyy⟩ : ∃ y, w.heap.size = y := ⟨_, rfl⟩
  have HY := Lib.hid hyy
  have k0 : Same w ((w.alloc (.cells #[.int .u8 4, .int .i64 tx, encStr key, encStr sva, .int .i64 n, .bool d, .slice fa f.length ca] 27)).alloc (.cells #[.int .i64 id, .int .i64 ts, encStr val, .bool is, .slice pa pn pc]  48)) := ((Kept.refl _ w).alloc _).alloc _
  have b0 : Blk ((w.alloc (.cells #[.int .u8 4, .int .i64 tx, encStr key, encStr sva, .int .i64 n, .bool d, .slice fa f.length ca] 27)).alloc (.cells #[.int .i64 id, .int .i64 ts, encStr val, .bool is, .slice pa pn pc]  48)) y #[.int .u8 4, .int .i64 tx, encStr key, encStr sva, .int .i64 n, .bool d, .slice fa f.length ca] 27 := (Blk.new' _ _ _ hyy.symm).alloc _
  have c0 : Blk ((w.alloc (.cells #[.int .u8 4, .int .i64 tx, encStr key, encStr sva, .int .i64 n, .bool d, .slice fa f.length ca] 27)).alloc (.cells #[.int .i64 id, .int .i64 ts, encStr val, .bool is, .slice pa pn pc]  48)) (y + 1) #[.int .i64 id, .int .i64 ts, encStr val, .bool is, .slice pa pn pc]  48 := Blk.new' _ _ _ (by simp [hyy])
  go_enter Tryz.func21, Tryz.ntmps21
  go_upto_region 1 with fail
  refine cutC (fun wn => Blk wn y #[.int .u8 4, .int .i64 tx, encStr key, encStr sva, .int .i64 n, .bool d, .slice fa f.length ca] 27 ∧ Blk wn (y + 1) #[.int .i64 id, .int .i64 ts, encStr val, .bool is, .slice pa pn pc]  48 ∧ Same w wn) ⟨b0, c0, k0⟩ ?_
  clear b0 c0 k0
  rintro w0 ⟨b0, c0, k0⟩
  have K0 := Lib.hid k0
  have C7 := Lib.hid (fun w' (k : Same w0 w') => c0.kept k (fun h => h))
  have PA0 := Lib.hid (PA.out.same k0)
  obtain ⟨bs, hbz⟩ : ∃ bs, w0.heap.size = bs := ⟨_, rfl⟩
  have HBS := Lib.hid hbz
  clear hbz
  have p0 := cell_blk b0 0
  have r4 := cell_blk c0 4
  clear b0 c0 k0 PA
  go_wp2_with fail
  go_loopw [7, 46] (fun v t wr => ∃ i : Nat, t = .int .i64 i ∧ i ≤ pn ∧ OwnE txE wr bs 9 v (QS.take i) ∧ Same w0 wr) (fun _ t _ => pn - (intOf t).toNat)
  case atStart => exact ⟨0, rfl, by omega, OwnE.nil _ _ _, Kept.refl _ _⟩
  case round =>
    obtain ⟨i, rfl, hi, ho, hk⟩ := hrel
    have HO := Lib.hid ho; have HK := Lib.hid hk
    clear ho hk
    have hbs : bs ≤ wr.heap.size := by have := HK.out.size; have := HBS.out; omega
    by_cases hgo : i < pn
    · have h1 : (i : Int) < (pn : Int) := by omega
      have h0 : (0 : Int) ≤ (i : Int) := by omega
      have hil : i < ps.length := by have := PN.out; omega
      obtain ⟨p, hp⟩ : ∃ p, ps[i] = p := ⟨_, rfl⟩
      have hpe : ps[i]? = some p := by rw [List.getElem?_eq_getElem hil, hp]
      obtain ⟨b, off, rfl, hcl⟩ := pt_at (PA0.out.same HK.out) hpe
      obtain ⟨c0, c1⟩ := hcl wr (Kept.refl _ _)
      have hmem : p ∈ ps := List.mem_of_getElem? hpe
      have W1 := Lib.hid (fun w => (WD.out p hmem w).1); have W2 := Lib.hid (fun w => (WD.out p hmem w).2)
      have hw1 := word_len p.1; have hw2 := word_len p.2; have hpl := PL.out p hmem
      have TK := Lib.hid (show QS.take (i + 1) = QS.take i ++ [pairL p] by rw [List.take_add_one, HQ.out.2 i p hpe]; rfl)
      have LT := Lib.hid (show (QS.take i).length ≤ 40 by rw [List.length_take, HQ.out.1]; omega)
      obtain ⟨ls, hls⟩ : ∃ ls, QS.take i = ls := ⟨_, rfl⟩
      rw [hls] at HO TK LT
      have PE : Hid (pairL p = wordT p.1 ++ [32] ++ wordT p.2) := rfl
      obtain ⟨u1, hu1⟩ : ∃ u, wordT p.1 = u := ⟨_, rfl⟩
      obtain ⟨u2, hu2⟩ : ∃ u, wordT p.2 = u := ⟨_, rfl⟩
      rw [hu1] at W1 PE hw1
      rw [hu2] at W2 PE hw2
      have e1 := str_snoc u1 32
      have l1 : (u1 ++ [32]).length = u1.length + 1 := by simp
      obtain ⟨u3, hu3⟩ : ∃ u, u1 ++ [32] = u := ⟨_, rfl⟩
      rw [hu3] at e1 PE l1
      have e2 := two_cat u3 u2
      obtain ⟨u4, hu4⟩ : ∃ u, u3 ++ u2 = u := ⟨_, rfl⟩
      rw [hu4] at e2 PE
      have d1 : u1.length + 1 ≤ 9223372036854775807 := by omega
      have d1' : ¬ 9223372036854775807 < u1.length + 1 := by omega
      have d2 : u3.length + u2.length ≤ 9223372036854775807 := by omega
      have d2' : ¬ 9223372036854775807 < u3.length + u2.length := by omega
      obtain ⟨p1, p2⟩ := p
      simp only at c0 c1 W1 W2
      clear hls hu1 hu2 hu3 hu4 hpe hp hmem hcl l1
      go_upto_region 15 with fail
      obtain ⟨z, hz⟩ : ∃ z, wr.heap.size = z := ⟨_, rfl⟩
      refine cutC (fun wn => Blk wn z #[encStr p1, encStr p2] 42 ∧ Same wr wn) ⟨Blk.new' _ _ _ hz.symm, (Kept.refl _ _).alloc _⟩ ?_
      rintro w3 ⟨bz, k3⟩
      rw [hz]
      have BZ7 := Lib.hid (fun w' (k : Same w3 w') => bz.kept k (fun h => h))
      have O3 := Lib.hid (HO.out.same k3); have K3 := Lib.hid (HK.out.trans k3)
      have hb3 : bs ≤ w3.heap.size := by have := k3.size; omega
      clear bz k3 hz HO HK
      refine wp_region_T (S := fun w' => Same w3 w') 7 (by kernel_rfl) (Kept.refl _ _).drew (fun hHeld hDn => ?_)
      refine wpT_zw 0 50 hHeld hDn fun hDn => ?_
      refine wpT_zs 1 51 hHeld hDn fun hDn => ?_
      refine wpT_zs 2 52 (v := encStr p1) hHeld hDn (fun hDn => ?_) (hv := by intro w hSw; have q := cell_blk (BZ7.out w hSw) 0; go_simp)
      refine wpT_zs 5 55 hHeld hDn fun hDn => ?_
      refine wpT_zs 6 56 (v := encStr p2) hHeld hDn (fun hDn => ?_) (hv := by intro w hSw; have q := cell_blk (BZ7.out w hSw) 1; go_simp)
      refine wpT_one (i := 3) rfl (by kernel_rfl) hDn (fun K' hK => ?_)
      go_simp
      refine (W1.out _).mono ?_
      rintro e w4 ⟨rfl, k4⟩
      have k4 : Same w3 w4 := (Kept.refl _ w3).drew.trans k4
      refine hK.out _ _ k4 (fun hHeld2 hDn2 => ?_)
      clear hK K' hHeld hDn
      have hHeld := hHeld2; have hDn := hDn2
      clear hHeld2 hDn2
      refine wpT_zw 4 54 (v := encStr u3) hHeld hDn (fun hDn => ?_) (hv := by intro w _; go_simp)
      refine wpT_last rfl (by kernel_rfl) hDn (fun K hK => ?_)
      go_simp
      refine (W2.out _).mono ?_
      rintro e w5 ⟨rfl, k5⟩
      have k5 : Same w3 w5 := k4.trans k5
      refine hK.out _ _ (fun hDn' => ?_)
      clear hK K hDn hHeld; have hDn := hDn'; clear hDn'
      refine wpT_ze 8 58 (v := encStr u4) hDn (fun hDn => ?_) (hv := by intro w _; go_simp)
      refine wpT_oneF (i := 9) rfl (by kernel_rfl) rfl (by kernel_rfl) hDn (fun K hK => ?_)
      go_simp
      refine hK.out _ _ (fun hDn' => ?_)
      clear hK K hDn; have hDn := hDn'; clear hDn'
      refine wpT_oneF (i := 10) rfl (by kernel_rfl) rfl (by kernel_rfl) hDn (fun K hK => ?_)
      have kW : Same w5 (w5.alloc (.cells #[encStr u4] 9)) := (Kept.refl _ w5).alloc _
      refine step_appendE (E := txE) rfl _ _ 46 rfl bs 9 (.string ByteArray.empty) 16 Tryz.underlying46 txInfo rfl _ ls rfl (O3.out.same (k5.trans kW)) _ _ _ [u4] rfl rfl (els_lit w5 [u4]) (fun e => by cases e) (by have := LT.out; simp [maxLen]; omega) (by have := LT.out; simp; omega) (by have := k5.size; have := kW.size; omega) ?_
      intro v7 w7 o7 g7
      have K7 := Lib.hid ((K3.out.trans (k5.trans kW)).grown g7 (fun k hk hl => by have := (O3.out.far k hk).1; have := HBS.out; omega))
      have O7 := Lib.hid o7
      clear o7 g7 kW k5 k4
      refine hK.out _ _ (fun hDn' => ?_)
      clear hK K hDn; have hDn := hDn'; clear hDn'
      refine wpT_ze 11 7 hDn fun hDn => ?_
      refine wpT_done (by kernel_rfl) ?_ _
      clear hDn
      go_wp2_with fail
      go_roundw
      case rel => exact ⟨v7, .pointer (some ⟨z, 0, none⟩), .int .i64 ((i : Int) + 1), ⟨i + 1, by go_num, by omega, by rw [TK.out, PE.out]; exact O7.out, K7.out⟩, rfl, rfl, rfl⟩
      case measure => simp [intOf]; omega
    · have h1 : ¬ (i : Int) < (pn : Int) := by omega
      have e : i = pn := by omega
      subst e
      rw [List.take_of_length_le (by have := HQ.out.1; omega)] at HO
      obtain ⟨v5, w5, hrun, o5, k5⟩ := tx_push HO.out (by have := HK.out.size; have := HBS.out; omega) nl (by have := HQ.out.1; have := PN.out; omega)
      obtain ⟨aok, aV, aW⟩ := app_of hrun
      have K5 := Lib.hid ((K0.out.trans HK.out).step k5 (fun j hj q => by have := (HO.out.far j q).1; have := HBS.out; have := K0.out.size; omega))
      have O5 := Lib.hid o5
      have r4 := cell_blk (C7.out wr HK.out) 4
      clear hrun o5 k5 HO HK
      go_wp2_with fail
      refine (NN.out _).mono ?_
      rintro e w6 ⟨rfl, rfl⟩
      go_wp2_with fail
      go_ret
      obtain ⟨ta, tc, hv5, hta, -, htc, -⟩ := O5.out.els
      exact ⟨_, rfl, ⟨ta, tc, hv5, hta, htc⟩, K5.out⟩

set_option maxRecDepth 100000 in
set_option maxHeartbeats 6400000 in
theorem cr_told4 (s : Stp) (hk : s.k = 4) (fa : Option Addr) (ca : Nat) (id ts : Int) (val : Tx) (is : Bool) (pa : Option Addr) (pn pc : Nat) (ps : List (Tx × Tx)) (w : World)
    (hpn : pn = ps.length) (hps : ps.length ≤ 40) (hpl : ∀ p ∈ ps, p.1.length ≤ 200 ∧ p.2.length ≤ 200) (hpa : ElsAt ptE w pa ps) :
    Calls Tryz.prog 22 #[.agg #[.int .u8 (s.k : Nat), .int .i64 s.txn, encStr s.key, encStr s.val, .int .i64 s.n, .bool s.d, .slice fa s.f.length ca], .agg #[.int .i64 id, .int .i64 ts, encStr val, .bool is, .slice pa pn pc], .int .i64 0] w fun e' w' => ∃ v, e' = .returned v ∧ WordsV w' (toldT s.k id ts val is ps 0) v ∧ Same w w' := by
  obtain ⟨k, tx, key, sva, n, d, f⟩ := s
  simp only at hk ⊢
  subst hk
  rw [told4]
  obtain ⟨QS, hQS⟩ : ∃ QS, ps.map pairL = QS := ⟨_, rfl⟩
  have HQ := Lib.hid (show QS.length = pn ∧ ∀ i p, ps[i]? = some p → QS[i]? = some (pairL p) by
    rw [← hQS]
    exact ⟨by rw [List.length_map]; exact hpn.symm, fun i p hp => by rw [List.getElem?_map, hp]; rfl⟩)
  rw [hQS]
  clear hQS
  have NN := Lib.hid (fun w => cr_num (pn : Int) (by omega) (by omega) w)
  have ln := num_len (pn : Int) (by omega) (by omega)
  have WD := Lib.hid (fun (p : Tx × Tx) (hp : p ∈ ps) w => And.intro (cr_word p.1 (by have := hpl p hp; omega) w) (cr_word p.2 (by have := hpl p hp; omega) w))
  have PL := Lib.hid hpl; have PA := Lib.hid hpa; have PN := Lib.hid hpn
  rw [show ((ps.length : Nat) : Int) = (pn : Int) by rw [hpn]]
  obtain ⟨nw, hnw⟩ : ∃ t, numT (pn : Int) = t := ⟨_, rfl⟩
  rw [hnw] at NN ln
  rw [hnw]
  have cn : ((⟨#[112, 97, 105, 114, 115, 32]⟩ : ByteArray) ++ (⟨nw.toArray⟩ : ByteArray)) = ⟨([112, 97, 105, 114, 115, 32] ++ nw).toArray⟩ := two_cat [112, 97, 105, 114, 115, 32] nw
  have dn : 6 + nw.length ≤ 9223372036854775807 := by omega
  obtain ⟨nl, hnl⟩ : ∃ t, [112, 97, 105, 114, 115, 32] ++ nw = t := ⟨_, rfl⟩
  rw [hnl] at cn
  rw [hnl]
  clear hpl hpa hpn hnw hnl
  obtain ⟨y, hyy⟩ : ∃ y, w.heap.size = y := ⟨_, rfl⟩
  have HY := Lib.hid hyy
  have k0 : Same w ((w.alloc (.cells #[.int .u8 4, .int .i64 tx, encStr key, encStr sva, .int .i64 n, .bool d, .slice fa f.length ca] 30)).alloc (.cells #[.int .i64 id, .int .i64 ts, encStr val, .bool is, .slice pa pn pc]  39)) := ((Kept.refl _ w).alloc _).alloc _
  have b0 : Blk ((w.alloc (.cells #[.int .u8 4, .int .i64 tx, encStr key, encStr sva, .int .i64 n, .bool d, .slice fa f.length ca] 30)).alloc (.cells #[.int .i64 id, .int .i64 ts, encStr val, .bool is, .slice pa pn pc]  39)) y #[.int .u8 4, .int .i64 tx, encStr key, encStr sva, .int .i64 n, .bool d, .slice fa f.length ca] 30 := (Blk.new' _ _ _ hyy.symm).alloc _
  have c0 : Blk ((w.alloc (.cells #[.int .u8 4, .int .i64 tx, encStr key, encStr sva, .int .i64 n, .bool d, .slice fa f.length ca] 30)).alloc (.cells #[.int .i64 id, .int .i64 ts, encStr val, .bool is, .slice pa pn pc]  39)) (y + 1) #[.int .i64 id, .int .i64 ts, encStr val, .bool is, .slice pa pn pc]  39 := Blk.new' _ _ _ (by simp [hyy])
  go_enter Tryz.func22, Tryz.ntmps22
  go_upto_region 1 with fail
  refine cutC (fun wn => Blk wn y #[.int .u8 4, .int .i64 tx, encStr key, encStr sva, .int .i64 n, .bool d, .slice fa f.length ca] 30 ∧ Blk wn (y + 1) #[.int .i64 id, .int .i64 ts, encStr val, .bool is, .slice pa pn pc]  39 ∧ Same w wn) ⟨b0, c0, k0⟩ ?_
  clear b0 c0 k0
  rintro w0 ⟨b0, c0, k0⟩
  have K0 := Lib.hid k0
  have C7 := Lib.hid (fun w' (k : Same w0 w') => c0.kept k (fun h => h))
  have PA0 := Lib.hid (PA.out.same k0)
  obtain ⟨bs, hbz⟩ : ∃ bs, w0.heap.size = bs := ⟨_, rfl⟩
  have HBS := Lib.hid hbz
  clear hbz
  have p0 := cell_blk b0 0
  have r4 := cell_blk c0 4
  clear b0 c0 k0 PA
  go_wp2_with fail
  go_loopw [7, 8] (fun v t wr => ∃ i : Nat, t = .int .i64 i ∧ i ≤ pn ∧ OwnE txE wr bs 9 v (QS.take i) ∧ Same w0 wr) (fun _ t _ => pn - (intOf t).toNat)
  case atStart => exact ⟨0, rfl, by omega, OwnE.nil _ _ _, Kept.refl _ _⟩
  case round =>
    obtain ⟨i, rfl, hi, ho, hk⟩ := hrel
    have HO := Lib.hid ho; have HK := Lib.hid hk
    clear ho hk
    have hbs : bs ≤ wr.heap.size := by have := HK.out.size; have := HBS.out; omega
    by_cases hgo : i < pn
    · have h1 : (i : Int) < (pn : Int) := by omega
      have h0 : (0 : Int) ≤ (i : Int) := by omega
      have hil : i < ps.length := by have := PN.out; omega
      obtain ⟨p, hp⟩ : ∃ p, ps[i] = p := ⟨_, rfl⟩
      have hpe : ps[i]? = some p := by rw [List.getElem?_eq_getElem hil, hp]
      obtain ⟨b, off, rfl, hcl⟩ := pt_at (PA0.out.same HK.out) hpe
      obtain ⟨c0, c1⟩ := hcl wr (Kept.refl _ _)
      have hmem : p ∈ ps := List.mem_of_getElem? hpe
      have W1 := Lib.hid (fun w => (WD.out p hmem w).1); have W2 := Lib.hid (fun w => (WD.out p hmem w).2)
      have hw1 := word_len p.1; have hw2 := word_len p.2; have hpl := PL.out p hmem
      have TK := Lib.hid (show QS.take (i + 1) = QS.take i ++ [pairL p] by rw [List.take_add_one, HQ.out.2 i p hpe]; rfl)
      have LT := Lib.hid (show (QS.take i).length ≤ 40 by rw [List.length_take, HQ.out.1]; omega)
      obtain ⟨ls, hls⟩ : ∃ ls, QS.take i = ls := ⟨_, rfl⟩
      rw [hls] at HO TK LT
      have PE : Hid (pairL p = wordT p.1 ++ [32] ++ wordT p.2) := rfl
      obtain ⟨u1, hu1⟩ : ∃ u, wordT p.1 = u := ⟨_, rfl⟩
      obtain ⟨u2, hu2⟩ : ∃ u, wordT p.2 = u := ⟨_, rfl⟩
      rw [hu1] at W1 PE hw1
      rw [hu2] at W2 PE hw2
      have e1 := str_snoc u1 32
      have l1 : (u1 ++ [32]).length = u1.length + 1 := by simp
      obtain ⟨u3, hu3⟩ : ∃ u, u1 ++ [32] = u := ⟨_, rfl⟩
      rw [hu3] at e1 PE l1
      have e2 := two_cat u3 u2
      obtain ⟨u4, hu4⟩ : ∃ u, u3 ++ u2 = u := ⟨_, rfl⟩
      rw [hu4] at e2 PE
      have d1 : u1.length + 1 ≤ 9223372036854775807 := by omega
      have d1' : ¬ 9223372036854775807 < u1.length + 1 := by omega
      have d2 : u3.length + u2.length ≤ 9223372036854775807 := by omega
      have d2' : ¬ 9223372036854775807 < u3.length + u2.length := by omega
      obtain ⟨p1, p2⟩ := p
      simp only at c0 c1 W1 W2 hcl
      clear hls hu1 hu2 hu3 hu4 hpe hp hmem l1
      have r4 := cell_blk (C7.out wr HK.out) 4
      have HCL := Lib.hid hcl
      have CS := Lib.hid (fun w' (k : Same wr w') => cell_blk (C7.out w' (HK.out.trans k)) 4)
      clear hcl
      go_upto_region 15 with fail
      have k3 : Same wr wr := Kept.refl _ _
      have O3 := HO; have K3 := HK
      have hb3 := hbs
      refine wp_region_T (S := fun w' => Same wr w') 15 (by kernel_rfl) (Kept.refl _ _).drew (fun hHeld hDn => ?_)
      refine wpT_zw 0 48 hHeld hDn fun hDn => ?_
      refine wpT_zs 1 49 hHeld hDn fun hDn => ?_
      refine wpT_zs 2 50 (v := .slice (some ⟨b, off, none⟩) pn pc) hHeld hDn (fun hDn => ?_) (hv := by intro w hSw; have q := CS.out w hSw; go_simp)
      refine wpT_zs 3 51 hHeld hDn fun hDn => ?_
      refine wpT_zs 4 52 hHeld hDn fun hDn => ?_
      refine wpT_zs 5 53 hHeld hDn fun hDn => ?_
      refine wpT_zs 6 54 (v := encStr p1) hHeld hDn (fun hDn => ?_) (hv := by intro w hSw; have q := (HCL.out w hSw).1; go_simp)
      refine wpT_zs 9 57 hHeld hDn fun hDn => ?_
      refine wpT_zs 10 58 (v := .slice (some ⟨b, off, none⟩) pn pc) hHeld hDn (fun hDn => ?_) (hv := by intro w hSw; have q := CS.out w hSw; go_simp)
      refine wpT_zs 11 59 hHeld hDn fun hDn => ?_
      refine wpT_zs 12 60 hHeld hDn fun hDn => ?_
      refine wpT_zs 13 61 hHeld hDn fun hDn => ?_
      refine wpT_zs 14 62 (v := encStr p2) hHeld hDn (fun hDn => ?_) (hv := by intro w hSw; have q := (HCL.out w hSw).2; go_simp)
      refine wpT_one (i := 7) rfl (by kernel_rfl) hDn (fun K' hK => ?_)
      go_simp
      refine (W1.out _).mono ?_
      rintro e w4 ⟨rfl, k4⟩
      have k4 : Same wr w4 := (Kept.refl _ wr).drew.trans k4
      refine hK.out _ _ k4 (fun hHeld2 hDn2 => ?_)
      clear hK K' hHeld hDn
      have hHeld := hHeld2; have hDn := hDn2
      clear hHeld2 hDn2
      refine wpT_zw 8 56 (v := encStr u3) hHeld hDn (fun hDn => ?_) (hv := by intro w _; go_simp)
      refine wpT_last rfl (by kernel_rfl) hDn (fun K hK => ?_)
      go_simp
      refine (W2.out _).mono ?_
      rintro e w5 ⟨rfl, k5⟩
      have k5 : Same wr w5 := k4.trans k5
      refine hK.out _ _ (fun hDn' => ?_)
      clear hK K hDn hHeld; have hDn := hDn'; clear hDn'
      refine wpT_ze 16 64 (v := encStr u4) hDn (fun hDn => ?_) (hv := by intro w _; go_simp)
      refine wpT_oneF (i := 17) rfl (by kernel_rfl) rfl (by kernel_rfl) hDn (fun K hK => ?_)
      go_simp
      refine hK.out _ _ (fun hDn' => ?_)
      clear hK K hDn; have hDn := hDn'; clear hDn'
      refine wpT_oneF (i := 18) rfl (by kernel_rfl) rfl (by kernel_rfl) hDn (fun K hK => ?_)
      have kW : Same w5 (w5.alloc (.cells #[encStr u4] 9)) := (Kept.refl _ w5).alloc _
      refine step_appendE (E := txE) rfl _ _ 46 rfl bs 9 (.string ByteArray.empty) 16 Tryz.underlying46 txInfo rfl _ ls rfl (O3.out.same (k5.trans kW)) _ _ _ [u4] rfl rfl (els_lit w5 [u4]) (fun e => by cases e) (by have := LT.out; simp [maxLen]; omega) (by have := LT.out; simp; omega) (by have := k5.size; have := kW.size; omega) ?_
      intro v7 w7 o7 g7
      have K7 := Lib.hid ((K3.out.trans (k5.trans kW)).grown g7 (fun k hk hl => by have := (O3.out.far k hk).1; have := HBS.out; omega))
      have O7 := Lib.hid o7
      clear o7 g7 kW k5 k4 k3
      refine hK.out _ _ (fun hDn' => ?_)
      clear hK K hDn; have hDn := hDn'; clear hDn'
      refine wpT_ze 19 7 hDn fun hDn => ?_
      refine wpT_done (by kernel_rfl) ?_ _
      clear hDn
      go_wp2_with fail
      go_roundw
      case rel => exact ⟨i + 1, by go_num, by omega, by rw [TK.out, PE.out]; exact O7.out, K7.out⟩
      case measure => simp [intOf]; omega
    · have h1 : ¬ (i : Int) < (pn : Int) := by omega
      have e : i = pn := by omega
      subst e
      rw [List.take_of_length_le (by have := HQ.out.1; omega)] at HO
      obtain ⟨v5, w5, hrun, o5, k5⟩ := tx_push HO.out (by have := HK.out.size; have := HBS.out; omega) nl (by have := HQ.out.1; have := PN.out; omega)
      obtain ⟨aok, aV, aW⟩ := app_of hrun
      have K5 := Lib.hid ((K0.out.trans HK.out).step k5 (fun j hj q => by have := (HO.out.far j q).1; have := HBS.out; have := K0.out.size; omega))
      have O5 := Lib.hid o5
      have r4 := cell_blk (C7.out wr HK.out) 4
      clear hrun o5 k5 HO HK
      go_wp2_with fail
      refine (NN.out _).mono ?_
      rintro e w6 ⟨rfl, rfl⟩
      go_wp2_with fail
      go_ret
      obtain ⟨ta, tc, hv5, hta, -, htc, -⟩ := O5.out.els
      exact ⟨_, rfl, ⟨ta, tc, hv5, hta, htc⟩, K5.out⟩
end Go.Proofs.YtnjmdldhgconmaaGreatDoor
