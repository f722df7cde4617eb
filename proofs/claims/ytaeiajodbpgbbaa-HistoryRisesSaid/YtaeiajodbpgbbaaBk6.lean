/- Why an event may not be. -/
import Derived.Test.YtaeiajodbpgbbaaBk5
import Derived.Lib.QuietBelow
namespace Go.Proofs.Ytaeiajodbpgbbaa
open Go.RowKit Go.Sort Go.Shelf

theorem bk_see {w : World} {base base' B M p m N : Nat} {pb pm : Int → Nat} {b : HBk} {t : HTx} (hB : BkIn w base B M pb pm b N) (hN : N ≤ 100) (h : TxIn w base' p m t) (key : List UInt8) :
    Calls Try.prog 37 #[.pointer (some ⟨B, 0, none⟩), .pointer (some ⟨p, 0, none⟩), encStr key] w fun e w' => e = .returned (encW (b.see t key)) ∧ Same w w' := by
  cases hv : t.wrote key with
  | none =>
    have := see_log hB hN h key hv
    unfold HBk.see
    rw [hv]
    exact this
  | some v =>
    obtain ⟨v, o⟩ := v
    have := see_own (B := B) h key v o hv
    unfold HBk.see
    rw [hv]
    exact this
theorem TxIn.lenN {w : World} {base B M N : Nat} {pb pm : Int → Nat} {b : HBk} (hB : BkIn w base B M pb pm b N) (id : Int) : (b.of id).keys.length ≤ N := by
  unfold HBk.of
  cases h : b.txns id with
  | none => simp [tx0]
  | some t => exact (hB.tx id t h).2
theorem meets_eq {L : List HEl} {log : List (Int × List (List UInt8))} (h : L.map (fun x => (x.t, x.ks)) = log) (start : Int) (ms : List (List UInt8)) : L.any (laterB start ms) = log.any (mtK start ms) := by
  rw [← h, List.any_map]
  rfl
theorem Calls.quiet_samK {P : Program} {f : FuncId} {args : Array Value} {w : World} {d : Nat} {os : Array Obj} {v : Value}
    (h : Calls P f args (grow (redrawn w d) os) fun e w' => e = .returned v ∧ Same (grow (redrawn w d) os) w') : Calls P f args (grow (redrawn w d) os) fun e w'' => e = .returned v ∧ ∃ p : Regrown, w'' = grow (redrawn w p.d) p.os :=
  Calls.regrown_of (h.mono fun _ _ ⟨he, hk⟩ => ⟨he, hk.below (Nat.le_refl _) (fun _ _ q => q)⟩)
/-- may, by what it asks. -/
def mayC (k : Nat) (own known le live ne meets : Bool) : Nat :=
  if 5 < k then 13 else if own = false then 4 else if k = 0 ∧ (known = true ∨ le = true) then 12 else if k ≠ 0 ∧ live = false then 15 else if k = 3 ∧ le = true then 12 else if k = 1 ∧ ne = true then 10 else if k = 3 ∧ meets = true then 17 else if k = 4 ∧ meets = false then 11 else 0
theorem may_eq (b : HBk) (e : HEv) : b.may e = mayC e.k (ownB e) (b.txns e.x).isSome (decide (e.t ≤ b.top)) (b.of e.x).live (decide (b.see (b.of e.x) e.key ≠ (e.val, e.is))) (b.meets (b.of e.x)) := by
  unfold HBk.may mayC
  simp only [decide_eq_true_eq]
set_option maxRecDepth 100000 in
set_option maxHeartbeats 4000000 in
theorem bk_may {w : World} {base B M N : Nat} {pb pm : Int → Nat} {b : HBk} (hB : BkIn w base B M pb pm b N) (hN : N ≤ 100) (hbase : base ≤ w.heap.size) (x : HEv) (hk : x.key.length ≤ 100) (hv : x.val.length ≤ 100) :
    Calls Try.prog 25 #[.pointer (some ⟨B, 0, none⟩), .agg #[.int .u8 (x.k : Nat), .int .i64 x.x, .int .i64 x.t, encStr x.key, encStr x.val, .bool x.is]] w fun e w' => e = .returned (.int .i64 ((b.may x : Nat) : Int)) ∧ Same w w' := by
  obtain ⟨la, ll, lc, ba, bl, bc, L, h1, h2, h3, h4, -⟩ := hB.box
  have HK := Lib.hid hB; have HX := Lib.hid hbase
  have GB := Lib.hid h1; have GL := Lib.hid h2; have GE := Lib.hid h3; have GK := Lib.hid h4
  have HO := Lib.hid (fun w => bk_own x hk hv w)
  obtain ⟨r, hr⟩ : ∃ r, b.may x = r := ⟨_, rfl⟩
  rw [hr]
  rw [may_eq] at hr
  obtain ⟨k, id, t, key, val, is⟩ := x
  dsimp only at hk hv hr HO ⊢
  obtain ⟨ob, ho⟩ : ∃ ob, ownB ⟨k, id, t, key, val, is⟩ = ob := ⟨_, rfl⟩
  rw [ho] at hr HO
  obtain ⟨kb, hkb⟩ : ∃ kb, (b.txns id).isSome = kb := ⟨_, rfl⟩
  obtain ⟨lb, hlb⟩ : ∃ lb, decide (t ≤ b.top) = lb := ⟨_, rfl⟩
  obtain ⟨vb, hvb⟩ : ∃ vb, (b.of id).live = vb := ⟨_, rfl⟩
  obtain ⟨nb, hnb⟩ : ∃ nb, decide (b.see (b.of id) key ≠ (val, is)) = nb := ⟨_, rfl⟩
  obtain ⟨mb, hmb⟩ : ∃ mb, b.meets (b.of id) = mb := ⟨_, rfl⟩
  rw [hkb, hlb, hvb, hnb, hmb] at hr
  have HR := Lib.hid hr; have HKB := Lib.hid hkb; have HVB := Lib.hid hvb; have HNB := Lib.hid hnb; have HMB := Lib.hid hmb; have HLB := Lib.hid hlb
  clear hr hkb hvb hnb hmb hlb ho h1 h2 h3 h4 hB hbase hk hv
  go_enter Try.func25, Try.ntmps25
  go_upto_region 1 with fail
  obtain ⟨y, hy⟩ : ∃ y, w.heap.size = y := ⟨_, rfl⟩
  rw [hy]
  refine cutWl (fun wn => Fr wn [(y, #[.int .u8 (k : Nat), .int .i64 id, .int .i64 t, encStr key, encStr val, .bool is], 42)] ∧ Same w wn) ⟨⟨Blk.new' _ _ _ hy.symm, trivial⟩, (Kept.refl _ _).alloc _⟩ ?_
  rintro w4 ⟨hf4, k4⟩
  have F4 := Lib.hid hf4
  have K4 := Lib.hid k4
  clear hf4 k4 hy
  obtain ⟨top, htop⟩ : ∃ top, b.top = top := ⟨_, rfl⟩
  rw [htop] at GB HLB
  clear htop
  have q0 := fun dq os i => cell_blk (F4.out.1.kept (Kept.of_below (below_regrown w4 dq os)) (fun h => h)) i
  have q1 := fun dq os i => cell_blk (GB.out.kept (K4.out.trans (Kept.of_below (below_regrown w4 dq os))) (fun h => h)) i
  have q2 := fun dq os => MapK.look (P := Try.prog) (HK.out.map.same (K4.out.trans (Kept.of_below (below_regrown w4 dq os)))) Try.underlying70 Try.underlying3 id (zero_ptr _) true
  obtain ⟨pv, hpv⟩ : ∃ pv, (((b.txns id).map fun _ => Value.pointer (some ⟨pb id, 0, none⟩)).getD (.pointer none)) = pv := ⟨_, rfl⟩
  have hks : ((b.txns id).map fun _ => Value.pointer (some ⟨pb id, 0, none⟩)).isSome = kb := by rw [← HKB.out]; cases b.txns id <;> rfl
  simp only [hpv, hks, if_true] at q2
  clear hpv hks
  refine wp_region_quiet_below (by kernel_rfl) (by kernel_rfl) ?_
  repeat (first | go_big_quiet_step (fail) | quiet_step (fail))
  refine wpQuiet_nil ?_
  intro _ hw'
  obtain ⟨⟨dq, osq⟩, hw''⟩ := hw'
  subst hw''
  have kq := Lib.hid (show Same w4 _ from Kept.of_below (below_regrown w4 dq osq))
  clear q0 q1 q2
  obtain ⟨w5, hw5⟩ : ∃ w5, grow (redrawn w4 dq) osq = w5 := ⟨_, rfl⟩
  rw [hw5] at kq ⊢
  have F5 := Lib.hid (F4.out.same kq.out)
  have K5 := Lib.hid (K4.out.trans kq.out)
  have hsz := K5.out.size
  clear hw5 kq F4 K4
  have p0 := cell_blk F5.out.1
  have z0 := F5.out.1.lt
  have OF := Lib.hid (bk_of (HK.out.same K5.out) (Nat.le_trans HX.out hsz) id)
  go_wp2_with fail
  with_reducible refine OF.out.mono ?_
  rintro e w6 ⟨⟨p, m, rfl, htx, -⟩, k6⟩
  obtain ⟨ka, kn, kc, t1, t2, t3, t4, t5⟩ := htx
  have T1 := Lib.hid t1; have T2 := Lib.hid t2; have T3 := Lib.hid t3
  have TX := Lib.hid (show TxIn w6 base p m (b.of id) from ⟨ka, kn, kc, t1, t2, t3, t4, t5⟩)
  have F6 := Lib.hid (F5.out.same k6)
  have K6 := Lib.hid (K5.out.trans k6)
  clear F5 K5 p0 z0 OF t1 t2 t3 t4 t5 hsz k6
  have TL := Lib.hid (TxIn.lenN HK.out id)
  have CFI := Lib.hid (fun w' (k : Same w6 w') => cf_first (.slice la ll lc) L base (by rw [← List.length_map (f := fun x => (x.t, x.ks)), GE.out]; have := HK.out.ll; omega) w' (GL.out.same (K6.out.trans k)) (fun x hx => ⟨(GK.out x hx).1.same (K6.out.trans k), by have := (GK.out x hx).2; omega⟩) (b.of id).start ka kn kc (b.of id).keys T2.out.at.2 (by have := T2.out.at.2; have := TL.out; omega) (T2.out.at.1.same k))
  rw [show L.any (laterB (b.of id).start (b.of id).keys) = mb from by rw [meets_eq GE.out]; exact HMB.out] at CFI
  obtain ⟨ts, hts⟩ : ∃ ts, (b.of id).start = ts := ⟨_, rfl⟩
  rw [hts, HVB.out] at T1
  rw [hts] at CFI
  have HTS := Lib.hid hts
  clear hts
  have QX := Lib.hid (show ∀ w', Same w6 w' → (∀ i, w'.cell? ⟨B, i, none⟩ = (#[.int .i64 top, .map (some M), .slice la ll lc, .slice ba bl bc] : Array Value)[i]?) ∧ (∀ i, w'.cell? ⟨p, i, none⟩ = (#[.int .i64 ts, .bool vb, .slice ka kn kc, .map (some m)] : Array Value)[i]?) ∧ True ∧ True from fun w' k => ⟨cell_blk (GB.out.kept (K6.out.trans k) (fun h => h)), cell_blk (T1.out.kept k (fun h => h)), trivial, trivial⟩)
  go_wp2_with fail
  refine wp_region_T (S := fun w' => Same w6 w') 17 (by kernel_rfl) (Kept.refl _ _).drew (fun hHeld hDn => ?_)
  refine wpT_take (i := 0) (t := 25) (v := ?_) rfl rfl rfl (by kernel_rfl) (by kernel_rfl) (by kernel_rfl) (by kernel_rfl) (fun _ _ _ h => h) (Or.inl ⟨by rfl, ?_⟩) hHeld hDn (fun hDn' => ?_)
  rotate_left
  · (intro w hSw; have hQX := QX.out w hSw; obtain ⟨s1, s2, s3, s4⟩ := hQX; go_simp; (try with_reducible rfl))
  clear hDn; have hDn := hDn'; clear hDn'
  simp only [Act.put, List.setIfInBounds_toArray, List.set_cons_zero, List.set_cons_succ]
  refine wpT_take (i := 1) (t := 26) (v := ?_) rfl rfl rfl (by kernel_rfl) (by kernel_rfl) (by kernel_rfl) (by kernel_rfl) (fun _ _ _ h => h) (Or.inl ⟨by rfl, ?_⟩) hHeld hDn (fun hDn' => ?_)
  rotate_left
  · (intro w hSw; have hQX := QX.out w hSw; obtain ⟨s1, s2, s3, s4⟩ := hQX; go_simp; (try with_reducible rfl))
  clear hDn; have hDn := hDn'; clear hDn'
  simp only [Act.put, List.setIfInBounds_toArray, List.set_cons_zero, List.set_cons_succ]
  refine wpT_take (i := 2) (t := 27) (v := ?_) rfl rfl rfl (by kernel_rfl) (by kernel_rfl) (by kernel_rfl) (by kernel_rfl) (fun _ _ _ h => h) (Or.inl ⟨by rfl, ?_⟩) hHeld hDn (fun hDn' => ?_)
  rotate_left
  · (intro w hSw; have hQX := QX.out w hSw; obtain ⟨s1, s2, s3, s4⟩ := hQX; go_simp; (try with_reducible rfl))
  clear hDn; have hDn := hDn'; clear hDn'
  simp only [Act.put, List.setIfInBounds_toArray, List.set_cons_zero, List.set_cons_succ]
  refine wpT_take (i := 3) (t := 28) (v := ?_) rfl rfl rfl (by kernel_rfl) (by kernel_rfl) (by kernel_rfl) (by kernel_rfl) (fun _ _ _ h => h) (Or.inl ⟨by rfl, ?_⟩) hHeld hDn (fun hDn' => ?_)
  rotate_left
  · (intro w hSw; have hQX := QX.out w hSw; obtain ⟨s1, s2, s3, s4⟩ := hQX; go_simp; (try with_reducible rfl))
  clear hDn; have hDn := hDn'; clear hDn'
  simp only [Act.put, List.setIfInBounds_toArray, List.set_cons_zero, List.set_cons_succ]
  refine wpT_take (i := 4) (t := 29) (v := ?_) rfl rfl rfl (by kernel_rfl) (by kernel_rfl) (by kernel_rfl) (by kernel_rfl) (fun _ _ _ h => h) (Or.inl ⟨by rfl, ?_⟩) hHeld hDn (fun hDn' => ?_)
  rotate_left
  · (intro w hSw; have hQX := QX.out w hSw; obtain ⟨s1, s2, s3, s4⟩ := hQX; go_simp; (try with_reducible rfl))
  clear hDn; have hDn := hDn'; clear hDn'
  simp only [Act.put, List.setIfInBounds_toArray, List.set_cons_zero, List.set_cons_succ]
  refine wpT_take (i := 5) (t := 30) (v := ?_) rfl rfl rfl (by kernel_rfl) (by kernel_rfl) (by kernel_rfl) (by kernel_rfl) (fun _ _ _ h => h) (Or.inl ⟨by rfl, ?_⟩) hHeld hDn (fun hDn' => ?_)
  rotate_left
  · (intro w hSw; have hQX := QX.out w hSw; obtain ⟨s1, s2, s3, s4⟩ := hQX; go_simp; (try with_reducible rfl))
  clear hDn; have hDn := hDn'; clear hDn'
  simp only [Act.put, List.setIfInBounds_toArray, List.set_cons_zero, List.set_cons_succ]
  refine wpT_take (i := 6) (t := 31) (v := ?_) rfl rfl rfl (by kernel_rfl) (by kernel_rfl) (by kernel_rfl) (by kernel_rfl) (fun _ _ _ h => h) (Or.inl ⟨by rfl, ?_⟩) hHeld hDn (fun hDn' => ?_)
  rotate_left
  · (intro w hSw; have hQX := QX.out w hSw; obtain ⟨s1, s2, s3, s4⟩ := hQX; go_simp; (try with_reducible rfl))
  clear hDn; have hDn := hDn'; clear hDn'
  simp only [Act.put, List.setIfInBounds_toArray, List.set_cons_zero, List.set_cons_succ]
  refine wpT_take (i := 7) (t := 32) (v := ?_) rfl rfl rfl (by kernel_rfl) (by kernel_rfl) (by kernel_rfl) (by kernel_rfl) (fun _ _ _ h => h) (Or.inl ⟨by rfl, ?_⟩) hHeld hDn (fun hDn' => ?_)
  rotate_left
  · (intro w hSw; have hQX := QX.out w hSw; obtain ⟨s1, s2, s3, s4⟩ := hQX; go_simp; (try with_reducible rfl))
  clear hDn; have hDn := hDn'; clear hDn'
  simp only [Act.put, List.setIfInBounds_toArray, List.set_cons_zero, List.set_cons_succ]
  refine wpT_take (i := 8) (t := 33) (v := ?_) rfl rfl rfl (by kernel_rfl) (by kernel_rfl) (by kernel_rfl) (by kernel_rfl) (fun _ _ _ h => h) (Or.inl ⟨by rfl, ?_⟩) hHeld hDn (fun hDn' => ?_)
  rotate_left
  · (intro w hSw; have hQX := QX.out w hSw; obtain ⟨s1, s2, s3, s4⟩ := hQX; go_simp; (try with_reducible rfl))
  clear hDn; have hDn := hDn'; clear hDn'
  simp only [Act.put, List.setIfInBounds_toArray, List.set_cons_zero, List.set_cons_succ]
  refine wpT_take (i := 9) (t := 34) (v := ?_) rfl rfl rfl (by kernel_rfl) (by kernel_rfl) (by kernel_rfl) (by kernel_rfl) (fun _ _ _ h => h) (Or.inl ⟨by rfl, ?_⟩) hHeld hDn (fun hDn' => ?_)
  rotate_left
  · (intro w hSw; have hQX := QX.out w hSw; obtain ⟨s1, s2, s3, s4⟩ := hQX; go_simp; (try with_reducible rfl))
  clear hDn; have hDn := hDn'; clear hDn'
  simp only [Act.put, List.setIfInBounds_toArray, List.set_cons_zero, List.set_cons_succ]
  refine wpT_take (i := 10) (t := 35) (v := ?_) rfl rfl rfl (by kernel_rfl) (by kernel_rfl) (by kernel_rfl) (by kernel_rfl) (fun _ _ _ h => h) (Or.inl ⟨by rfl, ?_⟩) hHeld hDn (fun hDn' => ?_)
  rotate_left
  · (intro w hSw; have hQX := QX.out w hSw; obtain ⟨s1, s2, s3, s4⟩ := hQX; go_simp; (try with_reducible rfl))
  clear hDn; have hDn := hDn'; clear hDn'
  simp only [Act.put, List.setIfInBounds_toArray, List.set_cons_zero, List.set_cons_succ]
  refine wpT_take (i := 11) (t := 36) (v := ?_) rfl rfl rfl (by kernel_rfl) (by kernel_rfl) (by kernel_rfl) (by kernel_rfl) (fun _ _ _ h => h) (Or.inl ⟨by rfl, ?_⟩) hHeld hDn (fun hDn' => ?_)
  rotate_left
  · (intro w hSw; have hQX := QX.out w hSw; obtain ⟨s1, s2, s3, s4⟩ := hQX; go_simp; (try with_reducible rfl))
  clear hDn; have hDn := hDn'; clear hDn'
  simp only [Act.put, List.setIfInBounds_toArray, List.set_cons_zero, List.set_cons_succ]
  refine wpT_one (i := 12) rfl (by kernel_rfl) hDn (fun K' hK => ?_)
  go_simp
  with_reducible refine (CFI.out _ ((Kept.refl _ _).drew)).mono ?_
  rintro e w7 ⟨⟨z, rfl⟩, k7⟩
  refine hK.out _ _ ?_ (fun hHeld2 hDn2 => ?_)
  · exact ((Kept.refl _ _).drew).trans k7
  clear hK K' hHeld hDn
  have hHeld := hHeld2; have hDn := hDn2
  clear hHeld2 hDn2
  have k67 : Same w6 w7 := ((Kept.refl _ _).drew).trans k7
  have K7 := Lib.hid k67
  clear k67 k7 QX CFI
  refine wpT_take (i := 13) (t := 24) (v := ?_) rfl rfl rfl (by kernel_rfl) (by kernel_rfl) (by kernel_rfl) (by kernel_rfl) (fun _ _ _ h => h) (Or.inl ⟨by rfl, ?_⟩) hHeld hDn (fun hDn' => ?_)
  rotate_left
  · (intro w hSw; (try dsimp only at hSw); go_simp; (try with_reducible rfl))
  clear hDn; have hDn := hDn'; clear hDn'
  simp only [Act.put, List.setIfInBounds_toArray, List.set_cons_zero, List.set_cons_succ]
  refine wpT_take (i := 14) (t := 38) (v := ?_) rfl rfl rfl (by kernel_rfl) (by kernel_rfl) (by kernel_rfl) (by kernel_rfl) (fun _ _ _ h => h) (Or.inl ⟨by rfl, ?_⟩) hHeld hDn (fun hDn' => ?_)
  rotate_left
  · (intro w hSw; (try dsimp only at hSw); go_simp; (try with_reducible rfl))
  clear hDn; have hDn := hDn'; clear hDn'
  simp only [Act.put, List.setIfInBounds_toArray, List.set_cons_zero, List.set_cons_succ]
  refine wpT_take (i := 15) (t := 39) (v := ?_) rfl rfl rfl (by kernel_rfl) (by kernel_rfl) (by kernel_rfl) (by kernel_rfl) (fun _ _ _ h => h) (Or.inl ⟨by rfl, ?_⟩) hHeld hDn (fun hDn' => ?_)
  rotate_left
  · (intro w hSw; (try dsimp only at hSw); go_simp; (try with_reducible rfl))
  clear hDn; have hDn := hDn'; clear hDn'
  simp only [Act.put, List.setIfInBounds_toArray, List.set_cons_zero, List.set_cons_succ]
  refine wpT_take (i := 16) (t := 8) (v := ?_) rfl rfl rfl (by kernel_rfl) (by kernel_rfl) (by kernel_rfl) (by kernel_rfl) (fun _ _ _ h => h) (Or.inl ⟨by rfl, ?_⟩) hHeld hDn (fun hDn' => ?_)
  rotate_left
  · (intro w hSw; (try dsimp only at hSw); go_simp; (try with_reducible rfl))
  clear hDn; have hDn := hDn'; clear hDn'
  simp only [Act.put, List.setIfInBounds_toArray, List.set_cons_zero, List.set_cons_succ]
  refine wpT_last rfl (by kernel_rfl) hDn (fun K hK => ?_)
  go_simp
  refine hK.out _ _ (fun hDn' => ?_)
  clear hK K hDn hHeld; have hDn := hDn'; clear hDn'
  refine wpT_done (by kernel_rfl) ?_ _
  have KB := K6
  have F := Lib.hid (F6.out.same K7.out); have G := Lib.hid (GB.out.kept (K6.out.trans K7.out) (fun h => h)); have T := Lib.hid (T1.out.kept K7.out (fun h => h)); have K := Lib.hid (K6.out.trans K7.out); have KX := K7
  clear F6 GB T1 K6 K7 T2 T3 GL GE GK HX hDn
  have p0 := cell_blk F.out.1; have p1 := cell_blk G.out; have p2 := cell_blk T.out; have z0 := F.out.1.lt; have z1 := G.out.lt; have z2 := T.out.lt; have q0 := fun dq os i => cell_blk (F.out.1.kept (Kept.of_below (below_regrown w7 dq os)) (fun h => h)) i; have q1 := fun dq os i => cell_blk (G.out.kept (Kept.of_below (below_regrown w7 dq os)) (fun h => h)) i; have q2 := fun dq os i => cell_blk (T.out.kept (Kept.of_below (below_regrown w7 dq os)) (fun h => h)) i
  by_cases hk5 : 5 < k
  · have g5 : (5 : Int) < (k : Int) := by omega
    have HRR := Lib.hid (show 13 = r from by rw [← HR.out]; unfold mayC; rw [if_pos hk5])
    clear HR hk5
    go_wp2_with fail
    go_ret
    exact ⟨by rw [← HRR.out]; rfl, K.out⟩
  · have g5 : ¬ (5 : Int) < (k : Int) := by omega
    go_wp2_with fail
    with_reducible refine (HO.out _).mono ?_
    rintro e w8 ⟨rfl, k8⟩
    have FN := Lib.hid (F.out.same k8); have GN := Lib.hid (G.out.kept k8 (fun h => h)); have TN := Lib.hid (T.out.kept k8 (fun h => h)); have KN := Lib.hid (K.out.trans k8); have KM := Lib.hid (KX.out.trans k8); clear F G T K KX p0 p1 p2 q0 q1 q2 z0 z1 z2; have F := FN; have G := GN; have T := TN; have K := KN; have KX := KM; clear FN GN TN KN KM
    have p0 := cell_blk F.out.1; have p1 := cell_blk G.out; have p2 := cell_blk T.out; have z0 := F.out.1.lt; have z1 := G.out.lt; have z2 := T.out.lt; have q0 := fun dq os i => cell_blk (F.out.1.kept (Kept.of_below (below_regrown w8 dq os)) (fun h => h)) i; have q1 := fun dq os i => cell_blk (G.out.kept (Kept.of_below (below_regrown w8 dq os)) (fun h => h)) i; have q2 := fun dq os i => cell_blk (T.out.kept (Kept.of_below (below_regrown w8 dq os)) (fun h => h)) i
    clear k8
    cases ob
    · have HRR := Lib.hid (show 4 = r from by rw [← HR.out]; unfold mayC; rw [if_neg hk5, if_pos rfl])
      clear HR hk5 g5
      go_wp2_with fail
      go_ret
      exact ⟨by rw [← HRR.out]; rfl, K.out⟩
    · have SE := Lib.hid (fun w' (k : Same w6 w') => bk_see (HK.out.same (KB.out.trans k)) hN (TX.out.same k) key)
      obtain ⟨s, hs⟩ : ∃ s, b.see (b.of id) key = s := ⟨_, rfl⟩
      rw [hs] at SE
      obtain ⟨s0, s1⟩ := s
      have HNB2 := Lib.hid (show decide ((s0, s1) ≠ (val, is)) = nb from by rw [← HNB.out, hs])
      clear hs HNB HO HVB HMB HKB TX HTS TL
      have hkk : k = 0 ∨ k = 1 ∨ k = 2 ∨ k = 3 ∨ k = 4 ∨ k = 5 := by omega
      clear hk5 g5
      rcases hkk with rfl | rfl | rfl | rfl | rfl | rfl
      · clear SE
        cases kb
        · have gl := HLB.out
          cases lb
          · go_wp2_with fail
            refine wp_region_quiet_below (by kernel_rfl) (by kernel_rfl) ?_
            repeat (first | go_big_quiet_step (fail) | quiet_step (fail))
            refine wpQuiet_nil ?_
            intro _ hw'
            obtain ⟨⟨dq, osq⟩, hw''⟩ := hw'
            subst hw''
            have kq := Lib.hid (show Same w8 _ from Kept.of_below (below_regrown w8 dq osq))
            obtain ⟨w9, hV⟩ : ∃ V, grow (redrawn w8 dq) osq = V := ⟨_, rfl⟩
            rw [hV] at kq ⊢
            clear hV
            have FN := Lib.hid (F.out.same kq.out); have GN := Lib.hid (G.out.kept kq.out (fun h => h)); have TN := Lib.hid (T.out.kept kq.out (fun h => h)); have KN := Lib.hid (K.out.trans kq.out); have KM := Lib.hid (KX.out.trans kq.out); clear F G T K KX p0 p1 p2 q0 q1 q2 z0 z1 z2; have F := FN; have G := GN; have T := TN; have K := KN; have KX := KM; clear FN GN TN KN KM
            have p0 := cell_blk F.out.1; have p1 := cell_blk G.out; have p2 := cell_blk T.out; have z0 := F.out.1.lt; have z1 := G.out.lt; have z2 := T.out.lt; have q0 := fun dq os i => cell_blk (F.out.1.kept (Kept.of_below (below_regrown w9 dq os)) (fun h => h)) i; have q1 := fun dq os i => cell_blk (G.out.kept (Kept.of_below (below_regrown w9 dq os)) (fun h => h)) i; have q2 := fun dq os i => cell_blk (T.out.kept (Kept.of_below (below_regrown w9 dq os)) (fun h => h)) i
            clear kq
            go_wp2_with fail
            refine wp_region_quiet_below (by kernel_rfl) (by kernel_rfl) ?_
            repeat (first | go_big_quiet_step (fail) | quiet_step (fail))
            refine wpQuiet_nil ?_
            intro _ hw'
            obtain ⟨⟨dq, osq⟩, hw''⟩ := hw'
            subst hw''
            have kq := Lib.hid (show Same w9 _ from Kept.of_below (below_regrown w9 dq osq))
            obtain ⟨w10, hV⟩ : ∃ V, grow (redrawn w9 dq) osq = V := ⟨_, rfl⟩
            rw [hV] at kq ⊢
            clear hV
            have FN := Lib.hid (F.out.same kq.out); have GN := Lib.hid (G.out.kept kq.out (fun h => h)); have TN := Lib.hid (T.out.kept kq.out (fun h => h)); have KN := Lib.hid (K.out.trans kq.out); have KM := Lib.hid (KX.out.trans kq.out); clear F G T K KX p0 p1 p2 q0 q1 q2 z0 z1 z2; have F := FN; have G := GN; have T := TN; have K := KN; have KX := KM; clear FN GN TN KN KM
            have p0 := cell_blk F.out.1; have p1 := cell_blk G.out; have p2 := cell_blk T.out; have z0 := F.out.1.lt; have z1 := G.out.lt; have z2 := T.out.lt; have q0 := fun dq os i => cell_blk (F.out.1.kept (Kept.of_below (below_regrown w10 dq os)) (fun h => h)) i; have q1 := fun dq os i => cell_blk (G.out.kept (Kept.of_below (below_regrown w10 dq os)) (fun h => h)) i; have q2 := fun dq os i => cell_blk (T.out.kept (Kept.of_below (below_regrown w10 dq os)) (fun h => h)) i
            clear kq
            go_wp2_with fail
            refine wp_region_quiet_below (by kernel_rfl) (by kernel_rfl) ?_
            repeat (first | go_big_quiet_step (fail) | quiet_step (fail))
            refine wpQuiet_nil ?_
            intro _ hw'
            obtain ⟨⟨dq, osq⟩, hw''⟩ := hw'
            subst hw''
            have kq := Lib.hid (show Same w10 _ from Kept.of_below (below_regrown w10 dq osq))
            obtain ⟨wz, hV⟩ : ∃ V, grow (redrawn w10 dq) osq = V := ⟨_, rfl⟩
            rw [hV] at kq ⊢
            clear hV
            have FN := Lib.hid (F.out.same kq.out); have GN := Lib.hid (G.out.kept kq.out (fun h => h)); have TN := Lib.hid (T.out.kept kq.out (fun h => h)); have KN := Lib.hid (K.out.trans kq.out); have KM := Lib.hid (KX.out.trans kq.out); clear F G T K KX p0 p1 p2 q0 q1 q2 z0 z1 z2; have F := FN; have G := GN; have T := TN; have K := KN; have KX := KM; clear FN GN TN KN KM
            have p0 := cell_blk F.out.1; have p1 := cell_blk G.out; have p2 := cell_blk T.out; have z0 := F.out.1.lt; have z1 := G.out.lt; have z2 := T.out.lt; have q0 := fun dq os i => cell_blk (F.out.1.kept (Kept.of_below (below_regrown wz dq os)) (fun h => h)) i; have q1 := fun dq os i => cell_blk (G.out.kept (Kept.of_below (below_regrown wz dq os)) (fun h => h)) i; have q2 := fun dq os i => cell_blk (T.out.kept (Kept.of_below (below_regrown wz dq os)) (fun h => h)) i
            clear kq
            go_wp2_with fail
            go_ret
            exact ⟨by rw [← HR.out]; rfl, K.out⟩
          · go_wp2_with fail
            refine wp_region_quiet_below (by kernel_rfl) (by kernel_rfl) ?_
            repeat (first | go_big_quiet_step (fail) | quiet_step (fail))
            refine wpQuiet_nil ?_
            intro _ hw'
            obtain ⟨⟨dq, osq⟩, hw''⟩ := hw'
            subst hw''
            have kq := Lib.hid (show Same w8 _ from Kept.of_below (below_regrown w8 dq osq))
            obtain ⟨w9, hV⟩ : ∃ V, grow (redrawn w8 dq) osq = V := ⟨_, rfl⟩
            rw [hV] at kq ⊢
            clear hV
            have FN := Lib.hid (F.out.same kq.out); have GN := Lib.hid (G.out.kept kq.out (fun h => h)); have TN := Lib.hid (T.out.kept kq.out (fun h => h)); have KN := Lib.hid (K.out.trans kq.out); have KM := Lib.hid (KX.out.trans kq.out); clear F G T K KX p0 p1 p2 q0 q1 q2 z0 z1 z2; have F := FN; have G := GN; have T := TN; have K := KN; have KX := KM; clear FN GN TN KN KM
            have p0 := cell_blk F.out.1; have p1 := cell_blk G.out; have p2 := cell_blk T.out; have z0 := F.out.1.lt; have z1 := G.out.lt; have z2 := T.out.lt; have q0 := fun dq os i => cell_blk (F.out.1.kept (Kept.of_below (below_regrown w9 dq os)) (fun h => h)) i; have q1 := fun dq os i => cell_blk (G.out.kept (Kept.of_below (below_regrown w9 dq os)) (fun h => h)) i; have q2 := fun dq os i => cell_blk (T.out.kept (Kept.of_below (below_regrown w9 dq os)) (fun h => h)) i
            clear kq
            go_wp2_with fail
            go_ret
            exact ⟨by rw [← HR.out]; rfl, K.out⟩
        · go_wp2_with fail
          refine wp_region_quiet_below (by kernel_rfl) (by kernel_rfl) ?_
          repeat (first | go_big_quiet_step (fail) | quiet_step (fail))
          refine wpQuiet_nil ?_
          intro _ hw'
          obtain ⟨⟨dq, osq⟩, hw''⟩ := hw'
          subst hw''
          have kq := Lib.hid (show Same w8 _ from Kept.of_below (below_regrown w8 dq osq))
          obtain ⟨w9, hV⟩ : ∃ V, grow (redrawn w8 dq) osq = V := ⟨_, rfl⟩
          rw [hV] at kq ⊢
          clear hV
          have FN := Lib.hid (F.out.same kq.out); have GN := Lib.hid (G.out.kept kq.out (fun h => h)); have TN := Lib.hid (T.out.kept kq.out (fun h => h)); have KN := Lib.hid (K.out.trans kq.out); have KM := Lib.hid (KX.out.trans kq.out); clear F G T K KX p0 p1 p2 q0 q1 q2 z0 z1 z2; have F := FN; have G := GN; have T := TN; have K := KN; have KX := KM; clear FN GN TN KN KM
          have p0 := cell_blk F.out.1; have p1 := cell_blk G.out; have p2 := cell_blk T.out; have z0 := F.out.1.lt; have z1 := G.out.lt; have z2 := T.out.lt; have q0 := fun dq os i => cell_blk (F.out.1.kept (Kept.of_below (below_regrown w9 dq os)) (fun h => h)) i; have q1 := fun dq os i => cell_blk (G.out.kept (Kept.of_below (below_regrown w9 dq os)) (fun h => h)) i; have q2 := fun dq os i => cell_blk (T.out.kept (Kept.of_below (below_regrown w9 dq os)) (fun h => h)) i
          clear kq
          go_wp2_with fail
          go_ret
          exact ⟨by rw [← HR.out]; rfl, K.out⟩
      · cases vb
        · go_wp2_with fail
          refine wp_region_quiet_below (by kernel_rfl) (by kernel_rfl) ?_
          repeat (first | go_big_quiet_step (fail) | quiet_step (fail))
          refine wpQuiet_nil ?_
          intro _ hw'
          obtain ⟨⟨dq, osq⟩, hw''⟩ := hw'
          subst hw''
          have kq := Lib.hid (show Same w8 _ from Kept.of_below (below_regrown w8 dq osq))
          obtain ⟨w9, hV⟩ : ∃ V, grow (redrawn w8 dq) osq = V := ⟨_, rfl⟩
          rw [hV] at kq ⊢
          clear hV
          have FN := Lib.hid (F.out.same kq.out); have GN := Lib.hid (G.out.kept kq.out (fun h => h)); have TN := Lib.hid (T.out.kept kq.out (fun h => h)); have KN := Lib.hid (K.out.trans kq.out); have KM := Lib.hid (KX.out.trans kq.out); clear F G T K KX p0 p1 p2 q0 q1 q2 z0 z1 z2; have F := FN; have G := GN; have T := TN; have K := KN; have KX := KM; clear FN GN TN KN KM
          have p0 := cell_blk F.out.1; have p1 := cell_blk G.out; have p2 := cell_blk T.out; have z0 := F.out.1.lt; have z1 := G.out.lt; have z2 := T.out.lt; have q0 := fun dq os i => cell_blk (F.out.1.kept (Kept.of_below (below_regrown w9 dq os)) (fun h => h)) i; have q1 := fun dq os i => cell_blk (G.out.kept (Kept.of_below (below_regrown w9 dq os)) (fun h => h)) i; have q2 := fun dq os i => cell_blk (T.out.kept (Kept.of_below (below_regrown w9 dq os)) (fun h => h)) i
          clear kq
          go_wp2_with fail
          go_ret
          exact ⟨by rw [← HR.out]; rfl, K.out⟩
        · go_wp2_with fail
          refine wp_region_quiet_below (by kernel_rfl) (by kernel_rfl) ?_
          repeat (first | go_big_quiet_step (fail) | quiet_step (fail))
          refine wpQuiet_nil ?_
          intro _ hw'
          obtain ⟨⟨dq, osq⟩, hw''⟩ := hw'
          subst hw''
          have kq := Lib.hid (show Same w8 _ from Kept.of_below (below_regrown w8 dq osq))
          obtain ⟨w9, hV⟩ : ∃ V, grow (redrawn w8 dq) osq = V := ⟨_, rfl⟩
          rw [hV] at kq ⊢
          clear hV
          have FN := Lib.hid (F.out.same kq.out); have GN := Lib.hid (G.out.kept kq.out (fun h => h)); have TN := Lib.hid (T.out.kept kq.out (fun h => h)); have KN := Lib.hid (K.out.trans kq.out); have KM := Lib.hid (KX.out.trans kq.out); clear F G T K KX p0 p1 p2 q0 q1 q2 z0 z1 z2; have F := FN; have G := GN; have T := TN; have K := KN; have KX := KM; clear FN GN TN KN KM
          have p0 := cell_blk F.out.1; have p1 := cell_blk G.out; have p2 := cell_blk T.out; have z0 := F.out.1.lt; have z1 := G.out.lt; have z2 := T.out.lt; have q0 := fun dq os i => cell_blk (F.out.1.kept (Kept.of_below (below_regrown w9 dq os)) (fun h => h)) i; have q1 := fun dq os i => cell_blk (G.out.kept (Kept.of_below (below_regrown w9 dq os)) (fun h => h)) i; have q2 := fun dq os i => cell_blk (T.out.kept (Kept.of_below (below_regrown w9 dq os)) (fun h => h)) i
          clear kq
          go_wp2_with fail
          refine wp_region_quiet_below (by kernel_rfl) (by kernel_rfl) ?_
          repeat (first | go_big_quiet_step (fail) | quiet_step (fail))
          refine wpQuiet_nil ?_
          intro _ hw'
          obtain ⟨⟨dq, osq⟩, hw''⟩ := hw'
          subst hw''
          have kq := Lib.hid (show Same w9 _ from Kept.of_below (below_regrown w9 dq osq))
          obtain ⟨w10, hV⟩ : ∃ V, grow (redrawn w9 dq) osq = V := ⟨_, rfl⟩
          rw [hV] at kq ⊢
          clear hV
          have FN := Lib.hid (F.out.same kq.out); have GN := Lib.hid (G.out.kept kq.out (fun h => h)); have TN := Lib.hid (T.out.kept kq.out (fun h => h)); have KN := Lib.hid (K.out.trans kq.out); have KM := Lib.hid (KX.out.trans kq.out); clear F G T K KX p0 p1 p2 q0 q1 q2 z0 z1 z2; have F := FN; have G := GN; have T := TN; have K := KN; have KX := KM; clear FN GN TN KN KM
          have p0 := cell_blk F.out.1; have p1 := cell_blk G.out; have p2 := cell_blk T.out; have z0 := F.out.1.lt; have z1 := G.out.lt; have z2 := T.out.lt; have q0 := fun dq os i => cell_blk (F.out.1.kept (Kept.of_below (below_regrown w10 dq os)) (fun h => h)) i; have q1 := fun dq os i => cell_blk (G.out.kept (Kept.of_below (below_regrown w10 dq os)) (fun h => h)) i; have q2 := fun dq os i => cell_blk (T.out.kept (Kept.of_below (below_regrown w10 dq os)) (fun h => h)) i
          clear kq
          have C1 : ∀ d os, Calls Try.prog 37 #[.pointer (some ⟨B, 0, none⟩), .pointer (some ⟨p, 0, none⟩), encStr key] (grow (redrawn w10 d) os) fun e w'' => e = .returned (.agg #[encStr s0, .bool s1]) ∧ ∃ p : Regrown, w'' = grow (redrawn w10 p.d) p.os := fun d os => Calls.quiet_samK (SE.out _ (KX.out.trans (Kept.of_below (below_regrown _ d os))))
          have C1 := Lib.hid C1
          clear SE
          by_cases e0 : s0 = val
          · by_cases e1 : s1 = is
            · have hnb : nb = false := by rw [← HNB2.out, e0, e1]; simp
              subst hnb
              subst e0 e1
              go_wp2_with fail
              refine wp_region_quiet_below (by kernel_rfl) (by kernel_rfl) ?_
              repeat (first | go_big_quiet_step (with_reducible exact C1.out _ _) | quiet_step (with_reducible exact C1.out _ _))
              refine wpQuiet_nil ?_
              intro _ hw'
              obtain ⟨⟨dq, osq⟩, hw''⟩ := hw'
              subst hw''
              have kq := Lib.hid (show Same w10 _ from Kept.of_below (below_regrown w10 dq osq))
              obtain ⟨w11, hV⟩ : ∃ V, grow (redrawn w10 dq) osq = V := ⟨_, rfl⟩
              rw [hV] at kq ⊢
              clear hV
              have FN := Lib.hid (F.out.same kq.out); have GN := Lib.hid (G.out.kept kq.out (fun h => h)); have TN := Lib.hid (T.out.kept kq.out (fun h => h)); have KN := Lib.hid (K.out.trans kq.out); have KM := Lib.hid (KX.out.trans kq.out); clear F G T K KX p0 p1 p2 q0 q1 q2 z0 z1 z2; have F := FN; have G := GN; have T := TN; have K := KN; have KX := KM; clear FN GN TN KN KM
              have p0 := cell_blk F.out.1; have p1 := cell_blk G.out; have p2 := cell_blk T.out; have z0 := F.out.1.lt; have z1 := G.out.lt; have z2 := T.out.lt; have q0 := fun dq os i => cell_blk (F.out.1.kept (Kept.of_below (below_regrown w11 dq os)) (fun h => h)) i; have q1 := fun dq os i => cell_blk (G.out.kept (Kept.of_below (below_regrown w11 dq os)) (fun h => h)) i; have q2 := fun dq os i => cell_blk (T.out.kept (Kept.of_below (below_regrown w11 dq os)) (fun h => h)) i
              clear kq
              go_wp2_with fail
              go_ret
              exact ⟨by rw [← HR.out]; rfl, K.out⟩
            · have hnb : nb = true := by rw [← HNB2.out, e0]; simp [e1]
              subst hnb
              subst e0
              go_wp2_with fail
              refine wp_region_quiet_below (by kernel_rfl) (by kernel_rfl) ?_
              repeat (first | go_big_quiet_step (with_reducible exact C1.out _ _) | quiet_step (with_reducible exact C1.out _ _))
              refine wpQuiet_nil ?_
              intro _ hw'
              obtain ⟨⟨dq, osq⟩, hw''⟩ := hw'
              subst hw''
              have kq := Lib.hid (show Same w10 _ from Kept.of_below (below_regrown w10 dq osq))
              obtain ⟨w11, hV⟩ : ∃ V, grow (redrawn w10 dq) osq = V := ⟨_, rfl⟩
              rw [hV] at kq ⊢
              clear hV
              have FN := Lib.hid (F.out.same kq.out); have GN := Lib.hid (G.out.kept kq.out (fun h => h)); have TN := Lib.hid (T.out.kept kq.out (fun h => h)); have KN := Lib.hid (K.out.trans kq.out); have KM := Lib.hid (KX.out.trans kq.out); clear F G T K KX p0 p1 p2 q0 q1 q2 z0 z1 z2; have F := FN; have G := GN; have T := TN; have K := KN; have KX := KM; clear FN GN TN KN KM
              have p0 := cell_blk F.out.1; have p1 := cell_blk G.out; have p2 := cell_blk T.out; have z0 := F.out.1.lt; have z1 := G.out.lt; have z2 := T.out.lt; have q0 := fun dq os i => cell_blk (F.out.1.kept (Kept.of_below (below_regrown w11 dq os)) (fun h => h)) i; have q1 := fun dq os i => cell_blk (G.out.kept (Kept.of_below (below_regrown w11 dq os)) (fun h => h)) i; have q2 := fun dq os i => cell_blk (T.out.kept (Kept.of_below (below_regrown w11 dq os)) (fun h => h)) i
              clear kq
              go_wp2_with fail
              go_ret
              exact ⟨by rw [← HR.out]; rfl, K.out⟩
          · have hnb : nb = true := by rw [← HNB2.out]; simp [e0]
            subst hnb
            go_wp2_with fail
            refine wp_region_quiet_below (by kernel_rfl) (by kernel_rfl) ?_
            repeat (first | go_big_quiet_step (with_reducible exact C1.out _ _) | quiet_step (with_reducible exact C1.out _ _))
            refine wpQuiet_nil ?_
            intro _ hw'
            obtain ⟨⟨dq, osq⟩, hw''⟩ := hw'
            subst hw''
            have kq := Lib.hid (show Same w10 _ from Kept.of_below (below_regrown w10 dq osq))
            obtain ⟨w11, hV⟩ : ∃ V, grow (redrawn w10 dq) osq = V := ⟨_, rfl⟩
            rw [hV] at kq ⊢
            clear hV
            have FN := Lib.hid (F.out.same kq.out); have GN := Lib.hid (G.out.kept kq.out (fun h => h)); have TN := Lib.hid (T.out.kept kq.out (fun h => h)); have KN := Lib.hid (K.out.trans kq.out); have KM := Lib.hid (KX.out.trans kq.out); clear F G T K KX p0 p1 p2 q0 q1 q2 z0 z1 z2; have F := FN; have G := GN; have T := TN; have K := KN; have KX := KM; clear FN GN TN KN KM
            have p0 := cell_blk F.out.1; have p1 := cell_blk G.out; have p2 := cell_blk T.out; have z0 := F.out.1.lt; have z1 := G.out.lt; have z2 := T.out.lt; have q0 := fun dq os i => cell_blk (F.out.1.kept (Kept.of_below (below_regrown w11 dq os)) (fun h => h)) i; have q1 := fun dq os i => cell_blk (G.out.kept (Kept.of_below (below_regrown w11 dq os)) (fun h => h)) i; have q2 := fun dq os i => cell_blk (T.out.kept (Kept.of_below (below_regrown w11 dq os)) (fun h => h)) i
            clear kq
            go_wp2_with fail
            go_ret
            exact ⟨by rw [← HR.out]; rfl, K.out⟩
      · clear SE
        cases vb
        · go_wp2_with fail
          refine wp_region_quiet_below (by kernel_rfl) (by kernel_rfl) ?_
          repeat (first | go_big_quiet_step (fail) | quiet_step (fail))
          refine wpQuiet_nil ?_
          intro _ hw'
          obtain ⟨⟨dq, osq⟩, hw''⟩ := hw'
          subst hw''
          have kq := Lib.hid (show Same w8 _ from Kept.of_below (below_regrown w8 dq osq))
          obtain ⟨w9, hV⟩ : ∃ V, grow (redrawn w8 dq) osq = V := ⟨_, rfl⟩
          rw [hV] at kq ⊢
          clear hV
          have FN := Lib.hid (F.out.same kq.out); have GN := Lib.hid (G.out.kept kq.out (fun h => h)); have TN := Lib.hid (T.out.kept kq.out (fun h => h)); have KN := Lib.hid (K.out.trans kq.out); have KM := Lib.hid (KX.out.trans kq.out); clear F G T K KX p0 p1 p2 q0 q1 q2 z0 z1 z2; have F := FN; have G := GN; have T := TN; have K := KN; have KX := KM; clear FN GN TN KN KM
          have p0 := cell_blk F.out.1; have p1 := cell_blk G.out; have p2 := cell_blk T.out; have z0 := F.out.1.lt; have z1 := G.out.lt; have z2 := T.out.lt; have q0 := fun dq os i => cell_blk (F.out.1.kept (Kept.of_below (below_regrown w9 dq os)) (fun h => h)) i; have q1 := fun dq os i => cell_blk (G.out.kept (Kept.of_below (below_regrown w9 dq os)) (fun h => h)) i; have q2 := fun dq os i => cell_blk (T.out.kept (Kept.of_below (below_regrown w9 dq os)) (fun h => h)) i
          clear kq
          go_wp2_with fail
          go_ret
          exact ⟨by rw [← HR.out]; rfl, K.out⟩
        · go_wp2_with fail
          refine wp_region_quiet_below (by kernel_rfl) (by kernel_rfl) ?_
          repeat (first | go_big_quiet_step (fail) | quiet_step (fail))
          refine wpQuiet_nil ?_
          intro _ hw'
          obtain ⟨⟨dq, osq⟩, hw''⟩ := hw'
          subst hw''
          have kq := Lib.hid (show Same w8 _ from Kept.of_below (below_regrown w8 dq osq))
          obtain ⟨w9, hV⟩ : ∃ V, grow (redrawn w8 dq) osq = V := ⟨_, rfl⟩
          rw [hV] at kq ⊢
          clear hV
          have FN := Lib.hid (F.out.same kq.out); have GN := Lib.hid (G.out.kept kq.out (fun h => h)); have TN := Lib.hid (T.out.kept kq.out (fun h => h)); have KN := Lib.hid (K.out.trans kq.out); have KM := Lib.hid (KX.out.trans kq.out); clear F G T K KX p0 p1 p2 q0 q1 q2 z0 z1 z2; have F := FN; have G := GN; have T := TN; have K := KN; have KX := KM; clear FN GN TN KN KM
          have p0 := cell_blk F.out.1; have p1 := cell_blk G.out; have p2 := cell_blk T.out; have z0 := F.out.1.lt; have z1 := G.out.lt; have z2 := T.out.lt; have q0 := fun dq os i => cell_blk (F.out.1.kept (Kept.of_below (below_regrown w9 dq os)) (fun h => h)) i; have q1 := fun dq os i => cell_blk (G.out.kept (Kept.of_below (below_regrown w9 dq os)) (fun h => h)) i; have q2 := fun dq os i => cell_blk (T.out.kept (Kept.of_below (below_regrown w9 dq os)) (fun h => h)) i
          clear kq
          go_wp2_with fail
          refine wp_region_quiet_below (by kernel_rfl) (by kernel_rfl) ?_
          repeat (first | go_big_quiet_step (fail) | quiet_step (fail))
          refine wpQuiet_nil ?_
          intro _ hw'
          obtain ⟨⟨dq, osq⟩, hw''⟩ := hw'
          subst hw''
          have kq := Lib.hid (show Same w9 _ from Kept.of_below (below_regrown w9 dq osq))
          obtain ⟨w10, hV⟩ : ∃ V, grow (redrawn w9 dq) osq = V := ⟨_, rfl⟩
          rw [hV] at kq ⊢
          clear hV
          have FN := Lib.hid (F.out.same kq.out); have GN := Lib.hid (G.out.kept kq.out (fun h => h)); have TN := Lib.hid (T.out.kept kq.out (fun h => h)); have KN := Lib.hid (K.out.trans kq.out); have KM := Lib.hid (KX.out.trans kq.out); clear F G T K KX p0 p1 p2 q0 q1 q2 z0 z1 z2; have F := FN; have G := GN; have T := TN; have K := KN; have KX := KM; clear FN GN TN KN KM
          have p0 := cell_blk F.out.1; have p1 := cell_blk G.out; have p2 := cell_blk T.out; have z0 := F.out.1.lt; have z1 := G.out.lt; have z2 := T.out.lt; have q0 := fun dq os i => cell_blk (F.out.1.kept (Kept.of_below (below_regrown w10 dq os)) (fun h => h)) i; have q1 := fun dq os i => cell_blk (G.out.kept (Kept.of_below (below_regrown w10 dq os)) (fun h => h)) i; have q2 := fun dq os i => cell_blk (T.out.kept (Kept.of_below (below_regrown w10 dq os)) (fun h => h)) i
          clear kq
          go_wp2_with fail
          refine wp_region_quiet_below (by kernel_rfl) (by kernel_rfl) ?_
          repeat (first | go_big_quiet_step (fail) | quiet_step (fail))
          refine wpQuiet_nil ?_
          intro _ hw'
          obtain ⟨⟨dq, osq⟩, hw''⟩ := hw'
          subst hw''
          have kq := Lib.hid (show Same w10 _ from Kept.of_below (below_regrown w10 dq osq))
          obtain ⟨wz, hV⟩ : ∃ V, grow (redrawn w10 dq) osq = V := ⟨_, rfl⟩
          rw [hV] at kq ⊢
          clear hV
          have FN := Lib.hid (F.out.same kq.out); have GN := Lib.hid (G.out.kept kq.out (fun h => h)); have TN := Lib.hid (T.out.kept kq.out (fun h => h)); have KN := Lib.hid (K.out.trans kq.out); have KM := Lib.hid (KX.out.trans kq.out); clear F G T K KX p0 p1 p2 q0 q1 q2 z0 z1 z2; have F := FN; have G := GN; have T := TN; have K := KN; have KX := KM; clear FN GN TN KN KM
          have p0 := cell_blk F.out.1; have p1 := cell_blk G.out; have p2 := cell_blk T.out; have z0 := F.out.1.lt; have z1 := G.out.lt; have z2 := T.out.lt; have q0 := fun dq os i => cell_blk (F.out.1.kept (Kept.of_below (below_regrown wz dq os)) (fun h => h)) i; have q1 := fun dq os i => cell_blk (G.out.kept (Kept.of_below (below_regrown wz dq os)) (fun h => h)) i; have q2 := fun dq os i => cell_blk (T.out.kept (Kept.of_below (below_regrown wz dq os)) (fun h => h)) i
          clear kq
          go_wp2_with fail
          go_ret
          exact ⟨by rw [← HR.out]; rfl, K.out⟩
      · clear SE
        cases vb
        · go_wp2_with fail
          refine wp_region_quiet_below (by kernel_rfl) (by kernel_rfl) ?_
          repeat (first | go_big_quiet_step (fail) | quiet_step (fail))
          refine wpQuiet_nil ?_
          intro _ hw'
          obtain ⟨⟨dq, osq⟩, hw''⟩ := hw'
          subst hw''
          have kq := Lib.hid (show Same w8 _ from Kept.of_below (below_regrown w8 dq osq))
          obtain ⟨w9, hV⟩ : ∃ V, grow (redrawn w8 dq) osq = V := ⟨_, rfl⟩
          rw [hV] at kq ⊢
          clear hV
          have FN := Lib.hid (F.out.same kq.out); have GN := Lib.hid (G.out.kept kq.out (fun h => h)); have TN := Lib.hid (T.out.kept kq.out (fun h => h)); have KN := Lib.hid (K.out.trans kq.out); have KM := Lib.hid (KX.out.trans kq.out); clear F G T K KX p0 p1 p2 q0 q1 q2 z0 z1 z2; have F := FN; have G := GN; have T := TN; have K := KN; have KX := KM; clear FN GN TN KN KM
          have p0 := cell_blk F.out.1; have p1 := cell_blk G.out; have p2 := cell_blk T.out; have z0 := F.out.1.lt; have z1 := G.out.lt; have z2 := T.out.lt; have q0 := fun dq os i => cell_blk (F.out.1.kept (Kept.of_below (below_regrown w9 dq os)) (fun h => h)) i; have q1 := fun dq os i => cell_blk (G.out.kept (Kept.of_below (below_regrown w9 dq os)) (fun h => h)) i; have q2 := fun dq os i => cell_blk (T.out.kept (Kept.of_below (below_regrown w9 dq os)) (fun h => h)) i
          clear kq
          go_wp2_with fail
          go_ret
          exact ⟨by rw [← HR.out]; rfl, K.out⟩
        · have gl := HLB.out
          cases lb
          · cases mb
            · go_wp2_with fail
              refine wp_region_quiet_below (by kernel_rfl) (by kernel_rfl) ?_
              repeat (first | go_big_quiet_step (fail) | quiet_step (fail))
              refine wpQuiet_nil ?_
              intro _ hw'
              obtain ⟨⟨dq, osq⟩, hw''⟩ := hw'
              subst hw''
              have kq := Lib.hid (show Same w8 _ from Kept.of_below (below_regrown w8 dq osq))
              obtain ⟨w9, hV⟩ : ∃ V, grow (redrawn w8 dq) osq = V := ⟨_, rfl⟩
              rw [hV] at kq ⊢
              clear hV
              have FN := Lib.hid (F.out.same kq.out); have GN := Lib.hid (G.out.kept kq.out (fun h => h)); have TN := Lib.hid (T.out.kept kq.out (fun h => h)); have KN := Lib.hid (K.out.trans kq.out); have KM := Lib.hid (KX.out.trans kq.out); clear F G T K KX p0 p1 p2 q0 q1 q2 z0 z1 z2; have F := FN; have G := GN; have T := TN; have K := KN; have KX := KM; clear FN GN TN KN KM
              have p0 := cell_blk F.out.1; have p1 := cell_blk G.out; have p2 := cell_blk T.out; have z0 := F.out.1.lt; have z1 := G.out.lt; have z2 := T.out.lt; have q0 := fun dq os i => cell_blk (F.out.1.kept (Kept.of_below (below_regrown w9 dq os)) (fun h => h)) i; have q1 := fun dq os i => cell_blk (G.out.kept (Kept.of_below (below_regrown w9 dq os)) (fun h => h)) i; have q2 := fun dq os i => cell_blk (T.out.kept (Kept.of_below (below_regrown w9 dq os)) (fun h => h)) i
              clear kq
              go_wp2_with fail
              refine wp_region_quiet_below (by kernel_rfl) (by kernel_rfl) ?_
              repeat (first | go_big_quiet_step (fail) | quiet_step (fail))
              refine wpQuiet_nil ?_
              intro _ hw'
              obtain ⟨⟨dq, osq⟩, hw''⟩ := hw'
              subst hw''
              have kq := Lib.hid (show Same w9 _ from Kept.of_below (below_regrown w9 dq osq))
              obtain ⟨w10, hV⟩ : ∃ V, grow (redrawn w9 dq) osq = V := ⟨_, rfl⟩
              rw [hV] at kq ⊢
              clear hV
              have FN := Lib.hid (F.out.same kq.out); have GN := Lib.hid (G.out.kept kq.out (fun h => h)); have TN := Lib.hid (T.out.kept kq.out (fun h => h)); have KN := Lib.hid (K.out.trans kq.out); have KM := Lib.hid (KX.out.trans kq.out); clear F G T K KX p0 p1 p2 q0 q1 q2 z0 z1 z2; have F := FN; have G := GN; have T := TN; have K := KN; have KX := KM; clear FN GN TN KN KM
              have p0 := cell_blk F.out.1; have p1 := cell_blk G.out; have p2 := cell_blk T.out; have z0 := F.out.1.lt; have z1 := G.out.lt; have z2 := T.out.lt; have q0 := fun dq os i => cell_blk (F.out.1.kept (Kept.of_below (below_regrown w10 dq os)) (fun h => h)) i; have q1 := fun dq os i => cell_blk (G.out.kept (Kept.of_below (below_regrown w10 dq os)) (fun h => h)) i; have q2 := fun dq os i => cell_blk (T.out.kept (Kept.of_below (below_regrown w10 dq os)) (fun h => h)) i
              clear kq
              go_wp2_with fail
              refine wp_region_quiet_below (by kernel_rfl) (by kernel_rfl) ?_
              repeat (first | go_big_quiet_step (fail) | quiet_step (fail))
              refine wpQuiet_nil ?_
              intro _ hw'
              obtain ⟨⟨dq, osq⟩, hw''⟩ := hw'
              subst hw''
              have kq := Lib.hid (show Same w10 _ from Kept.of_below (below_regrown w10 dq osq))
              obtain ⟨wz, hV⟩ : ∃ V, grow (redrawn w10 dq) osq = V := ⟨_, rfl⟩
              rw [hV] at kq ⊢
              clear hV
              have FN := Lib.hid (F.out.same kq.out); have GN := Lib.hid (G.out.kept kq.out (fun h => h)); have TN := Lib.hid (T.out.kept kq.out (fun h => h)); have KN := Lib.hid (K.out.trans kq.out); have KM := Lib.hid (KX.out.trans kq.out); clear F G T K KX p0 p1 p2 q0 q1 q2 z0 z1 z2; have F := FN; have G := GN; have T := TN; have K := KN; have KX := KM; clear FN GN TN KN KM
              have p0 := cell_blk F.out.1; have p1 := cell_blk G.out; have p2 := cell_blk T.out; have z0 := F.out.1.lt; have z1 := G.out.lt; have z2 := T.out.lt; have q0 := fun dq os i => cell_blk (F.out.1.kept (Kept.of_below (below_regrown wz dq os)) (fun h => h)) i; have q1 := fun dq os i => cell_blk (G.out.kept (Kept.of_below (below_regrown wz dq os)) (fun h => h)) i; have q2 := fun dq os i => cell_blk (T.out.kept (Kept.of_below (below_regrown wz dq os)) (fun h => h)) i
              clear kq
              go_wp2_with fail
              go_ret
              exact ⟨by rw [← HR.out]; rfl, K.out⟩
            · go_wp2_with fail
              refine wp_region_quiet_below (by kernel_rfl) (by kernel_rfl) ?_
              repeat (first | go_big_quiet_step (fail) | quiet_step (fail))
              refine wpQuiet_nil ?_
              intro _ hw'
              obtain ⟨⟨dq, osq⟩, hw''⟩ := hw'
              subst hw''
              have kq := Lib.hid (show Same w8 _ from Kept.of_below (below_regrown w8 dq osq))
              obtain ⟨w9, hV⟩ : ∃ V, grow (redrawn w8 dq) osq = V := ⟨_, rfl⟩
              rw [hV] at kq ⊢
              clear hV
              have FN := Lib.hid (F.out.same kq.out); have GN := Lib.hid (G.out.kept kq.out (fun h => h)); have TN := Lib.hid (T.out.kept kq.out (fun h => h)); have KN := Lib.hid (K.out.trans kq.out); have KM := Lib.hid (KX.out.trans kq.out); clear F G T K KX p0 p1 p2 q0 q1 q2 z0 z1 z2; have F := FN; have G := GN; have T := TN; have K := KN; have KX := KM; clear FN GN TN KN KM
              have p0 := cell_blk F.out.1; have p1 := cell_blk G.out; have p2 := cell_blk T.out; have z0 := F.out.1.lt; have z1 := G.out.lt; have z2 := T.out.lt; have q0 := fun dq os i => cell_blk (F.out.1.kept (Kept.of_below (below_regrown w9 dq os)) (fun h => h)) i; have q1 := fun dq os i => cell_blk (G.out.kept (Kept.of_below (below_regrown w9 dq os)) (fun h => h)) i; have q2 := fun dq os i => cell_blk (T.out.kept (Kept.of_below (below_regrown w9 dq os)) (fun h => h)) i
              clear kq
              go_wp2_with fail
              refine wp_region_quiet_below (by kernel_rfl) (by kernel_rfl) ?_
              repeat (first | go_big_quiet_step (fail) | quiet_step (fail))
              refine wpQuiet_nil ?_
              intro _ hw'
              obtain ⟨⟨dq, osq⟩, hw''⟩ := hw'
              subst hw''
              have kq := Lib.hid (show Same w9 _ from Kept.of_below (below_regrown w9 dq osq))
              obtain ⟨w10, hV⟩ : ∃ V, grow (redrawn w9 dq) osq = V := ⟨_, rfl⟩
              rw [hV] at kq ⊢
              clear hV
              have FN := Lib.hid (F.out.same kq.out); have GN := Lib.hid (G.out.kept kq.out (fun h => h)); have TN := Lib.hid (T.out.kept kq.out (fun h => h)); have KN := Lib.hid (K.out.trans kq.out); have KM := Lib.hid (KX.out.trans kq.out); clear F G T K KX p0 p1 p2 q0 q1 q2 z0 z1 z2; have F := FN; have G := GN; have T := TN; have K := KN; have KX := KM; clear FN GN TN KN KM
              have p0 := cell_blk F.out.1; have p1 := cell_blk G.out; have p2 := cell_blk T.out; have z0 := F.out.1.lt; have z1 := G.out.lt; have z2 := T.out.lt; have q0 := fun dq os i => cell_blk (F.out.1.kept (Kept.of_below (below_regrown w10 dq os)) (fun h => h)) i; have q1 := fun dq os i => cell_blk (G.out.kept (Kept.of_below (below_regrown w10 dq os)) (fun h => h)) i; have q2 := fun dq os i => cell_blk (T.out.kept (Kept.of_below (below_regrown w10 dq os)) (fun h => h)) i
              clear kq
              go_wp2_with fail
              refine wp_region_quiet_below (by kernel_rfl) (by kernel_rfl) ?_
              repeat (first | go_big_quiet_step (fail) | quiet_step (fail))
              refine wpQuiet_nil ?_
              intro _ hw'
              obtain ⟨⟨dq, osq⟩, hw''⟩ := hw'
              subst hw''
              have kq := Lib.hid (show Same w10 _ from Kept.of_below (below_regrown w10 dq osq))
              obtain ⟨wz, hV⟩ : ∃ V, grow (redrawn w10 dq) osq = V := ⟨_, rfl⟩
              rw [hV] at kq ⊢
              clear hV
              have FN := Lib.hid (F.out.same kq.out); have GN := Lib.hid (G.out.kept kq.out (fun h => h)); have TN := Lib.hid (T.out.kept kq.out (fun h => h)); have KN := Lib.hid (K.out.trans kq.out); have KM := Lib.hid (KX.out.trans kq.out); clear F G T K KX p0 p1 p2 q0 q1 q2 z0 z1 z2; have F := FN; have G := GN; have T := TN; have K := KN; have KX := KM; clear FN GN TN KN KM
              have p0 := cell_blk F.out.1; have p1 := cell_blk G.out; have p2 := cell_blk T.out; have z0 := F.out.1.lt; have z1 := G.out.lt; have z2 := T.out.lt; have q0 := fun dq os i => cell_blk (F.out.1.kept (Kept.of_below (below_regrown wz dq os)) (fun h => h)) i; have q1 := fun dq os i => cell_blk (G.out.kept (Kept.of_below (below_regrown wz dq os)) (fun h => h)) i; have q2 := fun dq os i => cell_blk (T.out.kept (Kept.of_below (below_regrown wz dq os)) (fun h => h)) i
              clear kq
              go_wp2_with fail
              go_ret
              exact ⟨by rw [← HR.out]; rfl, K.out⟩
          · go_wp2_with fail
            refine wp_region_quiet_below (by kernel_rfl) (by kernel_rfl) ?_
            repeat (first | go_big_quiet_step (fail) | quiet_step (fail))
            refine wpQuiet_nil ?_
            intro _ hw'
            obtain ⟨⟨dq, osq⟩, hw''⟩ := hw'
            subst hw''
            have kq := Lib.hid (show Same w8 _ from Kept.of_below (below_regrown w8 dq osq))
            obtain ⟨w9, hV⟩ : ∃ V, grow (redrawn w8 dq) osq = V := ⟨_, rfl⟩
            rw [hV] at kq ⊢
            clear hV
            have FN := Lib.hid (F.out.same kq.out); have GN := Lib.hid (G.out.kept kq.out (fun h => h)); have TN := Lib.hid (T.out.kept kq.out (fun h => h)); have KN := Lib.hid (K.out.trans kq.out); have KM := Lib.hid (KX.out.trans kq.out); clear F G T K KX p0 p1 p2 q0 q1 q2 z0 z1 z2; have F := FN; have G := GN; have T := TN; have K := KN; have KX := KM; clear FN GN TN KN KM
            have p0 := cell_blk F.out.1; have p1 := cell_blk G.out; have p2 := cell_blk T.out; have z0 := F.out.1.lt; have z1 := G.out.lt; have z2 := T.out.lt; have q0 := fun dq os i => cell_blk (F.out.1.kept (Kept.of_below (below_regrown w9 dq os)) (fun h => h)) i; have q1 := fun dq os i => cell_blk (G.out.kept (Kept.of_below (below_regrown w9 dq os)) (fun h => h)) i; have q2 := fun dq os i => cell_blk (T.out.kept (Kept.of_below (below_regrown w9 dq os)) (fun h => h)) i
            clear kq
            go_wp2_with fail
            refine wp_region_quiet_below (by kernel_rfl) (by kernel_rfl) ?_
            repeat (first | go_big_quiet_step (fail) | quiet_step (fail))
            refine wpQuiet_nil ?_
            intro _ hw'
            obtain ⟨⟨dq, osq⟩, hw''⟩ := hw'
            subst hw''
            have kq := Lib.hid (show Same w9 _ from Kept.of_below (below_regrown w9 dq osq))
            obtain ⟨w10, hV⟩ : ∃ V, grow (redrawn w9 dq) osq = V := ⟨_, rfl⟩
            rw [hV] at kq ⊢
            clear hV
            have FN := Lib.hid (F.out.same kq.out); have GN := Lib.hid (G.out.kept kq.out (fun h => h)); have TN := Lib.hid (T.out.kept kq.out (fun h => h)); have KN := Lib.hid (K.out.trans kq.out); have KM := Lib.hid (KX.out.trans kq.out); clear F G T K KX p0 p1 p2 q0 q1 q2 z0 z1 z2; have F := FN; have G := GN; have T := TN; have K := KN; have KX := KM; clear FN GN TN KN KM
            have p0 := cell_blk F.out.1; have p1 := cell_blk G.out; have p2 := cell_blk T.out; have z0 := F.out.1.lt; have z1 := G.out.lt; have z2 := T.out.lt; have q0 := fun dq os i => cell_blk (F.out.1.kept (Kept.of_below (below_regrown w10 dq os)) (fun h => h)) i; have q1 := fun dq os i => cell_blk (G.out.kept (Kept.of_below (below_regrown w10 dq os)) (fun h => h)) i; have q2 := fun dq os i => cell_blk (T.out.kept (Kept.of_below (below_regrown w10 dq os)) (fun h => h)) i
            clear kq
            go_wp2_with fail
            go_ret
            exact ⟨by rw [← HR.out]; rfl, K.out⟩
      · clear SE
        cases vb
        · go_wp2_with fail
          refine wp_region_quiet_below (by kernel_rfl) (by kernel_rfl) ?_
          repeat (first | go_big_quiet_step (fail) | quiet_step (fail))
          refine wpQuiet_nil ?_
          intro _ hw'
          obtain ⟨⟨dq, osq⟩, hw''⟩ := hw'
          subst hw''
          have kq := Lib.hid (show Same w8 _ from Kept.of_below (below_regrown w8 dq osq))
          obtain ⟨w9, hV⟩ : ∃ V, grow (redrawn w8 dq) osq = V := ⟨_, rfl⟩
          rw [hV] at kq ⊢
          clear hV
          have FN := Lib.hid (F.out.same kq.out); have GN := Lib.hid (G.out.kept kq.out (fun h => h)); have TN := Lib.hid (T.out.kept kq.out (fun h => h)); have KN := Lib.hid (K.out.trans kq.out); have KM := Lib.hid (KX.out.trans kq.out); clear F G T K KX p0 p1 p2 q0 q1 q2 z0 z1 z2; have F := FN; have G := GN; have T := TN; have K := KN; have KX := KM; clear FN GN TN KN KM
          have p0 := cell_blk F.out.1; have p1 := cell_blk G.out; have p2 := cell_blk T.out; have z0 := F.out.1.lt; have z1 := G.out.lt; have z2 := T.out.lt; have q0 := fun dq os i => cell_blk (F.out.1.kept (Kept.of_below (below_regrown w9 dq os)) (fun h => h)) i; have q1 := fun dq os i => cell_blk (G.out.kept (Kept.of_below (below_regrown w9 dq os)) (fun h => h)) i; have q2 := fun dq os i => cell_blk (T.out.kept (Kept.of_below (below_regrown w9 dq os)) (fun h => h)) i
          clear kq
          go_wp2_with fail
          go_ret
          exact ⟨by rw [← HR.out]; rfl, K.out⟩
        · cases mb
          · go_wp2_with fail
            refine wp_region_quiet_below (by kernel_rfl) (by kernel_rfl) ?_
            repeat (first | go_big_quiet_step (fail) | quiet_step (fail))
            refine wpQuiet_nil ?_
            intro _ hw'
            obtain ⟨⟨dq, osq⟩, hw''⟩ := hw'
            subst hw''
            have kq := Lib.hid (show Same w8 _ from Kept.of_below (below_regrown w8 dq osq))
            obtain ⟨w9, hV⟩ : ∃ V, grow (redrawn w8 dq) osq = V := ⟨_, rfl⟩
            rw [hV] at kq ⊢
            clear hV
            have FN := Lib.hid (F.out.same kq.out); have GN := Lib.hid (G.out.kept kq.out (fun h => h)); have TN := Lib.hid (T.out.kept kq.out (fun h => h)); have KN := Lib.hid (K.out.trans kq.out); have KM := Lib.hid (KX.out.trans kq.out); clear F G T K KX p0 p1 p2 q0 q1 q2 z0 z1 z2; have F := FN; have G := GN; have T := TN; have K := KN; have KX := KM; clear FN GN TN KN KM
            have p0 := cell_blk F.out.1; have p1 := cell_blk G.out; have p2 := cell_blk T.out; have z0 := F.out.1.lt; have z1 := G.out.lt; have z2 := T.out.lt; have q0 := fun dq os i => cell_blk (F.out.1.kept (Kept.of_below (below_regrown w9 dq os)) (fun h => h)) i; have q1 := fun dq os i => cell_blk (G.out.kept (Kept.of_below (below_regrown w9 dq os)) (fun h => h)) i; have q2 := fun dq os i => cell_blk (T.out.kept (Kept.of_below (below_regrown w9 dq os)) (fun h => h)) i
            clear kq
            go_wp2_with fail
            refine wp_region_quiet_below (by kernel_rfl) (by kernel_rfl) ?_
            repeat (first | go_big_quiet_step (fail) | quiet_step (fail))
            refine wpQuiet_nil ?_
            intro _ hw'
            obtain ⟨⟨dq, osq⟩, hw''⟩ := hw'
            subst hw''
            have kq := Lib.hid (show Same w9 _ from Kept.of_below (below_regrown w9 dq osq))
            obtain ⟨w10, hV⟩ : ∃ V, grow (redrawn w9 dq) osq = V := ⟨_, rfl⟩
            rw [hV] at kq ⊢
            clear hV
            have FN := Lib.hid (F.out.same kq.out); have GN := Lib.hid (G.out.kept kq.out (fun h => h)); have TN := Lib.hid (T.out.kept kq.out (fun h => h)); have KN := Lib.hid (K.out.trans kq.out); have KM := Lib.hid (KX.out.trans kq.out); clear F G T K KX p0 p1 p2 q0 q1 q2 z0 z1 z2; have F := FN; have G := GN; have T := TN; have K := KN; have KX := KM; clear FN GN TN KN KM
            have p0 := cell_blk F.out.1; have p1 := cell_blk G.out; have p2 := cell_blk T.out; have z0 := F.out.1.lt; have z1 := G.out.lt; have z2 := T.out.lt; have q0 := fun dq os i => cell_blk (F.out.1.kept (Kept.of_below (below_regrown w10 dq os)) (fun h => h)) i; have q1 := fun dq os i => cell_blk (G.out.kept (Kept.of_below (below_regrown w10 dq os)) (fun h => h)) i; have q2 := fun dq os i => cell_blk (T.out.kept (Kept.of_below (below_regrown w10 dq os)) (fun h => h)) i
            clear kq
            go_wp2_with fail
            refine wp_region_quiet_below (by kernel_rfl) (by kernel_rfl) ?_
            repeat (first | go_big_quiet_step (fail) | quiet_step (fail))
            refine wpQuiet_nil ?_
            intro _ hw'
            obtain ⟨⟨dq, osq⟩, hw''⟩ := hw'
            subst hw''
            have kq := Lib.hid (show Same w10 _ from Kept.of_below (below_regrown w10 dq osq))
            obtain ⟨wz, hV⟩ : ∃ V, grow (redrawn w10 dq) osq = V := ⟨_, rfl⟩
            rw [hV] at kq ⊢
            clear hV
            have FN := Lib.hid (F.out.same kq.out); have GN := Lib.hid (G.out.kept kq.out (fun h => h)); have TN := Lib.hid (T.out.kept kq.out (fun h => h)); have KN := Lib.hid (K.out.trans kq.out); have KM := Lib.hid (KX.out.trans kq.out); clear F G T K KX p0 p1 p2 q0 q1 q2 z0 z1 z2; have F := FN; have G := GN; have T := TN; have K := KN; have KX := KM; clear FN GN TN KN KM
            have p0 := cell_blk F.out.1; have p1 := cell_blk G.out; have p2 := cell_blk T.out; have z0 := F.out.1.lt; have z1 := G.out.lt; have z2 := T.out.lt; have q0 := fun dq os i => cell_blk (F.out.1.kept (Kept.of_below (below_regrown wz dq os)) (fun h => h)) i; have q1 := fun dq os i => cell_blk (G.out.kept (Kept.of_below (below_regrown wz dq os)) (fun h => h)) i; have q2 := fun dq os i => cell_blk (T.out.kept (Kept.of_below (below_regrown wz dq os)) (fun h => h)) i
            clear kq
            go_wp2_with fail
            go_ret
            exact ⟨by rw [← HR.out]; rfl, K.out⟩
          · go_wp2_with fail
            refine wp_region_quiet_below (by kernel_rfl) (by kernel_rfl) ?_
            repeat (first | go_big_quiet_step (fail) | quiet_step (fail))
            refine wpQuiet_nil ?_
            intro _ hw'
            obtain ⟨⟨dq, osq⟩, hw''⟩ := hw'
            subst hw''
            have kq := Lib.hid (show Same w8 _ from Kept.of_below (below_regrown w8 dq osq))
            obtain ⟨w9, hV⟩ : ∃ V, grow (redrawn w8 dq) osq = V := ⟨_, rfl⟩
            rw [hV] at kq ⊢
            clear hV
            have FN := Lib.hid (F.out.same kq.out); have GN := Lib.hid (G.out.kept kq.out (fun h => h)); have TN := Lib.hid (T.out.kept kq.out (fun h => h)); have KN := Lib.hid (K.out.trans kq.out); have KM := Lib.hid (KX.out.trans kq.out); clear F G T K KX p0 p1 p2 q0 q1 q2 z0 z1 z2; have F := FN; have G := GN; have T := TN; have K := KN; have KX := KM; clear FN GN TN KN KM
            have p0 := cell_blk F.out.1; have p1 := cell_blk G.out; have p2 := cell_blk T.out; have z0 := F.out.1.lt; have z1 := G.out.lt; have z2 := T.out.lt; have q0 := fun dq os i => cell_blk (F.out.1.kept (Kept.of_below (below_regrown w9 dq os)) (fun h => h)) i; have q1 := fun dq os i => cell_blk (G.out.kept (Kept.of_below (below_regrown w9 dq os)) (fun h => h)) i; have q2 := fun dq os i => cell_blk (T.out.kept (Kept.of_below (below_regrown w9 dq os)) (fun h => h)) i
            clear kq
            go_wp2_with fail
            refine wp_region_quiet_below (by kernel_rfl) (by kernel_rfl) ?_
            repeat (first | go_big_quiet_step (fail) | quiet_step (fail))
            refine wpQuiet_nil ?_
            intro _ hw'
            obtain ⟨⟨dq, osq⟩, hw''⟩ := hw'
            subst hw''
            have kq := Lib.hid (show Same w9 _ from Kept.of_below (below_regrown w9 dq osq))
            obtain ⟨w10, hV⟩ : ∃ V, grow (redrawn w9 dq) osq = V := ⟨_, rfl⟩
            rw [hV] at kq ⊢
            clear hV
            have FN := Lib.hid (F.out.same kq.out); have GN := Lib.hid (G.out.kept kq.out (fun h => h)); have TN := Lib.hid (T.out.kept kq.out (fun h => h)); have KN := Lib.hid (K.out.trans kq.out); have KM := Lib.hid (KX.out.trans kq.out); clear F G T K KX p0 p1 p2 q0 q1 q2 z0 z1 z2; have F := FN; have G := GN; have T := TN; have K := KN; have KX := KM; clear FN GN TN KN KM
            have p0 := cell_blk F.out.1; have p1 := cell_blk G.out; have p2 := cell_blk T.out; have z0 := F.out.1.lt; have z1 := G.out.lt; have z2 := T.out.lt; have q0 := fun dq os i => cell_blk (F.out.1.kept (Kept.of_below (below_regrown w10 dq os)) (fun h => h)) i; have q1 := fun dq os i => cell_blk (G.out.kept (Kept.of_below (below_regrown w10 dq os)) (fun h => h)) i; have q2 := fun dq os i => cell_blk (T.out.kept (Kept.of_below (below_regrown w10 dq os)) (fun h => h)) i
            clear kq
            go_wp2_with fail
            refine wp_region_quiet_below (by kernel_rfl) (by kernel_rfl) ?_
            repeat (first | go_big_quiet_step (fail) | quiet_step (fail))
            refine wpQuiet_nil ?_
            intro _ hw'
            obtain ⟨⟨dq, osq⟩, hw''⟩ := hw'
            subst hw''
            have kq := Lib.hid (show Same w10 _ from Kept.of_below (below_regrown w10 dq osq))
            obtain ⟨wz, hV⟩ : ∃ V, grow (redrawn w10 dq) osq = V := ⟨_, rfl⟩
            rw [hV] at kq ⊢
            clear hV
            have FN := Lib.hid (F.out.same kq.out); have GN := Lib.hid (G.out.kept kq.out (fun h => h)); have TN := Lib.hid (T.out.kept kq.out (fun h => h)); have KN := Lib.hid (K.out.trans kq.out); have KM := Lib.hid (KX.out.trans kq.out); clear F G T K KX p0 p1 p2 q0 q1 q2 z0 z1 z2; have F := FN; have G := GN; have T := TN; have K := KN; have KX := KM; clear FN GN TN KN KM
            have p0 := cell_blk F.out.1; have p1 := cell_blk G.out; have p2 := cell_blk T.out; have z0 := F.out.1.lt; have z1 := G.out.lt; have z2 := T.out.lt; have q0 := fun dq os i => cell_blk (F.out.1.kept (Kept.of_below (below_regrown wz dq os)) (fun h => h)) i; have q1 := fun dq os i => cell_blk (G.out.kept (Kept.of_below (below_regrown wz dq os)) (fun h => h)) i; have q2 := fun dq os i => cell_blk (T.out.kept (Kept.of_below (below_regrown wz dq os)) (fun h => h)) i
            clear kq
            go_wp2_with fail
            go_ret
            exact ⟨by rw [← HR.out]; rfl, K.out⟩
      · clear SE
        cases vb
        · go_wp2_with fail
          refine wp_region_quiet_below (by kernel_rfl) (by kernel_rfl) ?_
          repeat (first | go_big_quiet_step (fail) | quiet_step (fail))
          refine wpQuiet_nil ?_
          intro _ hw'
          obtain ⟨⟨dq, osq⟩, hw''⟩ := hw'
          subst hw''
          have kq := Lib.hid (show Same w8 _ from Kept.of_below (below_regrown w8 dq osq))
          obtain ⟨w9, hV⟩ : ∃ V, grow (redrawn w8 dq) osq = V := ⟨_, rfl⟩
          rw [hV] at kq ⊢
          clear hV
          have FN := Lib.hid (F.out.same kq.out); have GN := Lib.hid (G.out.kept kq.out (fun h => h)); have TN := Lib.hid (T.out.kept kq.out (fun h => h)); have KN := Lib.hid (K.out.trans kq.out); have KM := Lib.hid (KX.out.trans kq.out); clear F G T K KX p0 p1 p2 q0 q1 q2 z0 z1 z2; have F := FN; have G := GN; have T := TN; have K := KN; have KX := KM; clear FN GN TN KN KM
          have p0 := cell_blk F.out.1; have p1 := cell_blk G.out; have p2 := cell_blk T.out; have z0 := F.out.1.lt; have z1 := G.out.lt; have z2 := T.out.lt; have q0 := fun dq os i => cell_blk (F.out.1.kept (Kept.of_below (below_regrown w9 dq os)) (fun h => h)) i; have q1 := fun dq os i => cell_blk (G.out.kept (Kept.of_below (below_regrown w9 dq os)) (fun h => h)) i; have q2 := fun dq os i => cell_blk (T.out.kept (Kept.of_below (below_regrown w9 dq os)) (fun h => h)) i
          clear kq
          go_wp2_with fail
          go_ret
          exact ⟨by rw [← HR.out]; rfl, K.out⟩
        · go_wp2_with fail
          refine wp_region_quiet_below (by kernel_rfl) (by kernel_rfl) ?_
          repeat (first | go_big_quiet_step (fail) | quiet_step (fail))
          refine wpQuiet_nil ?_
          intro _ hw'
          obtain ⟨⟨dq, osq⟩, hw''⟩ := hw'
          subst hw''
          have kq := Lib.hid (show Same w8 _ from Kept.of_below (below_regrown w8 dq osq))
          obtain ⟨w9, hV⟩ : ∃ V, grow (redrawn w8 dq) osq = V := ⟨_, rfl⟩
          rw [hV] at kq ⊢
          clear hV
          have FN := Lib.hid (F.out.same kq.out); have GN := Lib.hid (G.out.kept kq.out (fun h => h)); have TN := Lib.hid (T.out.kept kq.out (fun h => h)); have KN := Lib.hid (K.out.trans kq.out); have KM := Lib.hid (KX.out.trans kq.out); clear F G T K KX p0 p1 p2 q0 q1 q2 z0 z1 z2; have F := FN; have G := GN; have T := TN; have K := KN; have KX := KM; clear FN GN TN KN KM
          have p0 := cell_blk F.out.1; have p1 := cell_blk G.out; have p2 := cell_blk T.out; have z0 := F.out.1.lt; have z1 := G.out.lt; have z2 := T.out.lt; have q0 := fun dq os i => cell_blk (F.out.1.kept (Kept.of_below (below_regrown w9 dq os)) (fun h => h)) i; have q1 := fun dq os i => cell_blk (G.out.kept (Kept.of_below (below_regrown w9 dq os)) (fun h => h)) i; have q2 := fun dq os i => cell_blk (T.out.kept (Kept.of_below (below_regrown w9 dq os)) (fun h => h)) i
          clear kq
          go_wp2_with fail
          refine wp_region_quiet_below (by kernel_rfl) (by kernel_rfl) ?_
          repeat (first | go_big_quiet_step (fail) | quiet_step (fail))
          refine wpQuiet_nil ?_
          intro _ hw'
          obtain ⟨⟨dq, osq⟩, hw''⟩ := hw'
          subst hw''
          have kq := Lib.hid (show Same w9 _ from Kept.of_below (below_regrown w9 dq osq))
          obtain ⟨w10, hV⟩ : ∃ V, grow (redrawn w9 dq) osq = V := ⟨_, rfl⟩
          rw [hV] at kq ⊢
          clear hV
          have FN := Lib.hid (F.out.same kq.out); have GN := Lib.hid (G.out.kept kq.out (fun h => h)); have TN := Lib.hid (T.out.kept kq.out (fun h => h)); have KN := Lib.hid (K.out.trans kq.out); have KM := Lib.hid (KX.out.trans kq.out); clear F G T K KX p0 p1 p2 q0 q1 q2 z0 z1 z2; have F := FN; have G := GN; have T := TN; have K := KN; have KX := KM; clear FN GN TN KN KM
          have p0 := cell_blk F.out.1; have p1 := cell_blk G.out; have p2 := cell_blk T.out; have z0 := F.out.1.lt; have z1 := G.out.lt; have z2 := T.out.lt; have q0 := fun dq os i => cell_blk (F.out.1.kept (Kept.of_below (below_regrown w10 dq os)) (fun h => h)) i; have q1 := fun dq os i => cell_blk (G.out.kept (Kept.of_below (below_regrown w10 dq os)) (fun h => h)) i; have q2 := fun dq os i => cell_blk (T.out.kept (Kept.of_below (below_regrown w10 dq os)) (fun h => h)) i
          clear kq
          go_wp2_with fail
          refine wp_region_quiet_below (by kernel_rfl) (by kernel_rfl) ?_
          repeat (first | go_big_quiet_step (fail) | quiet_step (fail))
          refine wpQuiet_nil ?_
          intro _ hw'
          obtain ⟨⟨dq, osq⟩, hw''⟩ := hw'
          subst hw''
          have kq := Lib.hid (show Same w10 _ from Kept.of_below (below_regrown w10 dq osq))
          obtain ⟨wz, hV⟩ : ∃ V, grow (redrawn w10 dq) osq = V := ⟨_, rfl⟩
          rw [hV] at kq ⊢
          clear hV
          have FN := Lib.hid (F.out.same kq.out); have GN := Lib.hid (G.out.kept kq.out (fun h => h)); have TN := Lib.hid (T.out.kept kq.out (fun h => h)); have KN := Lib.hid (K.out.trans kq.out); have KM := Lib.hid (KX.out.trans kq.out); clear F G T K KX p0 p1 p2 q0 q1 q2 z0 z1 z2; have F := FN; have G := GN; have T := TN; have K := KN; have KX := KM; clear FN GN TN KN KM
          have p0 := cell_blk F.out.1; have p1 := cell_blk G.out; have p2 := cell_blk T.out; have z0 := F.out.1.lt; have z1 := G.out.lt; have z2 := T.out.lt; have q0 := fun dq os i => cell_blk (F.out.1.kept (Kept.of_below (below_regrown wz dq os)) (fun h => h)) i; have q1 := fun dq os i => cell_blk (G.out.kept (Kept.of_below (below_regrown wz dq os)) (fun h => h)) i; have q2 := fun dq os i => cell_blk (T.out.kept (Kept.of_below (below_regrown wz dq os)) (fun h => h)) i
          clear kq
          go_wp2_with fail
          go_ret
          exact ⟨by rw [← HR.out]; rfl, K.out⟩
end Go.Proofs.Ytaeiajodbpgbbaa
