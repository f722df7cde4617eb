/- Cr9: the document's Line. -/
import Derived.Test.YtnjmdldhgconmaaGreatDoorCt2
import Derived.Lib.MinMax
namespace Go.Proofs.YtnjmdldhgconmaaGreatDoor
open Go.RowKit Go.Sort

theorem join_snoc : ∀ (ws : List Tx) (w : Tx), ws ≠ [] → joinW (ws ++ [w]) = joinW ws ++ 32 :: w
  | [], _, h => absurd rfl h
  | [v], w, _ => by simp [joinW]
  | u :: v :: ws, w, _ => by
    have := join_snoc (v :: ws) w (by simp)
    simp only [List.cons_append, joinW] at this ⊢
    rw [this]
    simp
/-- The step whose words the document lays. -/
def stpM (s : Stp) : Stp := { s with txn := max s.txn (-1), n := max s.n (-1) }
/-- The line so far. -/
def lineI (s : Stp) (i : Nat) : Tx := joinW (shapeN s.k :: ((shapeF s.k).take i).map (getF s))
theorem lineI_step {s : Stp} {i : Nat} {f : Fld} (h : (shapeF s.k)[i]? = some f) : lineI s (i + 1) = lineI s i ++ [32] ++ getF s f := by
  unfold lineI
  rw [List.take_add_one, h, List.map_append, ← List.cons_append]
  simp only [Option.toList_some, List.map_cons, List.map_nil]
  rw [join_snoc _ _ (by simp)]
  simp
theorem lineI_end {s : Stp} {i : Nat} (h : (shapeF s.k).length ≤ i) : lineI s i = joinW (wordsS s) := by
  unfold lineI wordsS
  rw [List.take_of_length_le h]
  unfold shapeN shapeF
  cases shapeT s.k with
  | none => rfl
  | some p => rfl
theorem stpM_ok {s : Stp} (h : StpOK s) : StpOK (stpM s) := by
  obtain ⟨h1, h2, h3, h4, h5, h6, h7⟩ := h
  exact ⟨by show _ ≤ max _ _; omega, by show max _ _ ≤ _; omega, by show _ ≤ max _ _; omega, by show max _ _ ≤ _; omega, h5, h6, h7⟩
theorem lineI_len {s : Stp} (h : StpOK s) (i : Nat) : (lineI s i).length ≤ 9000 := by
  have hn : (shapeN s.k).length ≤ 10 := by
    have key : ∀ k, k < 13 → (shapeN k).length ≤ 10 := by decide
    by_cases hk : s.k < 13
    · exact key _ hk
    · unfold shapeN
      cases e : shapeT s.k with
      | none => simp
      | some p => exact absurd (shape_lt (nm := p.1) (fs := p.2) e) hk
  have hf : (shapeF s.k).length ≤ 4 := by
    by_cases hk : s.k < 13
    · exact shapeF_len hk
    · unfold shapeF
      cases e : shapeT s.k with
      | none => simp
      | some p => exact absurd (shape_lt (nm := p.1) (fs := p.2) e) hk
  unfold lineI
  have h1 := join_len (shapeN s.k :: ((shapeF s.k).take i).map (getF s))
  have h2 := sum_le (fun x : Tx => x.length + 1) 2003 (((shapeF s.k).take i).map (getF s)) (fun x hx => by
    obtain ⟨f, _, rfl⟩ := List.mem_map.1 hx
    have := getF_len h f
    omega)
  rw [List.length_map, List.length_take] at h2
  rw [List.map_cons, List.sum_cons] at h1
  have h3 : min i (shapeF s.k).length * 2003 ≤ 4 * 2003 := Nat.mul_le_mul_right _ (by omega)
  omega
/-- What the document's Line tells is the program's. -/
theorem line_max (s : Stp) : lineV s = if parseT (joinW (wordsS (stpM s))) = some s then .tuple #[encStr (joinW (wordsS (stpM s))), .bool true] else .tuple #[encStr [], .bool false] := by
  by_cases h : s.txn < 0 ∨ s.n < 0
  · rw [if_neg]
    · unfold lineV; rw [line_neg h]; rfl
    · intro e
      have := parseW_pos (show parseW (splitT (joinW (wordsS (stpM s)))) = some s from e)
      omega
  · have e : stpM s = s := by
      have h1 : max s.txn (-1) = s.txn := by omega
      have h2 : max s.n (-1) = s.n := by omega
      unfold stpM
      rw [h1, h2]
    rw [e]
    unfold lineV lineT
    split <;> rfl

set_option maxRecDepth 100000 in
set_option maxHeartbeats 12800000 in
theorem cr_line (s : Stp) (hs : StpOK s) (fa : Option Addr) (ca : Nat) (w : World) (hA : NatsAt w .u8 fa (natsU s.f)) :
    Calls Tryz.prog 19 #[.agg #[.int .u8 (s.k : Nat), .int .i64 s.txn, encStr s.key, encStr s.val, .int .i64 s.n, .bool s.d, .slice fa s.f.length ca]] w fun e w' => e = .returned (lineV s) ∧ Same w w' := by
  have SM := Lib.hid (fun (a : Stp) (aa : Option Addr) (ac : Nat) (w' : World) (k : Same w w') (ha : NatsAt w' .u8 aa (natsU a.f)) => cr_same a s aa fa ac ca w' ha (hA.same k))
  have SH := Lib.hid (fun w => cr_shape s.k w)
  have LM := Lib.hid (line_max s)
  have LE := Lib.hid (fun i (h : (shapeF s.k).length ≤ i) => lineI_end (s := stpM s) (i := i) h)
  have LL := Lib.hid (fun i => lineI_len (stpM_ok hs) i)
  have LG := Lib.hid (fun f => getF_len (stpM_ok hs) f)
  have LST := Lib.hid (fun i f (h : (shapeF s.k)[i]? = some f) => lineI_step (s := stpM s) (i := i) (f := f) h)
  have HA := Lib.hid hA
  have FC := Lib.hid (show ∀ j (f : Fld), (shapeF s.k)[j]? = some f → ((shapeF s.k).map fldC)[j]? = some (fldC f) from fun j f hf => by rw [List.getElem?_map, hf]; rfl)
  have hL0 : lineI (stpM s) 0 = shapeN s.k := rfl
  have hfl : ((shapeF s.k).map fldC).length = (shapeF s.k).length := by simp
  obtain ⟨fl, hflq⟩ : ∃ fl, (shapeF s.k).map fldC = fl := ⟨_, rfl⟩
  obtain ⟨fs, hfs⟩ : ∃ fs, shapeF s.k = fs := ⟨_, rfl⟩
  obtain ⟨nm, hnm⟩ : ∃ nm, shapeN s.k = nm := ⟨_, rfl⟩
  rw [hflq] at SH FC hfl
  rw [hfs] at LE LST FC hfl
  rw [hnm] at SH hL0
  have hf4 : fs.length ≤ 4 := by
    rw [← hfs]
    by_cases hk : s.k < 13
    · exact shapeF_len hk
    · unfold shapeF
      cases e : shapeT s.k with
      | none => simp
      | some p => exact absurd (shape_lt (nm := p.1) (fs := p.2) e) hk
  clear hflq hfs hnm
  have HL0 := Lib.hid hL0; have HFL := Lib.hid hfl; have HF4 := Lib.hid hf4
  obtain ⟨LV, hLV⟩ : ∃ v, lineV s = v := ⟨_, rfl⟩
  rw [hLV] at LM
  rw [hLV]
  obtain ⟨S, hS⟩ : ∃ S, s = S := ⟨_, rfl⟩
  obtain ⟨k, tx, key, val, n, d, f⟩ := s
  obtain ⟨h1, h2, h3, h4, h5, h6, h7⟩ := hs
  simp only at h1 h2 h3 h4 h5 h6 h7 SM SH HA ⊢
  obtain ⟨tm, htm⟩ : ∃ t, max tx (-1) = t := ⟨_, rfl⟩
  obtain ⟨n2, hn2⟩ : ∃ t, max n (-1) = t := ⟨_, rfl⟩
  have hm1 : stpM ⟨k, tx, key, val, n, d, f⟩ = ⟨k, tm, key, val, n2, d, f⟩ := by rw [← htm, ← hn2]; rfl
  rw [hm1] at LM LE LL LST HL0 LG
  have N1 := Lib.hid (fun w => cr_num tm (by omega) (by omega) w)
  have N2 := Lib.hid (fun w => cr_num n2 (by omega) (by omega) w)
  have W1 := Lib.hid (fun w => cr_word key (by omega) w)
  have W2 := Lib.hid (fun w => cr_word val (by omega) w)
  have W3 := Lib.hid (fun w => cr_word f (by omega) w)
  clear hm1 hLV hS S hA hL0 hfl hf4 h1 h2 h3 h4 h5 h6 h7
  obtain ⟨y, hyy⟩ : ∃ y, w.heap.size = y := ⟨_, rfl⟩
  have k0 : Same w (w.alloc (.cells #[.int .u8 (k : Nat), .int .i64 tx, encStr key, encStr val, .int .i64 n, .bool d, .slice fa f.length ca] 30)) := (Kept.refl _ w).alloc _
  have b0 : Blk (w.alloc (.cells #[.int .u8 (k : Nat), .int .i64 tx, encStr key, encStr val, .int .i64 n, .bool d, .slice fa f.length ca] 30)) y #[.int .u8 (k : Nat), .int .i64 tx, encStr key, encStr val, .int .i64 n, .bool d, .slice fa f.length ca] 30 := Blk.new' _ _ _ hyy.symm
  go_enter Tryz.func19, Tryz.ntmps19
  go_upto_region 1 with fail
  refine cutC (fun wn => Blk wn y #[.int .u8 (k : Nat), .int .i64 tx, encStr key, encStr val, .int .i64 n, .bool d, .slice fa f.length ca] 30 ∧ Same w wn) ⟨b0, k0⟩ ?_
  clear b0 k0
  rintro w0 ⟨b0, k0⟩
  have B0 := Lib.hid b0; have K0 := Lib.hid k0
  clear b0 k0
  have p0 := cell_blk B0.out 0
  go_wp2_with fail
  refine (SH.out _).mono ?_
  rintro e w1 ⟨rfl, rfl⟩
  go_wp2_with fail
  go_loopw [4, 6] (fun v t wr => ∃ i : Nat, v = encStr (lineI ⟨k, tm, key, val, n2, d, f⟩ i) ∧ t = .int .i64 i ∧ i ≤ fs.length ∧ Same w1 wr) (fun _ t _ => fs.length - (Go.RowKit.intOf t).toNat)
  case atStart => exact ⟨0, by rw [HL0.out], rfl, by omega, Kept.refl _ _⟩
  case round =>
    obtain ⟨i, rfl, rfl, hi, hk⟩ := hrel
    have HK := Lib.hid hk
    clear hk
    have BR := Lib.hid (B0.out.kept HK.out (fun h => h))
    have p1 := cell_blk BR.out 1
    have p2 := cell_blk BR.out 2
    have p3 := cell_blk BR.out 3
    have p4 := cell_blk BR.out 4
    have p5 := cell_blk BR.out 5
    have p6 := cell_blk BR.out 6
    have p0 := cell_blk BR.out 0
    have hll := LL.out i
    by_cases hgo : i < fs.length
    · have hgl : i < fl.length := by have := HFL.out; omega
      have g1 : (i : Int) < (fl.length : Int) := by omega
      have g0 : (0 : Int) ≤ (i : Int) := by omega
      obtain ⟨fd, hfd⟩ : ∃ fd, fs[i]? = some fd := ⟨_, List.getElem?_eq_getElem hgo⟩
      have hfb := FC.out i fd hfd
      have hfy : (fl[i]'hgl).toNat = (fldC fd).toNat := by rw [List.getElem?_eq_getElem hgl] at hfb; rw [Option.some.inj hfb]
      have hy := str_at hgl hfy
      have LS := Lib.hid (LST.out i fd hfd)
      obtain ⟨l0, hl0⟩ : ∃ l0, lineI ⟨k, tm, key, val, n2, d, f⟩ i = l0 := ⟨_, rfl⟩
      rw [hl0] at LS hll
      rw [hl0]
      have e1 := str_snoc l0 32
      have dl : l0.length + 1 ≤ 9223372036854775807 := by omega
      have l1l : (l0 ++ [32]).length = l0.length + 1 := by simp
      obtain ⟨l1, hl1⟩ : ∃ l1, l0 ++ [32] = l1 := ⟨_, rfl⟩
      rw [hl1] at LS e1 l1l
      have hll1 : l1.length ≤ 9001 := by omega
      have hi4 : i ≤ 4 := by have := HF4.out; omega
      clear l1l hl1
      have KR := HK
      clear hfd hfb hfy hl0 HL0 FC LE
      cases fd with
      | t =>
        replace hy : ∀ h : i < (⟨fl.toArray⟩ : ByteArray).size, (((⟨fl.toArray⟩ : ByteArray)[i]'h).toNat : Int) = ((116 : Nat) : Int) := hy
        have hul := LG.out .t
        obtain ⟨u, hu⟩ : ∃ u, numT tm = u := ⟨_, rfl⟩
        have LS2 := Lib.hid (show lineI ⟨k, tm, key, val, n2, d, f⟩ (i + 1) = l1 ++ u by rw [← hu]; exact LS.out)
        have hul : u.length ≤ 2002 := by rw [← hu]; exact hul
        have e2 := two_cat l1 u
        have dl2 : l1.length + u.length ≤ 9223372036854775807 := by omega
        rw [hu] at N1
        clear hu
        go_wp2_with fail
        refine (N1.out _).mono ?_
        rintro e wr ⟨rfl, rfl⟩
        go_wp2_with fail
        go_roundw
        case rel => exact ⟨i + 1, by rw [LS2.out], by go_num, by omega, KR.out⟩
        case measure => simp [Go.RowKit.intOf]; omega
      | k =>
        replace hy : ∀ h : i < (⟨fl.toArray⟩ : ByteArray).size, (((⟨fl.toArray⟩ : ByteArray)[i]'h).toNat : Int) = ((107 : Nat) : Int) := hy
        have hul := LG.out .k
        obtain ⟨u, hu⟩ : ∃ u, wordT key = u := ⟨_, rfl⟩
        have LS2 := Lib.hid (show lineI ⟨k, tm, key, val, n2, d, f⟩ (i + 1) = l1 ++ u by rw [← hu]; exact LS.out)
        have hul : u.length ≤ 2002 := by rw [← hu]; exact hul
        have e2 := two_cat l1 u
        have dl2 : l1.length + u.length ≤ 9223372036854775807 := by omega
        rw [hu] at W1
        clear hu
        go_wp2_with fail
        refine (W1.out _).mono ?_
        rintro e wx ⟨rfl, kx⟩
        have KR := Lib.hid (KR.out.trans kx)
        clear kx
        go_wp2_with fail
        go_roundw
        case rel => exact ⟨i + 1, by rw [LS2.out], by go_num, by omega, KR.out⟩
        case measure => simp [Go.RowKit.intOf]; omega
      | v =>
        replace hy : ∀ h : i < (⟨fl.toArray⟩ : ByteArray).size, (((⟨fl.toArray⟩ : ByteArray)[i]'h).toNat : Int) = ((118 : Nat) : Int) := hy
        have hul := LG.out .v
        obtain ⟨u, hu⟩ : ∃ u, wordT val = u := ⟨_, rfl⟩
        have LS2 := Lib.hid (show lineI ⟨k, tm, key, val, n2, d, f⟩ (i + 1) = l1 ++ u by rw [← hu]; exact LS.out)
        have hul : u.length ≤ 2002 := by rw [← hu]; exact hul
        have e2 := two_cat l1 u
        have dl2 : l1.length + u.length ≤ 9223372036854775807 := by omega
        rw [hu] at W2
        clear hu
        go_wp2_with fail
        refine (W2.out _).mono ?_
        rintro e wx ⟨rfl, kx⟩
        have KR := Lib.hid (KR.out.trans kx)
        clear kx
        go_wp2_with fail
        go_roundw
        case rel => exact ⟨i + 1, by rw [LS2.out], by go_num, by omega, KR.out⟩
        case measure => simp [Go.RowKit.intOf]; omega
      | n =>
        replace hy : ∀ h : i < (⟨fl.toArray⟩ : ByteArray).size, (((⟨fl.toArray⟩ : ByteArray)[i]'h).toNat : Int) = ((110 : Nat) : Int) := hy
        have hul := LG.out .n
        obtain ⟨u, hu⟩ : ∃ u, numT n2 = u := ⟨_, rfl⟩
        have LS2 := Lib.hid (show lineI ⟨k, tm, key, val, n2, d, f⟩ (i + 1) = l1 ++ u by rw [← hu]; exact LS.out)
        have hul : u.length ≤ 2002 := by rw [← hu]; exact hul
        have e2 := two_cat l1 u
        have dl2 : l1.length + u.length ≤ 9223372036854775807 := by omega
        rw [hu] at N2
        clear hu
        go_wp2_with fail
        refine (N2.out _).mono ?_
        rintro e wr ⟨rfl, rfl⟩
        go_wp2_with fail
        go_roundw
        case rel => exact ⟨i + 1, by rw [LS2.out], by go_num, by omega, KR.out⟩
        case measure => simp [Go.RowKit.intOf]; omega
      | d =>
        replace hy : ∀ h : i < (⟨fl.toArray⟩ : ByteArray).size, (((⟨fl.toArray⟩ : ByteArray)[i]'h).toNat : Int) = ((100 : Nat) : Int) := hy
        cases d with
        | false =>
          have LS2 := Lib.hid (show lineI ⟨k, tm, key, val, n2, false, f⟩ (i + 1) = l1 ++ [48] from LS.out)
          have dl2 : l1.length + 1 ≤ 9223372036854775807 := by omega
          have e2 : ((⟨l1.toArray⟩ : ByteArray) ++ (⟨#[48]⟩ : ByteArray)) = ⟨(l1 ++ [48]).toArray⟩ := two_cat l1 [48]
          go_wp2_with fail
          go_wp2_with fail
          go_roundw
          case rel => exact ⟨i + 1, by rw [LS2.out], by go_num, by omega, KR.out⟩
          case measure => simp [Go.RowKit.intOf]; omega
        | true =>
          have LS2 := Lib.hid (show lineI ⟨k, tm, key, val, n2, true, f⟩ (i + 1) = l1 ++ [49] from LS.out)
          have dl2 : l1.length + 1 ≤ 9223372036854775807 := by omega
          have e2 : ((⟨l1.toArray⟩ : ByteArray) ++ (⟨#[49]⟩ : ByteArray)) = ⟨(l1 ++ [49]).toArray⟩ := two_cat l1 [49]
          go_wp2_with fail
          go_wp2_with fail
          go_roundw
          case rel => exact ⟨i + 1, by rw [LS2.out], by go_num, by omega, KR.out⟩
          case measure => simp [Go.RowKit.intOf]; omega
      | fl =>
        replace hy : ∀ h : i < (⟨fl.toArray⟩ : ByteArray).size, (((⟨fl.toArray⟩ : ByteArray)[i]'h).toNat : Int) = ((102 : Nat) : Int) := hy
        have hul := LG.out .fl
        obtain ⟨u, hu⟩ : ∃ u, wordT f = u := ⟨_, rfl⟩
        have LS2 := Lib.hid (show lineI ⟨k, tm, key, val, n2, d, f⟩ (i + 1) = l1 ++ u by rw [← hu]; exact LS.out)
        have hul : u.length ≤ 2002 := by rw [← hu]; exact hul
        have e2 := two_cat l1 u
        have dl2 : l1.length + u.length ≤ 9223372036854775807 := by omega
        rw [hu] at W3
        clear hu
        have hcv := conv_str fa f.length ca (natsU f) wr (by rw [natsU_len]) (HA.out.same (K0.out.trans HK.out))
        rw [strN_natsU] at hcv
        go_wp2_with fail
        refine (W3.out _).mono ?_
        rintro e wx ⟨rfl, kx⟩
        have KR := Lib.hid (KR.out.trans kx)
        clear kx
        go_wp2_with fail
        go_roundw
        case rel => exact ⟨i + 1, by rw [LS2.out], by go_num, by omega, KR.out⟩
        case measure => simp [Go.RowKit.intOf]; omega
    · have g1 : ¬ (i : Int) < (fl.length : Int) := by have := HFL.out; omega
      have hle := LE.out i (by omega)
      rw [hle] at hll
      rw [hle]
      obtain ⟨ln, hln⟩ : ∃ ln, joinW (wordsS ⟨k, tm, key, val, n2, d, f⟩) = ln := ⟨_, rfl⟩
      rw [hln] at LM hll
      rw [hln]
      have P2 := Lib.hid (cr_parse ln (by omega) wr)
      clear hle hln LE LL LST FC HL0 N1 N2 W1 W2 W3 SH
      go_wp2_with fail
      refine P2.out.mono ?_
      rintro e w3 ⟨v, rfl, ⟨sv, rfl, hsv⟩, k3⟩
      have K3 := Lib.hid ((K0.out.trans HK.out).trans k3)
      have B3 := Lib.hid (BR.out.kept k3 (fun h => h))
      clear k3 P2 HK BR
      have QS := Lib.hid (show (parseT ln).isSome = true → parseT ln = some ((parseT ln).getD (stp0 0)) by cases parseT ln with | none => intro h; cases h | some a => intro _; rfl)
      have QN := Lib.hid (show (parseT ln).isSome = false → parseT ln = none by cases parseT ln with | none => intro _; rfl | some a => intro h; cases h)
      obtain ⟨q, hq⟩ : ∃ q, (parseT ln).getD (stp0 0) = q := ⟨_, rfl⟩
      obtain ⟨ok, hok⟩ : ∃ ok, (parseT ln).isSome = ok := ⟨_, rfl⟩
      rw [hq] at hsv QS
      rw [hok] at QS QN
      rw [hok]
      clear hq hok
      obtain ⟨xa, xc, rfl, hxn, -⟩ := hsv
      go_upto_region 22 with fail
      obtain ⟨z, hz⟩ : ∃ z, w3.heap.size = z := ⟨_, rfl⟩
      refine cutC (fun wn => Blk wn z #[.int .u8 (q.k : Nat), .int .i64 q.txn, encStr q.key, encStr q.val, .int .i64 q.n, .bool q.d, .slice xa q.f.length xc] 30 ∧ Blk wn y #[.int .u8 (k : Nat), .int .i64 tx, encStr key, encStr val, .int .i64 n, .bool d, .slice fa f.length ca] 30 ∧ Same w wn ∧ NatsAt wn .u8 xa (natsU q.f)) ⟨Blk.new' _ _ _ hz.symm, B3.out.alloc _, K3.out.alloc _, hxn.same ((Kept.refl _ _).alloc _)⟩ ?_
      rintro w4 ⟨bz, by4, k4, hx4⟩
      rw [hz]
      have K4 := Lib.hid k4
      have SC := Lib.hid (SM.out q xa xc w4 k4 hx4)
      clear p0 p1 p2 p3 p4 p5 p6
      have p0 := cell_blk by4 0
      have p1 := cell_blk by4 1
      have p2 := cell_blk by4 2
      have p3 := cell_blk by4 3
      have p4 := cell_blk by4 4
      have p5 := cell_blk by4 5
      have p6 := cell_blk by4 6
      have q0 := cell_blk bz 0
      have q1 := cell_blk bz 1
      have q2 := cell_blk bz 2
      have q3 := cell_blk bz 3
      have q4 := cell_blk bz 4
      have q5 := cell_blk bz 5
      have q6 := cell_blk bz 6
      clear bz by4 k4 hx4 hz hxn K3 B3 SM B0
      cases ok with
      | false =>
        have Z := Lib.hid (show LV = .tuple #[encStr [], .bool false] by rw [LM.out, QN.out rfl]; rfl)
        clear QS QN SC
        go_wp2_with fail
        go_ret2
        exact ⟨by rw [Z.out]; rfl, K4.out⟩
      | true =>
        have PE := QS.out rfl
        clear QS QN
        by_cases hqs : q = ⟨k, tx, key, val, n, d, f⟩
        · have Z := Lib.hid (show LV = .tuple #[encStr ln, .bool true] by rw [LM.out, PE, hqs, if_pos rfl])
          rw [show decide (q = ⟨k, tx, key, val, n, d, f⟩) = true by simpa using hqs] at SC
          clear hqs PE LM
          go_wp2_with fail
          refine SC.out.mono ?_
          rintro e w5 ⟨rfl, k5⟩
          have K5 := Lib.hid (K4.out.trans k5)
          clear k5
          go_wp2_with fail
          go_ret2
          exact ⟨by rw [Z.out]; rfl, K5.out⟩
        · have Z := Lib.hid (show LV = .tuple #[encStr [], .bool false] by rw [LM.out, PE, if_neg (fun h => hqs (Option.some.inj h))])
          rw [show decide (q = ⟨k, tx, key, val, n, d, f⟩) = false by simpa using hqs] at SC
          clear hqs PE LM
          go_wp2_with fail
          refine SC.out.mono ?_
          rintro e w5 ⟨rfl, k5⟩
          have K5 := Lib.hid (K4.out.trans k5)
          clear k5
          go_wp2_with fail
          go_ret2
          exact ⟨by rw [Z.out]; rfl, K5.out⟩
end Go.Proofs.YtnjmdldhgconmaaGreatDoor
