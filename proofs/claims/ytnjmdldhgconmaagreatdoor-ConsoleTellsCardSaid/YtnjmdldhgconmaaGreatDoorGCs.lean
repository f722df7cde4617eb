/- GCs: Cr8, Ct1, Cq7. -/
import Derived.Test.YtnjmdldhgconmaaGreatDoorGCqB
namespace Go.Proofs.YtnjmdldhgconmaaGreatDoor
open Go.RowKit Go.Sort

def lightS (s : Stp) : Bool := decide (s.key.length ≤ 100) && (decide (s.val.length ≤ 100) && decide (s.f.length ≤ 100))
set_option maxRecDepth 100000 in
theorem cr_light (s : Stp) (a : Option Addr) (c : Nat) (w : World) :
    Calls Tryz.prog 17 #[.agg #[.int .u8 (s.k : Nat), .int .i64 s.txn, encStr s.key, encStr s.val, .int .i64 s.n, .bool s.d, .slice a s.f.length c]] w fun e w' => e = .returned (.bool (lightS s)) ∧ Same w w' := by
  obtain ⟨r, hr⟩ : ∃ r, lightS s = r := ⟨_, rfl⟩
  have HR := Lib.hid hr.symm
  rw [hr]
  clear hr
  unfold lightS at HR
  obtain ⟨k, tx, key, val, n, d, f⟩ := s
  simp only at HR ⊢
  go_enter Tryz.func17, Tryz.ntmps17
  by_cases h1 : key.length ≤ 100
  · have h1' : (key.length : Int) ≤ 100 := by omega
    rw [show decide (key.length ≤ 100) = true by simpa using h1] at HR
    by_cases h2 : val.length ≤ 100
    · have h2' : (val.length : Int) ≤ 100 := by omega
      rw [show decide (val.length ≤ 100) = true by simpa using h2] at HR
      by_cases h3 : f.length ≤ 100
      · have h3' : (f.length : Int) ≤ 100 := by omega
        rw [show decide (f.length ≤ 100) = true by simpa using h3] at HR
        go_wp2_with fail
        go_ret
        exact ⟨by rw [HR.out]; rfl, (Kept.refl _ _).alloc _⟩
      · have h3' : ¬ (f.length : Int) ≤ 100 := by omega
        rw [show decide (f.length ≤ 100) = false by simpa using h3] at HR
        go_wp2_with fail
        go_ret
        exact ⟨by rw [HR.out]; rfl, (Kept.refl _ _).alloc _⟩
    · have h2' : ¬ (val.length : Int) ≤ 100 := by omega
      rw [show decide (val.length ≤ 100) = false by simpa using h2] at HR
      go_wp2_with fail
      go_ret
      exact ⟨by rw [HR.out]; rfl, (Kept.refl _ _).alloc _⟩
  · have h1' : ¬ (key.length : Int) ≤ 100 := by omega
    rw [show decide (key.length ≤ 100) = false by simpa using h1] at HR
    go_wp2_with fail
    go_ret
    exact ⟨by rw [HR.out]; rfl, (Kept.refl _ _).alloc _⟩
set_option maxRecDepth 100000 in
set_option maxHeartbeats 1600000 in
theorem cr_samelines (a b : Option Addr) (na nb ca cb : Nat) (xs ys : List Tx) (w : World) (hna : na = xs.length) (hnb : nb = ys.length) (ha : ElsAt txE w a xs) (hb : ElsAt txE w b ys) (hl : xs.length ≤ 1000000) (hl2 : ys.length ≤ 1000000) :
    Calls Tryz.prog 20 #[.slice a na ca, .slice b nb cb] w fun e w' => e = .returned (.bool (decide (xs = ys))) ∧ Same w w' := by
  have HNA := Lib.hid hna; have HNB := Lib.hid hnb
  have HA := Lib.hid ha; have HB := Lib.hid hb
  clear ha hb
  by_cases hlen : na = nb
  · have g0 : ((na : Int) == (nb : Int)) = true := by simp only [beq_iff_eq]; omega
    have g1 : ((na : Int) != (nb : Int)) = false := by simp only [bne, g0]; rfl
    have LL := Lib.hid (show xs.length = ys.length by omega)
    have hsub : Hid (na = nb) := hlen
    clear hlen hna hnb
    go_enter Tryz.func20, Tryz.ntmps20
    go_wp2_with fail
    go_loopw [5] (fun t wr => ∃ i : Nat, t = .int .i64 i ∧ i ≤ na ∧ xs.take i = ys.take i ∧ Same w wr) (fun t _ => na - (intOf t).toNat)
    case atStart => exact ⟨0, rfl, by omega, rfl, Kept.refl _ _⟩
    case round =>
      obtain ⟨i, rfl, hi, he, hk⟩ := hrel
      have HE := Lib.hid he; have HK := Lib.hid hk
      clear he hk
      by_cases hgo : i < na
      · have h1 : (i : Int) < (na : Int) := by omega
        have h1b : (i : Int) < (nb : Int) := by have := hsub.out; omega
        have h0 : (0 : Int) ≤ (i : Int) := by omega
        have hix : i < xs.length := by have := HNA.out; omega
        have hiy : i < ys.length := by have := LL.out; omega
        obtain ⟨b1, o1, rfl, -, c1⟩ := tx_cell (HA.out.same HK.out) (List.getElem?_eq_getElem hix)
        obtain ⟨b2, o2, rfl, -, c2⟩ := tx_cell (HB.out.same HK.out) (List.getElem?_eq_getElem hiy)
        obtain ⟨x, hx⟩ : ∃ x, xs[i] = x := ⟨_, rfl⟩
        obtain ⟨y, hy⟩ : ∃ y, ys[i] = y := ⟨_, rfl⟩
        rw [hx] at c1
        rw [hy] at c2
        by_cases hxy : x = y
        · subst hxy
          have q1 : (x == x) = true := by simp
          have q2 : (x != x) = false := by simp
          have TE := Lib.hid (show xs.take (i + 1) = ys.take (i + 1) by
            rw [List.take_add_one, List.take_add_one, List.getElem?_eq_getElem hix, List.getElem?_eq_getElem hiy, hx, hy, HE.out])
          go_upto_region 6 with fail
          go_quiet (fail)
          go_wp2_with fail
          go_roundw
          case rel => exact ⟨i + 1, by go_num, by omega, TE.out, HK.out.drewN _⟩
          case measure => simp [intOf]; omega
        · have q1 : (x == y) = false := by simpa using hxy
          have q2 : (x != y) = true := by simpa using hxy
          have NE := Lib.hid (show decide (xs = ys) = false by
            rw [decide_eq_false_iff_not]
            intro e
            subst e
            exact hxy (hx.symm.trans hy))
          go_upto_region 6 with fail
          go_quiet (fail)
          go_wp2_with fail
          go_ret
          exact ⟨by rw [NE.out]; rfl, HK.out.drewN _⟩
      · have h1 : ¬ (i : Int) < (na : Int) := by omega
        have EQ := Lib.hid (show decide (xs = ys) = true by
          rw [decide_eq_true_eq]
          have := HE.out
          rwa [List.take_of_length_le (by have := HNA.out; omega), List.take_of_length_le (by have := HNA.out; have := LL.out; omega)] at this)
        go_wp2_with fail
        go_ret
        exact ⟨by rw [EQ.out]; rfl, HK.out⟩
  · have g0 : ((na : Int) == (nb : Int)) = false := by simp only [beq_eq_false_iff_ne]; omega
    have g1 : ((na : Int) != (nb : Int)) = true := by simp only [bne, g0]; rfl
    have NE := Lib.hid (show decide (xs = ys) = false by
      rw [decide_eq_false_iff_not]
      intro e
      subst e
      omega)
    clear hlen hna hnb
    go_enter Tryz.func20, Tryz.ntmps20
    go_wp2_with fail
    go_ret
    exact ⟨by rw [NE.out]; rfl, Kept.refl _ _⟩

theorem word_ge (s : Tx) : s.length ≤ (wordT s).length := by
  unfold wordT
  split
  · rename_i h; subst h; simp
  · split
    · omega
    · simp only [List.length_cons, hexT_len]; omega
theorem unword_le {w s : Tx} (h : unwordT w = some s) : s.length ≤ w.length := by
  have := word_ge s
  rw [word_unword h] at this
  exact this
theorem num_lt {w : Tx} {n : Nat} (h : numOf w = some n) : n < 1000000000000 := by
  unfold numOf at h
  split at h
  · rename_i q
    cases h
    have h1 := val_lt 1000000 w (by omega) q.2.2.1
    have h2 := pow12 q.2.1
    omega
  · cases h
theorem putF_ok {s s' : Stp} {f : Fld} {w : Tx} (h : putF s f w = some s') (hw : w.length ≤ 1000) (hs : StpOK s) : StpOK s' := by
  obtain ⟨h1, h2, h3, h4, h5, h6, h7⟩ := hs
  cases f with
  | t =>
    simp only [putF, Option.map_eq_some_iff] at h
    obtain ⟨n, hn, rfl⟩ := h
    have := num_lt hn
    exact ⟨by show _ ≤ (n : Int); omega, by show (n : Int) ≤ _; omega, h3, h4, h5, h6, h7⟩
  | n =>
    simp only [putF, Option.map_eq_some_iff] at h
    obtain ⟨n, hn, rfl⟩ := h
    have := num_lt hn
    exact ⟨h1, h2, by show _ ≤ (n : Int); omega, by show (n : Int) ≤ _; omega, h5, h6, h7⟩
  | d =>
    simp only [putF] at h
    split at h
    · split at h
      · cases h; exact ⟨h1, h2, h3, h4, h5, h6, h7⟩
      · cases h
    · cases h
  | k =>
    simp only [putF, Option.map_eq_some_iff] at h
    obtain ⟨x, hx, rfl⟩ := h
    have := unword_le hx
    exact ⟨h1, h2, h3, h4, by show x.length ≤ _; omega, h6, h7⟩
  | v =>
    simp only [putF, Option.map_eq_some_iff] at h
    obtain ⟨x, hx, rfl⟩ := h
    have := unword_le hx
    exact ⟨h1, h2, h3, h4, h5, by show x.length ≤ _; omega, h7⟩
  | fl =>
    simp only [putF, Option.map_eq_some_iff] at h
    obtain ⟨x, hx, rfl⟩ := h
    have := unword_le hx
    exact ⟨h1, h2, h3, h4, h5, h6, by show x.length ≤ _; omega⟩
theorem putFs_ok : ∀ {fs : List Fld} {ws : List Tx} {s s' : Stp}, putFs s fs ws = some s' → (∀ x ∈ ws, x.length ≤ 1000) → StpOK s → StpOK s'
  | [], [], s, s', h, _, hs => by cases h; exact hs
  | [], _ :: _, _, _, h, _, _ => by cases h
  | _ :: _, [], _, _, h, _, _ => by cases h
  | f :: fs, w :: ws, s, s', h, hw, hs => by
    rw [putFs] at h
    cases hp : putF s f w with
    | none => rw [hp] at h; cases h
    | some s1 =>
      rw [hp] at h
      exact putFs_ok h (fun x hx => hw x (List.mem_cons_of_mem _ hx)) (putF_ok hp (hw w (List.mem_cons_self ..)) hs)
theorem parse_ok {l : Tx} {s : Stp} (h : parseT l = some s) (hl : l.length ≤ 1000) : StpOK s := by
  unfold parseT parseW at h
  obtain ⟨k, -, hk⟩ := List.exists_of_findSome?_eq_some h
  have htx := split_tx l
  unfold parseK at hk
  split at hk
  · rename_i nm fs w r hs hws
    split at hk
    · refine putFs_ok hk (fun x hx => ?_) (show StpOK (stp0 k) from by simp [StpOK, stp0])
      have := htx x (by rw [hws]; exact List.mem_cons_of_mem _ hx)
      omega
    · cases hk
  · cases hk
end Go.Proofs.YtnjmdldhgconmaaGreatDoor

namespace Go.Proofs.YtnjmdldhgconmaaGreatDoor
open Go.RowKit Go.Sort

/-- A pair of texts as an element. -/
def ptE : Enc (Tx × Tx) where
  n := 2
  enc x := [encStr x.1, encStr x.2]
  len _ := rfl
  pos := by decide
  one x v hv := by simp at hv; rcases hv with rfl | rfl <;> rfl
theorem two_cat (a b : Tx) : ((⟨a.toArray⟩ : ByteArray) ++ (⟨b.toArray⟩ : ByteArray)) = ⟨(a ++ b).toArray⟩ := str_app a b
theorem toldT_err {k : Nat} {id ts : Int} {val : Tx} {is : Bool} {ps : List (Tx × Tx)} {e : Int} (h : e ≠ 0) : toldT k id ts val is ps e = [errorW ++ numT e] := by unfold toldT; rw [if_pos h]
theorem toldT_else {k : Nat} {id ts : Int} {val : Tx} {is : Bool} {ps : List (Tx × Tx)} (h0 : k ≠ 0) (h1 : k ≠ 1) (h4 : k ≠ 4) (h5 : k ≠ 5) : toldT k id ts val is ps 0 = [[111, 107]] := by
  unfold toldT
  rw [if_neg (by simp)]
  split <;> first | rfl | contradiction

set_option maxRecDepth 100000 in
set_option maxHeartbeats 6400000 in
theorem co_told (s : Stp) (fa : Option Addr) (ca : Nat) (id ts : Int) (val : Tx) (is : Bool) (pa : Option Addr) (pn pc : Nat) (ps : List (Tx × Tx)) (e : Int) (w : World)
    (i1 : -9223372036854775807 ≤ id) (i2 : id ≤ 9223372036854775807) (t1 : -9223372036854775807 ≤ ts) (t2 : ts ≤ 9223372036854775807) (hv : val.length ≤ 1000) (e1 : -9223372036854775807 ≤ e) (e2 : e ≤ 9223372036854775807) (hk4 : e ≠ 0 ∨ s.k ≠ 4) :
    Calls Tryz.prog 21 #[.agg #[.int .u8 (s.k : Nat), .int .i64 s.txn, encStr s.key, encStr s.val, .int .i64 s.n, .bool s.d, .slice fa s.f.length ca], .agg #[.int .i64 id, .int .i64 ts, encStr val, .bool is, .slice pa pn pc], .int .i64 e] w fun e' w' => ∃ v, e' = .returned v ∧ WordsV w' (toldT s.k id ts val is ps e) v ∧ Same w w' := by
  obtain ⟨k, tx, key, sva, n, d, f⟩ := s
  simp only at hk4 ⊢
  have NI := Lib.hid (fun w => co_num id (by omega) (by omega) w)
  have NT := Lib.hid (fun w => co_num ts (by omega) (by omega) w)
  have NE := Lib.hid (fun w => co_num e (by omega) (by omega) w)
  have WV := Lib.hid (fun w => co_word val (by omega) w)
  have li := num_len id (by omega) (by omega)
  have lt := num_len ts (by omega) (by omega)
  have le := num_len e (by omega) (by omega)
  have lv := word_len val
  have TE := Lib.hid (fun h => toldT_err (k := k) (id := id) (ts := ts) (val := val) (is := is) (ps := ps) (e := e) h)
  have TL := Lib.hid (fun h0 h1 h4 h5 => toldT_else (k := k) (id := id) (ts := ts) (val := val) (is := is) (ps := ps) h0 h1 h4 h5)
  obtain ⟨L, hL⟩ : ∃ L, toldT k id ts val is ps e = L := ⟨_, rfl⟩
  rw [hL]
  have HL := Lib.hid hL
  rw [hL] at TE
  clear hL
  obtain ⟨wi, hwi⟩ : ∃ t, numT id = t := ⟨_, rfl⟩
  obtain ⟨wt, hwt⟩ : ∃ t, numT ts = t := ⟨_, rfl⟩
  obtain ⟨we, hwe⟩ : ∃ t, numT e = t := ⟨_, rfl⟩
  obtain ⟨wv, hwv⟩ : ∃ t, wordT val = t := ⟨_, rfl⟩
  rw [hwi] at NI li
  rw [hwt] at NT lt
  rw [hwe] at NE le TE
  rw [hwv] at WV lv
  have HWI := Lib.hid hwi; have HWT := Lib.hid hwt; have HWV := Lib.hid hwv
  clear hwi hwt hwe hwv
  obtain ⟨y, hyy⟩ : ∃ y, w.heap.size = y := ⟨_, rfl⟩
  have k0 : Same w ((w.alloc (.cells #[.int .u8 (k : Nat), .int .i64 tx, encStr key, encStr sva, .int .i64 n, .bool d, .slice fa f.length ca] 27)).alloc (.cells #[.int .i64 id, .int .i64 ts, encStr val, .bool is, .slice pa pn pc]  48)) := ((Kept.refl _ w).alloc _).alloc _
  have b0 : Blk ((w.alloc (.cells #[.int .u8 (k : Nat), .int .i64 tx, encStr key, encStr sva, .int .i64 n, .bool d, .slice fa f.length ca] 27)).alloc (.cells #[.int .i64 id, .int .i64 ts, encStr val, .bool is, .slice pa pn pc]  48)) y #[.int .u8 (k : Nat), .int .i64 tx, encStr key, encStr sva, .int .i64 n, .bool d, .slice fa f.length ca]  27 := (Blk.new' _ _ _ hyy.symm).alloc _
  have c0 : Blk ((w.alloc (.cells #[.int .u8 (k : Nat), .int .i64 tx, encStr key, encStr sva, .int .i64 n, .bool d, .slice fa f.length ca] 27)).alloc (.cells #[.int .i64 id, .int .i64 ts, encStr val, .bool is, .slice pa pn pc]  48)) (y + 1) #[.int .i64 id, .int .i64 ts, encStr val, .bool is, .slice pa pn pc]  48 := Blk.new' _ _ _ (by simp [hyy])
  go_enter Tryz.func21, Tryz.ntmps21
  go_upto_region 1 with fail
  refine cutC (fun wn => Blk wn y #[.int .u8 (k : Nat), .int .i64 tx, encStr key, encStr sva, .int .i64 n, .bool d, .slice fa f.length ca]  27 ∧ Blk wn (y + 1) #[.int .i64 id, .int .i64 ts, encStr val, .bool is, .slice pa pn pc]  48 ∧ Same w wn) ⟨b0, c0, k0⟩ ?_
  clear b0 c0 k0
  rintro w0 ⟨b0, c0, k0⟩
  have K0 := Lib.hid k0
  have C7 := Lib.hid (fun w' (k : Same w0 w') => c0.kept k (fun h => h))
  have p0 := cell_blk b0 0
  have r0 := cell_blk c0 0
  have r1 := cell_blk c0 1
  have r2 := cell_blk c0 2
  have r3 := cell_blk c0 3
  clear b0 c0 k0
  by_cases he : e = 0
  · subst he
    have hk4' : k ≠ 4 := hk4.resolve_left (fun h => h rfl)
    clear hk4 TE NE
    by_cases hk0 : k = 0
    · subst hk0
      have TT := Lib.hid (show L = [[116, 120, 110, 32] ++ wi ++ [32, 97, 116, 32] ++ wt] by rw [← HL.out, ← HWI.out, ← HWT.out]; rfl)
      have c1 : ((⟨#[116, 120, 110, 32]⟩ : ByteArray) ++ (⟨wi.toArray⟩ : ByteArray)) = ⟨([116, 120, 110, 32] ++ wi).toArray⟩ := two_cat [116, 120, 110, 32] wi
      have l1 : ([116, 120, 110, 32] ++ wi).length ≤ 24 := by simp; omega
      obtain ⟨a1, ha1⟩ : ∃ a, [116, 120, 110, 32] ++ wi = a := ⟨_, rfl⟩
      rw [ha1] at TT c1 l1
      have c2 : ((⟨a1.toArray⟩ : ByteArray) ++ (⟨#[32, 97, 116, 32]⟩ : ByteArray)) = ⟨(a1 ++ [32, 97, 116, 32]).toArray⟩ := two_cat a1 [32, 97, 116, 32]
      have l2 : (a1 ++ [32, 97, 116, 32]).length ≤ 28 := by simp; omega
      obtain ⟨a2, ha2⟩ : ∃ a, a1 ++ [32, 97, 116, 32] = a := ⟨_, rfl⟩
      rw [ha2] at TT c2 l2
      have c3 := two_cat a2 wt
      obtain ⟨a3, ha3⟩ : ∃ a, a2 ++ wt = a := ⟨_, rfl⟩
      rw [ha3] at TT c3
      have d1 : 4 + wi.length ≤ 9223372036854775807 := by omega
      have d2 : a1.length + 4 ≤ 9223372036854775807 := by omega
      have d3 : a2.length + wt.length ≤ 9223372036854775807 := by omega
      have d1' : ¬ 9223372036854775807 < 4 + wi.length := by omega
      have d2' : ¬ 9223372036854775807 < a1.length + 4 := by omega
      have d3' : ¬ 9223372036854775807 < a2.length + wt.length := by omega
      clear ha1 ha2 ha3
      clear TL HL hk4'
      go_upto_region 5 with fail
      refine wp_region_T (S := fun w' => Same w0 w') 7 (by kernel_rfl) (Kept.refl _ _).drew (fun hHeld hDn => ?_)
      refine wpT_zs 0 20 hHeld hDn fun hDn => ?_
      refine wpT_zs 1 21 (v := .int .i64 id) hHeld hDn (fun hDn => ?_) (hv := by intro w hSw; have q := cell_blk (C7.out w hSw) 0; go_simp)
      refine wpT_zs 5 25 hHeld hDn fun hDn => ?_
      refine wpT_zs 6 26 (v := .int .i64 ts) hHeld hDn (fun hDn => ?_) (hv := by intro w hSw; have q := cell_blk (C7.out w hSw) 1; go_simp)
      refine wpT_one (i := 2) rfl (by kernel_rfl) hDn (fun K' hK => ?_)
      go_simp
      refine (NI.out _).mono ?_
      rintro e w2 ⟨rfl, rfl⟩
      refine hK.out _ _ ((Kept.refl _ _).drew) (fun hHeld2 hDn2 => ?_)
      clear hK K' hHeld hDn
      have hHeld := hHeld2; have hDn := hDn2
      clear hHeld2 hDn2
      refine wpT_zw 3 23 (v := encStr a1) hHeld hDn (fun hDn => ?_) (hv := by intro w _; go_simp)
      refine wpT_zw 4 24 (v := encStr a2) hHeld hDn (fun hDn => ?_) (hv := by intro w _; go_simp)
      refine wpT_last rfl (by kernel_rfl) hDn (fun K hK => ?_)
      go_simp
      refine (NT.out _).mono ?_
      rintro e w3 ⟨rfl, rfl⟩
      refine hK.out _ _ (fun hDn' => ?_)
      clear hK K hDn hHeld; have hDn := hDn'; clear hDn'
      refine wpT_ze 8 28 (v := encStr a3) hDn (fun hDn => ?_) (hv := by intro w _; go_simp)
      refine wpT_oneF (i := 9) rfl (by kernel_rfl) rfl (by kernel_rfl) hDn (fun K hK => ?_)
      go_simp
      refine hK.out _ _ (fun hDn' => ?_)
      clear hK K hDn; have hDn := hDn'; clear hDn'
      refine wpT_ze 10 6 hDn fun hDn => ?_
      refine wpT_done (by kernel_rfl) ?_ _
      clear hDn
      go_wp2_with fail
      go_ret
      exact ⟨_, rfl, by rw [TT.out]; exact ⟨_, _, rfl, (els_lit w0 [a3]).same ((Kept.refl _ _).drew), Nat.le_refl _⟩, (K0.out.alloc _).drew⟩
    by_cases hk1 : k = 1
    · subst hk1
      clear TL hk4' hk0
      cases is with
      | false =>
        have TT := Lib.hid (show L = [[110, 111, 110, 101]] by rw [← HL.out]; rfl)
        go_wp2_with fail
        go_ret
        exact ⟨_, rfl, by rw [TT.out]; exact ⟨_, _, rfl, els_lit _ [_], Nat.le_refl _⟩, K0.out.alloc _⟩
      | true =>
        have TT := Lib.hid (show L = [[105, 115, 32] ++ wv] by rw [← HL.out, ← HWV.out]; rfl)
        have c1 : ((⟨#[105, 115, 32]⟩ : ByteArray) ++ (⟨wv.toArray⟩ : ByteArray)) = ⟨([105, 115, 32] ++ wv).toArray⟩ := two_cat [105, 115, 32] wv
        have hd : 3 + wv.length ≤ 9223372036854775807 := by omega
        go_wp2_with fail
        refine (WV.out _).mono ?_
        rintro e w3 ⟨rfl, k3⟩
        have K0 := Lib.hid (K0.out.trans k3)
        clear k3
        go_wp2_with fail
        go_ret
        exact ⟨_, rfl, by rw [TT.out]; exact ⟨_, _, rfl, els_lit _ [_], Nat.le_refl _⟩, K0.out.alloc _⟩
    by_cases hk5 : k = 5
    · subst hk5
      clear TL hk4' hk0 hk1
      have TT := Lib.hid (show L = [[97, 116, 32] ++ wt] by rw [← HL.out, ← HWT.out]; rfl)
      have c1 : ((⟨#[97, 116, 32]⟩ : ByteArray) ++ (⟨wt.toArray⟩ : ByteArray)) = ⟨([97, 116, 32] ++ wt).toArray⟩ := two_cat [97, 116, 32] wt
      have hd : 3 + wt.length ≤ 9223372036854775807 := by omega
      go_wp2_with fail
      refine (NT.out _).mono ?_
      rintro e w3 ⟨rfl, rfl⟩
      go_wp2_with fail
      go_ret
      exact ⟨_, rfl, by rw [TT.out]; exact ⟨_, _, rfl, els_lit _ [_], Nat.le_refl _⟩, K0.out.alloc _⟩
    · have TT := Lib.hid (show L = [[111, 107]] by rw [← HL.out]; exact TL.out hk0 hk1 hk4' hk5)
      have q0 : ((k : Int) == 0) = false := by simp only [beq_eq_false_iff_ne]; omega
      have q1 : ((k : Int) == 1) = false := by simp only [beq_eq_false_iff_ne]; omega
      have q4 : ((k : Int) == 4) = false := by simp only [beq_eq_false_iff_ne]; omega
      have q5 : ((k : Int) == 5) = false := by simp only [beq_eq_false_iff_ne]; omega
      clear TL hk0 hk1 hk4' hk5
      go_wp2_with fail
      go_ret
      exact ⟨_, rfl, by rw [TT.out]; exact ⟨_, _, rfl, els_lit _ [_], Nat.le_refl _⟩, K0.out.alloc _⟩
  · have TT := Lib.hid (TE.out he)
    have c1 : ((⟨#[101, 114, 114, 111, 114, 32]⟩ : ByteArray) ++ (⟨we.toArray⟩ : ByteArray)) = ⟨(errorW ++ we).toArray⟩ := two_cat errorW we
    have hd : 6 + we.length ≤ 9223372036854775807 := by omega
    have q1 : (e == 0) = false := by simpa using he
    have q2 : (e != 0) = true := by simpa using he
    clear he hk4 TE TL
    go_wp2_with fail
    refine (NE.out _).mono ?_
    rintro e w3 ⟨rfl, rfl⟩
    go_wp2_with fail
    go_ret
    exact ⟨_, rfl, by rw [TT.out]; exact ⟨_, _, rfl, els_lit _ [_], Nat.le_refl _⟩, K0.out.alloc _⟩

set_option maxRecDepth 100000 in
set_option maxHeartbeats 6400000 in
theorem cr_told (s : Stp) (fa : Option Addr) (ca : Nat) (id ts : Int) (val : Tx) (is : Bool) (pa : Option Addr) (pn pc : Nat) (ps : List (Tx × Tx)) (e : Int) (w : World)
    (i1 : -9223372036854775807 ≤ id) (i2 : id ≤ 9223372036854775807) (t1 : -9223372036854775807 ≤ ts) (t2 : ts ≤ 9223372036854775807) (hv : val.length ≤ 1000) (e1 : -9223372036854775807 ≤ e) (e2 : e ≤ 9223372036854775807) (hk4 : e ≠ 0 ∨ s.k ≠ 4) :
    Calls Tryz.prog 22 #[.agg #[.int .u8 (s.k : Nat), .int .i64 s.txn, encStr s.key, encStr s.val, .int .i64 s.n, .bool s.d, .slice fa s.f.length ca], .agg #[.int .i64 id, .int .i64 ts, encStr val, .bool is, .slice pa pn pc], .int .i64 e] w fun e' w' => ∃ v, e' = .returned v ∧ WordsV w' (toldT s.k id ts val is ps e) v ∧ Same w w' := by
  obtain ⟨k, tx, key, sva, n, d, f⟩ := s
  simp only at hk4 ⊢
  have NI := Lib.hid (fun w => cr_num id (by omega) (by omega) w)
  have NT := Lib.hid (fun w => cr_num ts (by omega) (by omega) w)
  have NE := Lib.hid (fun w => cr_num e (by omega) (by omega) w)
  have WV := Lib.hid (fun w => cr_word val (by omega) w)
  have li := num_len id (by omega) (by omega)
  have lt := num_len ts (by omega) (by omega)
  have le := num_len e (by omega) (by omega)
  have lv := word_len val
  have TE := Lib.hid (fun h => toldT_err (k := k) (id := id) (ts := ts) (val := val) (is := is) (ps := ps) (e := e) h)
  have TL := Lib.hid (fun h0 h1 h4 h5 => toldT_else (k := k) (id := id) (ts := ts) (val := val) (is := is) (ps := ps) h0 h1 h4 h5)
  obtain ⟨L, hL⟩ : ∃ L, toldT k id ts val is ps e = L := ⟨_, rfl⟩
  rw [hL]
  have HL := Lib.hid hL
  rw [hL] at TE
  clear hL
  obtain ⟨wi, hwi⟩ : ∃ t, numT id = t := ⟨_, rfl⟩
  obtain ⟨wt, hwt⟩ : ∃ t, numT ts = t := ⟨_, rfl⟩
  obtain ⟨we, hwe⟩ : ∃ t, numT e = t := ⟨_, rfl⟩
  obtain ⟨wv, hwv⟩ : ∃ t, wordT val = t := ⟨_, rfl⟩
  rw [hwi] at NI li
  rw [hwt] at NT lt
  rw [hwe] at NE le TE
  rw [hwv] at WV lv
  have HWI := Lib.hid hwi; have HWT := Lib.hid hwt; have HWV := Lib.hid hwv
  clear hwi hwt hwe hwv
  obtain ⟨y, hyy⟩ : ∃ y, w.heap.size = y := ⟨_, rfl⟩
  have k0 : Same w ((w.alloc (.cells #[.int .u8 (k : Nat), .int .i64 tx, encStr key, encStr sva, .int .i64 n, .bool d, .slice fa f.length ca] 30)).alloc (.cells #[.int .i64 id, .int .i64 ts, encStr val, .bool is, .slice pa pn pc]  39)) := ((Kept.refl _ w).alloc _).alloc _
  have b0 : Blk ((w.alloc (.cells #[.int .u8 (k : Nat), .int .i64 tx, encStr key, encStr sva, .int .i64 n, .bool d, .slice fa f.length ca] 30)).alloc (.cells #[.int .i64 id, .int .i64 ts, encStr val, .bool is, .slice pa pn pc]  39)) y #[.int .u8 (k : Nat), .int .i64 tx, encStr key, encStr sva, .int .i64 n, .bool d, .slice fa f.length ca]  30 := (Blk.new' _ _ _ hyy.symm).alloc _
  have c0 : Blk ((w.alloc (.cells #[.int .u8 (k : Nat), .int .i64 tx, encStr key, encStr sva, .int .i64 n, .bool d, .slice fa f.length ca] 30)).alloc (.cells #[.int .i64 id, .int .i64 ts, encStr val, .bool is, .slice pa pn pc]  39)) (y + 1) #[.int .i64 id, .int .i64 ts, encStr val, .bool is, .slice pa pn pc]  39 := Blk.new' _ _ _ (by simp [hyy])
  go_enter Tryz.func22, Tryz.ntmps22
  go_upto_region 1 with fail
  refine cutC (fun wn => Blk wn y #[.int .u8 (k : Nat), .int .i64 tx, encStr key, encStr sva, .int .i64 n, .bool d, .slice fa f.length ca]  30 ∧ Blk wn (y + 1) #[.int .i64 id, .int .i64 ts, encStr val, .bool is, .slice pa pn pc]  39 ∧ Same w wn) ⟨b0, c0, k0⟩ ?_
  clear b0 c0 k0
  rintro w0 ⟨b0, c0, k0⟩
  have K0 := Lib.hid k0
  have C7 := Lib.hid (fun w' (k : Same w0 w') => c0.kept k (fun h => h))
  have p0 := cell_blk b0 0
  have r0 := cell_blk c0 0
  have r1 := cell_blk c0 1
  have r2 := cell_blk c0 2
  have r3 := cell_blk c0 3
  clear b0 c0 k0
  by_cases he : e = 0
  · subst he
    have hk4' : k ≠ 4 := hk4.resolve_left (fun h => h rfl)
    clear hk4 TE NE
    by_cases hk0 : k = 0
    · subst hk0
      have TT := Lib.hid (show L = [[116, 120, 110, 32] ++ wi ++ [32, 97, 116, 32] ++ wt] by rw [← HL.out, ← HWI.out, ← HWT.out]; rfl)
      have c1 : ((⟨#[116, 120, 110, 32]⟩ : ByteArray) ++ (⟨wi.toArray⟩ : ByteArray)) = ⟨([116, 120, 110, 32] ++ wi).toArray⟩ := two_cat [116, 120, 110, 32] wi
      have l1 : ([116, 120, 110, 32] ++ wi).length ≤ 24 := by simp; omega
      obtain ⟨a1, ha1⟩ : ∃ a, [116, 120, 110, 32] ++ wi = a := ⟨_, rfl⟩
      rw [ha1] at TT c1 l1
      have c2 : ((⟨a1.toArray⟩ : ByteArray) ++ (⟨#[32, 97, 116, 32]⟩ : ByteArray)) = ⟨(a1 ++ [32, 97, 116, 32]).toArray⟩ := two_cat a1 [32, 97, 116, 32]
      have l2 : (a1 ++ [32, 97, 116, 32]).length ≤ 28 := by simp; omega
      obtain ⟨a2, ha2⟩ : ∃ a, a1 ++ [32, 97, 116, 32] = a := ⟨_, rfl⟩
      rw [ha2] at TT c2 l2
      have c3 := two_cat a2 wt
      obtain ⟨a3, ha3⟩ : ∃ a, a2 ++ wt = a := ⟨_, rfl⟩
      rw [ha3] at TT c3
      have d1 : 4 + wi.length ≤ 9223372036854775807 := by omega
      have d2 : a1.length + 4 ≤ 9223372036854775807 := by omega
      have d3 : a2.length + wt.length ≤ 9223372036854775807 := by omega
      have d1' : ¬ 9223372036854775807 < 4 + wi.length := by omega
      have d2' : ¬ 9223372036854775807 < a1.length + 4 := by omega
      have d3' : ¬ 9223372036854775807 < a2.length + wt.length := by omega
      clear ha1 ha2 ha3
      clear TL HL hk4'
      go_upto_region 5 with fail
      refine wp_region_T (S := fun w' => Same w0 w') 7 (by kernel_rfl) (Kept.refl _ _).drew (fun hHeld hDn => ?_)
      refine wpT_zs 0 19 hHeld hDn fun hDn => ?_
      refine wpT_zs 1 20 (v := .int .i64 id) hHeld hDn (fun hDn => ?_) (hv := by intro w hSw; have q := cell_blk (C7.out w hSw) 0; go_simp)
      refine wpT_zs 5 24 hHeld hDn fun hDn => ?_
      refine wpT_zs 6 25 (v := .int .i64 ts) hHeld hDn (fun hDn => ?_) (hv := by intro w hSw; have q := cell_blk (C7.out w hSw) 1; go_simp)
      refine wpT_one (i := 2) rfl (by kernel_rfl) hDn (fun K' hK => ?_)
      go_simp
      refine (NI.out _).mono ?_
      rintro e w2 ⟨rfl, rfl⟩
      refine hK.out _ _ ((Kept.refl _ _).drew) (fun hHeld2 hDn2 => ?_)
      clear hK K' hHeld hDn
      have hHeld := hHeld2; have hDn := hDn2
      clear hHeld2 hDn2
      refine wpT_zw 3 22 (v := encStr a1) hHeld hDn (fun hDn => ?_) (hv := by intro w _; go_simp)
      refine wpT_zw 4 23 (v := encStr a2) hHeld hDn (fun hDn => ?_) (hv := by intro w _; go_simp)
      refine wpT_last rfl (by kernel_rfl) hDn (fun K hK => ?_)
      go_simp
      refine (NT.out _).mono ?_
      rintro e w3 ⟨rfl, rfl⟩
      refine hK.out _ _ (fun hDn' => ?_)
      clear hK K hDn hHeld; have hDn := hDn'; clear hDn'
      refine wpT_ze 8 27 (v := encStr a3) hDn (fun hDn => ?_) (hv := by intro w _; go_simp)
      refine wpT_oneF (i := 9) rfl (by kernel_rfl) rfl (by kernel_rfl) hDn (fun K hK => ?_)
      go_simp
      refine hK.out _ _ (fun hDn' => ?_)
      clear hK K hDn; have hDn := hDn'; clear hDn'
      refine wpT_ze 10 6 hDn fun hDn => ?_
      refine wpT_done (by kernel_rfl) ?_ _
      clear hDn
      go_wp2_with fail
      go_ret
      exact ⟨_, rfl, by rw [TT.out]; exact ⟨_, _, rfl, (els_lit w0 [a3]).same ((Kept.refl _ _).drew), Nat.le_refl _⟩, (K0.out.alloc _).drew⟩
    by_cases hk1 : k = 1
    · subst hk1
      clear TL hk4' hk0
      cases is with
      | false =>
        have TT := Lib.hid (show L = [[110, 111, 110, 101]] by rw [← HL.out]; rfl)
        go_wp2_with fail
        go_ret
        exact ⟨_, rfl, by rw [TT.out]; exact ⟨_, _, rfl, els_lit _ [_], Nat.le_refl _⟩, K0.out.alloc _⟩
      | true =>
        have TT := Lib.hid (show L = [[105, 115, 32] ++ wv] by rw [← HL.out, ← HWV.out]; rfl)
        have c1 : ((⟨#[105, 115, 32]⟩ : ByteArray) ++ (⟨wv.toArray⟩ : ByteArray)) = ⟨([105, 115, 32] ++ wv).toArray⟩ := two_cat [105, 115, 32] wv
        have hd : 3 + wv.length ≤ 9223372036854775807 := by omega
        go_wp2_with fail
        refine (WV.out _).mono ?_
        rintro e w3 ⟨rfl, k3⟩
        have K0 := Lib.hid (K0.out.trans k3)
        clear k3
        go_wp2_with fail
        go_ret
        exact ⟨_, rfl, by rw [TT.out]; exact ⟨_, _, rfl, els_lit _ [_], Nat.le_refl _⟩, K0.out.alloc _⟩
    by_cases hk5 : k = 5
    · subst hk5
      clear TL hk4' hk0 hk1
      have TT := Lib.hid (show L = [[97, 116, 32] ++ wt] by rw [← HL.out, ← HWT.out]; rfl)
      have c1 : ((⟨#[97, 116, 32]⟩ : ByteArray) ++ (⟨wt.toArray⟩ : ByteArray)) = ⟨([97, 116, 32] ++ wt).toArray⟩ := two_cat [97, 116, 32] wt
      have hd : 3 + wt.length ≤ 9223372036854775807 := by omega
      go_wp2_with fail
      refine (NT.out _).mono ?_
      rintro e w3 ⟨rfl, rfl⟩
      go_wp2_with fail
      go_ret
      exact ⟨_, rfl, by rw [TT.out]; exact ⟨_, _, rfl, els_lit _ [_], Nat.le_refl _⟩, K0.out.alloc _⟩
    · have TT := Lib.hid (show L = [[111, 107]] by rw [← HL.out]; exact TL.out hk0 hk1 hk4' hk5)
      have q0 : ((k : Int) == 0) = false := by simp only [beq_eq_false_iff_ne]; omega
      have q1 : ((k : Int) == 1) = false := by simp only [beq_eq_false_iff_ne]; omega
      have q4 : ((k : Int) == 4) = false := by simp only [beq_eq_false_iff_ne]; omega
      have q5 : ((k : Int) == 5) = false := by simp only [beq_eq_false_iff_ne]; omega
      clear TL hk0 hk1 hk4' hk5
      go_wp2_with fail
      go_ret
      exact ⟨_, rfl, by rw [TT.out]; exact ⟨_, _, rfl, els_lit _ [_], Nat.le_refl _⟩, K0.out.alloc _⟩
  · have TT := Lib.hid (TE.out he)
    have c1 : ((⟨#[101, 114, 114, 111, 114, 32]⟩ : ByteArray) ++ (⟨we.toArray⟩ : ByteArray)) = ⟨(errorW ++ we).toArray⟩ := two_cat errorW we
    have hd : 6 + we.length ≤ 9223372036854775807 := by omega
    have q1 : (e == 0) = false := by simpa using he
    have q2 : (e != 0) = true := by simpa using he
    clear he hk4 TE TL
    go_wp2_with fail
    refine (NE.out _).mono ?_
    rintro e w3 ⟨rfl, rfl⟩
    go_wp2_with fail
    go_ret
    exact ⟨_, rfl, by rw [TT.out]; exact ⟨_, _, rfl, els_lit _ [_], Nat.le_refl _⟩, K0.out.alloc _⟩
end Go.Proofs.YtnjmdldhgconmaaGreatDoor

namespace Go.Proofs.YtnjmdldhgconmaaGreatDoor
open Go.RowKit Go.Sort
attribute [local go_sem ↓] exec_app semAt_app
attribute [local go_sem] isApp_lit appA appX

set_option maxRecDepth 100000 in
theorem co_do_nil (s : Array Value) (w : World) :
    Calls Tryz.prog 41 #[.pointer none, .agg s] w fun e w' => e = .returned (.tuple #[.agg #[.int .i64 0, .int .i64 0, .string ⟨#[]⟩, .bool false, .slice none 0 0], .int .i64 1]) ∧ Same w w' := by
  go_enter Tryz.func41, Tryz.ntmps41
  go_wp2_with fail
  refine bodyPost_ret (results_two_tmp rfl _ _ (w.heap.size + 1) 48 #[.int .i64 0, .int .i64 0, .string ⟨#[]⟩, .bool false, .slice none 0 0] _ rfl (Blk.new' _ _ _ (by simp)) Tryz.underlying48 rfl (by kernel_rfl)) rfl ?_
  exact ⟨rfl, ((Kept.refl _ w).alloc _).alloc _⟩
/-- An error's line. -/
def errL (n : Int) : Tx := errorW ++ numT n
theorem err_cat (n : Int) : ((⟨#[101, 114, 114, 111, 114, 32]⟩ : ByteArray) ++ (⟨(numT n).toArray⟩ : ByteArray)) = ⟨(errL n).toArray⟩ := str_app errorW (numT n)
/-- What a line answers where there is no world. -/
def sesN (l : Tx) : List Tx := if l = [] ∨ l.head? = some 35 then [] else if (parseT l).isSome = true then [errL 1] else [errL 60]
def SesR (l : Tx) (w : World) (v t : Value) (wr : World) : Prop := (t = .int .i64 0 ∧ v = .slice none 0 0 ∧ Same w wr) ∨ (t = .int .i64 1 ∧ OwnE txE wr w.heap.size 9 v (sesN l) ∧ Same w wr)
theorem head_at (c : UInt8) (r : Tx) : ∀ h : 0 < (⟨(c :: r).toArray⟩ : ByteArray).size, (((⟨(c :: r).toArray⟩ : ByteArray)[0]'h).toNat : Int) = (c.toNat : Nat) := fun _ => rfl
set_option maxRecDepth 100000 in
set_option maxHeartbeats 6400000 in
theorem co_session_nil (l : Tx) (hl : l.length ≤ 1000) (g : Nat) (w : World) (hg : w.cell? ⟨g, 0, none⟩ = some (encStr l)) (hM : MaxOK w) :
    Calls Tryz.prog 23 #[.pointer none, .slice (some ⟨g, 0, none⟩) 1 1] w fun e w' => ∃ v, e = .returned v ∧ OwnE txE w' w.heap.size 9 v (sesN l) ∧ Same w w' := by
  have HG := Lib.hid (fun w' (k : Same w w') => show w'.cell? ⟨g, 0, none⟩ = some (encStr l) by rw [k.cell (p := ⟨g, 0, none⟩) (World.block_lt_of_cell? w _ hg) (fun h => h)]; exact hg)
  have PC := Lib.hid (fun w' (k : Same w w') => co_parse l (by omega) w' (hM.same k))
  have HB : Hid (w.heap.size = w.heap.size) := rfl
  clear hg hM
  go_enter Tryz.func23, Tryz.ntmps23
  go_wp2_with fail
  go_loopw [5, 14] (fun v t wr => SesR l w v t wr) (fun _ t _ => 1 - (intOf t).toNat)
  case atStart => exact .inl ⟨rfl, rfl, Kept.refl _ _⟩
  case round =>
    rcases hrel with ⟨rfl, rfl, hk⟩ | ⟨rfl, ho, hk⟩
    · have HK := Lib.hid hk
      have p0 := HG.out _ hk
      clear hk
      have hbs := HK.out.size
      rcases l with _ | ⟨c, r⟩
      · have SN : Hid (sesN [] = []) := rfl
        go_wp2_with fail
        go_roundw
        case rel => exact .inr ⟨rfl, by rw [SN.out]; exact OwnE.nil _ _ _, HK.out⟩
        case measure => simp [intOf]
      · have hc := head_at c r
        obtain ⟨y, hy⟩ : ∃ y, c.toNat = y := ⟨_, rfl⟩
        rw [hy] at hc
        have C35 : Hid (c = 35 ↔ y = 35) := by
          show _ ↔ _
          rw [← hy]
          constructor
          · rintro rfl; rfl
          · intro h; exact UInt8.toNat_inj.1 h
        clear hy
        by_cases h35 : y = 35
        · subst h35
          have SN := Lib.hid (show sesN (c :: r) = [] by unfold sesN; rw [if_pos (.inr (by rw [C35.out.2 rfl]; rfl))])
          go_wp2_with fail
          go_roundw
          case rel => exact .inr ⟨rfl, by rw [SN.out]; exact OwnE.nil _ _ _, HK.out⟩
          case measure => simp [intOf]
        · have n35 : ((y : Int) == 35) = false := by simp only [beq_eq_false_iff_ne]; omega
          have SN := Lib.hid (show sesN (c :: r) = if (parseT (c :: r)).isSome = true then [errL 1] else [errL 60] by
            unfold sesN
            rw [if_neg]
            rintro (h | h)
            · cases h
            · exact h35 (C35.out.1 (by simpa using h)))
          have PP := Lib.hid (PC.out _ HK.out)
          have NU := Lib.hid (fun w => co_num 60 (by omega) (by omega) w)
          have hec := err_cat 60
          have hel := num_len 60 (by omega) (by omega)
          obtain ⟨nw, hnw⟩ : ∃ t, numT 60 = t := ⟨_, rfl⟩
          rw [hnw] at NU hec hel
          have hd : 6 + nw.length ≤ 9223372036854775807 := by omega
          clear hnw PC
          go_wp2_with fail
          refine PP.out.mono ?_
          rintro e w2 ⟨v, rfl, ⟨sv, rfl, hsv⟩, k2⟩
          obtain ⟨xa, xc, rfl, hxn⟩ := hsv.toNats
          have K2 := Lib.hid (HK.out.trans k2)
          clear hsv hxn PP
          obtain ⟨ok, hok⟩ : ∃ b, (parseT (c :: r)).isSome = b := ⟨_, rfl⟩
          rw [hok] at SN
          rw [hok]
          clear hok
          obtain ⟨q, hq⟩ : ∃ q, (parseT (c :: r)).getD (stp0 0) = q := ⟨_, rfl⟩
          rw [hq]
          clear hq
          go_upto_region 7 with fail
          obtain ⟨z, hz⟩ : ∃ z, w2.heap.size = z := ⟨_, rfl⟩
          refine cutC (fun wn => Blk wn z #[.int .u8 (q.k : Nat), .int .i64 q.txn, encStr q.key, encStr q.val, .int .i64 q.n, .bool q.d, .slice xa q.f.length xc] 27 ∧ Same w wn) ⟨Blk.new' _ _ _ hz.symm, K2.out.alloc _⟩ ?_
          rintro w3 ⟨bz, k3⟩
          rw [hz]
          have BZ := Lib.hid bz; have K3 := Lib.hid k3
          have hb3 := k3.size
          clear bz k3 hz K2 HK
          cases ok with
          | false =>
            have o0 : OwnE txE w3 w.heap.size 9 (.slice none 0 0) [] := OwnE.nil _ _ _
            obtain ⟨v5, w5, hrun, o5, k5⟩ := tx_push o0 hb3 (errL 60) (by simp)
            obtain ⟨aok, aV, aW⟩ := app_of hrun
            have K5 := Lib.hid (K3.out.step k5 (fun j hj q => by simp [Value.ownBlock] at q))
            have O5 := Lib.hid o5
            clear hrun o5 k5
            go_wp2_with fail
            refine (NU.out _).mono ?_
            rintro e w4 ⟨rfl, rfl⟩
            go_wp2_with fail
            go_roundw
            case rel => exact .inr ⟨rfl, by rw [SN.out]; exact O5.out, K5.out⟩
            case measure => simp [intOf]
          | true =>
            have p0 := cell_blk BZ.out 0
            have p1 := cell_blk BZ.out 1
            have p2 := cell_blk BZ.out 2
            have p3 := cell_blk BZ.out 3
            have p4 := cell_blk BZ.out 4
            have p5 := cell_blk BZ.out 5
            have p6 := cell_blk BZ.out 6
            have DN := Lib.hid (co_do_nil #[.int .u8 (q.k : Nat), .int .i64 q.txn, encStr q.key, encStr q.val, .int .i64 q.n, .bool q.d, .slice xa q.f.length xc] w3)
            go_wp2_with fail
            refine DN.out.mono ?_
            rintro e w4 ⟨rfl, k4⟩
            have K4 := Lib.hid (K3.out.trans k4)
            have B4 := Lib.hid (BZ.out.kept k4 (fun h => h))
            clear k4 K3 BZ DN
            go_upto_region 10 with fail
            obtain ⟨u, hu⟩ : ∃ u, w4.heap.size = u := ⟨_, rfl⟩
            refine cutC (fun wn => Blk wn u #[.int .i64 0, .int .i64 0, .string ⟨#[]⟩, .bool false, .slice none 0 0] 48 ∧ Blk wn z #[.int .u8 (q.k : Nat), .int .i64 q.txn, encStr q.key, encStr q.val, .int .i64 q.n, .bool q.d, .slice xa q.f.length xc] 27 ∧ Same w wn) ⟨Blk.new' _ _ _ hu.symm, B4.out.alloc _, K4.out.alloc _⟩ ?_
            rintro w5 ⟨bu, bz5, k5⟩
            rw [hu]
            have BU := Lib.hid bu; have BZ := Lib.hid bz5; have K5 := Lib.hid k5
            clear bu bz5 k5 hu K4 B4
            have p0 := cell_blk BZ.out 0
            have p1 := cell_blk BZ.out 1
            have p2 := cell_blk BZ.out 2
            have p3 := cell_blk BZ.out 3
            have p4 := cell_blk BZ.out 4
            have p5 := cell_blk BZ.out 5
            have p6 := cell_blk BZ.out 6
            have r0 := cell_blk BU.out 0
            have r1 := cell_blk BU.out 1
            have r2 := cell_blk BU.out 2
            have r3 := cell_blk BU.out 3
            have r4 := cell_blk BU.out 4
            have TE := Lib.hid (show Calls Tryz.prog 21 #[.agg #[.int .u8 (q.k : Nat), .int .i64 q.txn, encStr q.key, encStr q.val, .int .i64 q.n, .bool q.d, .slice xa q.f.length xc], .agg #[.int .i64 0, .int .i64 0, .string ⟨#[]⟩, .bool false, .slice none 0 0], .int .i64 1] w5 fun e w' => ∃ v, e = .returned v ∧ WordsV w' [errL 1] v ∧ Same w5 w' from co_told q xa xc 0 0 [] false none 0 0 [] 1 w5 (by omega) (by omega) (by omega) (by omega) (by simp) (by omega) (by omega) (.inl (by omega)))
            go_wp2_with fail
            refine TE.out.mono ?_
            rintro e w6 ⟨v, rfl, ⟨ta, tc, rfl, hta, htc⟩, k6⟩
            have K6 := Lib.hid (K5.out.trans k6)
            have hb6 := K6.out.size
            clear k6 K5 BU BZ TE
            obtain ⟨tb, to, rfl, -⟩ := hta.there (by simp)
            have o0 : OwnE txE w6 w.heap.size 9 (.slice none 0 0) [] := OwnE.nil _ _ _
            obtain ⟨v7, w7, hrun, o7, hgr, -⟩ := run_appendE (P := Tryz.prog) w6 46 46 w.heap.size 9 (.string ByteArray.empty) 16 txE Tryz.underlying46 txInfo rfl (.slice none 0 0) [] o0 (some ⟨tb, to, none⟩) 1 tc [errL 1] rfl hta (fun e => by cases e) (by simp [maxLen]) (by simp) hb6
            obtain ⟨aok, aV, aW⟩ := app_of hrun
            have K7 := Lib.hid (K6.out.grown hgr (fun k hk _ => by simp [Value.ownBlock] at hk))
            have O7 := Lib.hid o7
            clear hrun o7 hgr hta
            go_wp2_with fail
            go_roundw
            case rel => exact .inr ⟨rfl, by rw [SN.out]; exact O7.out, K7.out⟩
            case measure => simp [intOf]
    · have HO := Lib.hid ho; have HK := Lib.hid hk
      clear ho hk
      go_wp2_with fail
      go_ret
      exact ⟨_, rfl, HO.out, HK.out⟩
end Go.Proofs.YtnjmdldhgconmaaGreatDoor
