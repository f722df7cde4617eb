/- SectorSafe: what was synced stays; what was written since is what it was, or new, or torn. -/
import Derived.Test.YtlmpkonfclnceaaSecRd
namespace Go.Proofs.Ytlmpkonfclnceaa
open Go.RowKit

theorem encB_get {l : List Nat} {n : Nat} (h : n < l.length) : (encB l).toArray[n]? = some (.int .u8 ((l.getD n 0 : Nat) : Int)) := by
  rw [List.getElem?_toArray, encB, List.getElem?_map, List.getD_eq_getElem?_getD, List.getElem?_eq_getElem h]; rfl
def encN (l : List Nat) : List Value := l.map fun x => Value.int .i64 (x : Nat)
theorem encN_get {l : List Nat} {n : Nat} (h : n < l.length) : (encN l).toArray[n]? = some (.int .i64 ((l.getD n 0 : Nat) : Int)) := by
  rw [List.getElem?_toArray, encN, List.getElem?_map, List.getD_eq_getElem?_getD, List.getElem?_eq_getElem h]; rfl
theorem encN_set (l : List Nat) (n x : Nat) : (encN l).toArray.setIfInBounds n (.int .i64 (x : Nat)) = (encN (l.set n x)).toArray := by
  unfold encN; simp [List.map_set]
theorem encB_set (l : List Nat) (n x : Nat) : (encB l).toArray.setIfInBounds n (.int .u8 (x : Nat)) = (encB (l.set n x)).toArray := by
  unfold encB; simp [List.map_set]
theorem tmod8_nat (q : Nat) : (q : Int).tmod 8 = ((q % 8 : Nat) : Int) := by rw [Int.tmod_eq_emod_of_nonneg (by omega)]; omega

theorem cell_apart {x y : Nat} (h : ¬ x = y) (W : World) (i : Nat) (v : Value) (j : Nat) : (W.setCell ⟨x, i, none⟩ v).cell? ⟨y, j, none⟩ = W.cell? ⟨y, j, none⟩ :=
  World.cell?_setCell_other _ _ _ _ (by intro e; simp only [Addr.mk.injEq] at e; exact h (by first | exact e.1 | exact e.1.symm))
theorem Kept.undrew {fp : Nat → Prop} {a b : World} (k : Kept fp a.drew b) : Kept fp a b := ⟨k.os, k.tape, k.output, k.size, k.block⟩
set_option maxRecDepth 100000 in
set_option maxHeartbeats 6000000 in
theorem safe_any (W : World) (a : Option Addr) (len cap0 : Nat) (hacts : len = 0 ∨ ∃ b off, a = some ⟨b, off, none⟩ ∧ b < W.heap.size ∧ ActsAt W b off len) (ms : List Nat) (hml : ms.length = 9) (hmb : Bts ms)
    (fa : Option Addr) (fl fc : Nat) (fs : List Nat) (hfl : fl = fs.length) (hfc : fl ≤ fc) (hfb : Bts fs) (hfa : NatsAt W .u8 fa fs) :
    Calls Try.prog 3 #[.slice a len cap0, .agg (encB ms).toArray, .slice fa fl fc] W fun e w' => e = .returned (.bool true) ∧ Same W w' := by
  obtain ⟨fl2, hfl2⟩ : ∃ l, fs.length = l := ⟨_, rfl⟩
  have hfl3 : fl = fl2 := hfl.trans hfl2
  subst hfl3
  have HFL := Lib.hid hfl
  clear hfl hfl2
  obtain ⟨MB, hMB⟩ : ∃ MB, (encB ms).toArray = MB := ⟨_, rfl⟩
  rw [hMB]
  have HMB := Lib.hid hMB
  have k0 : Same W (W.alloc (.cells MB 23)) := (Kept.refl _ W).alloc _
  have b0 := Blk.new W MB 23
  have z0 : (W.alloc (.cells MB 23)).heap.size = W.heap.size + 1 := by simp
  have K0 := Lib.hid k0; have B0 := Lib.hid b0; have Z0 := Lib.hid z0
  clear k0 b0 z0 hMB
  by_cases hbig : 40 < len
  · have h1 : (40 : Int) < (len : Int) := by omega
    go_enter Try.func3, Try.ntmps3
    go_wp2_with fail
    refine (sec_awake _).mono ?_
    rintro e w2 ⟨rfl, k2⟩
    go_wp2_with fail
    go_ret
    exact ⟨rfl, K0.out.trans k2⟩
  have h1 : ¬ (40 : Int) < (len : Int) := by omega
  go_enter Try.func3, Try.ntmps3
  go_wp2_with fail
  generalize W.alloc (.cells MB 23) = w1 at *
  refine (sd_new 9 w1).mono ?_
  rintro e w2 ⟨d, bs, cap, m, rfl, h2, hd, hbs, hm, k2⟩
  have H2 := Lib.hid h2; have K2 := Lib.hid (K0.out.trans k2); have B2 := Lib.hid (B0.out.kept k2 (fun h => h))
  have dd : W.heap.size < d := by have := Z0.out; omega
  have db : W.heap.size < bs := by have := Z0.out; omega
  have dm : W.heap.size < m := by have := Z0.out; omega
  clear h2 k2 K0 B0 hd hbs hm
  go_wp2_with fail
  go_loopw [8] (fun nv wr => ∃ (n : Nat) (D : Dsk), nv = .int .i64 (n : Nat) ∧ n ≤ 9 ∧ PutI (fun j => ms.getD j 0) n D ∧ DiskIn wr d bs cap m D ∧ Blk wr W.heap.size MB 23 ∧ Kept (fun _ => False) W wr) (fun nv _ => 9 - (intOf nv).toNat)
  case atStart => exact ⟨0, newD 9, rfl, by omega, PutI.start _, H2.out, B2.out, K2.out⟩
  case round =>
    clear H2 K2 B2
    obtain ⟨n, D, rfl, hn, hpi, hdi, hbk, hk⟩ := hrel
    have PI := Lib.hid hpi; have DI := Lib.hid hdi; have BK := Lib.hid hbk; have HK := Lib.hid hk
    by_cases hgo : n < 9
    · have g1 : (n : Int) < 9 := by omega
      have g0 : (0 : Int) ≤ (n : Int) := by omega
      have hc : wr.cell? ⟨W.heap.size, n, none⟩ = some (.int .u8 ((ms.getD n 0 : Nat) : Int)) := by rw [cell_blk hbk, ← HMB.out]; exact encB_get (by omega)
      have hmn : ms.getD n 0 < 256 := by
        rw [List.getD_eq_getElem?_getD, List.getElem?_eq_getElem (by omega)]
        exact hmb _ (List.getElem_mem _)
      obtain ⟨st1, st2⟩ := hpi.step hgo
      obtain ⟨y, hy⟩ : ∃ y, ms.getD n 0 = y := ⟨_, rfl⟩
      rw [hy] at hc hmn st1 st2
      obtain ⟨L, hL⟩ : ∃ L, fullL y = L := ⟨_, rfl⟩
      rw [hL] at st1 st2
      have FU := full_any y wr
      rw [hL] at FU
      have FU := Lib.hid FU
      have LL := Lib.hid (show L.length = 256 from by rw [← hL]; exact fullL_len _)
      have LB := Lib.hid (show Bts L from by rw [← hL]; exact fullL_bts hmn)
      clear hy hL hmn
      have ST1 := Lib.hid st1; have ST2 := Lib.hid st2
      clear hpi hdi hbk hk st1 st2
      go_wp2_with fail
      refine FU.out.mono ?_
      rintro e w3 ⟨g, rfl, ho, k3⟩
      go_wp2_with fail
      refine (sd_write (DI.out.same k3) (n : Nat) (some ⟨g, 0, none⟩) 256 256 L LL.out.symm LB.out ho.nats).mono ?_
      rintro e w4 ⟨rfl, h4, k4⟩
      rw [ST2.out]
      have H4 := Lib.hid h4; have B4 := Lib.hid ((BK.out.kept k3 (fun h => h)).kept k4 (by intro q; rcases q with q | q | q <;> omega)); have K4 := Lib.hid ((HK.out.trans k3).own k4 (by omega) (by omega) (by omega))
      clear h4 k4 ho k3
      go_wp2_with fail
      go_roundw
      case rel => exact ⟨n + 1, _, by go_num, by omega, ST1.out, H4.out, B4.out, K4.out⟩
      case measure => simp [intOf]; omega
    · have e9 : n = 9 := by omega
      subst e9
      obtain ⟨st1, st2⟩ := WaitI.start hpi
      have ST1 := Lib.hid st1; have ST2 := Lib.hid st2
      clear hpi hdi hbk hk st1 st2
      go_wp2_with fail
      refine (sd_sync DI.out).mono ?_
      rintro e w5 ⟨rfl, h5, k5⟩
      rw [ST2.out]
      have H5 := Lib.hid h5; have B5 := Lib.hid (BK.out.kept k5 (by intro q; rcases q with q | q | q <;> omega)); have K5 := Lib.hid (HK.out.own k5 (by omega) (by omega) (by omega))
      clear h5 k5 DI BK HK PI
      go_wp2_with fail
      have k6 : Same w5 ((w5.alloc (.cells (encN (List.replicate 9 0)).toArray 32)).alloc (.cells (encB (List.replicate 9 0)).toArray 23)) := ((Kept.refl _ w5).alloc _).alloc _
      have b6 : Blk ((w5.alloc (.cells (encN (List.replicate 9 0)).toArray 32)).alloc (.cells (encB (List.replicate 9 0)).toArray 23)) w5.heap.size (encN (List.replicate 9 0)).toArray 32 := (Blk.new w5 _ _).alloc _
      have c6 : Blk ((w5.alloc (.cells (encN (List.replicate 9 0)).toArray 32)).alloc (.cells (encB (List.replicate 9 0)).toArray 23)) (w5.heap.size + 1) (encB (List.replicate 9 0)).toArray 23 := Blk.new' _ _ _ (by simp)
      have z5 := And.intro H5.out.box.lt (And.intro H5.out.safe.lt H5.out.map.lt)
      have z6 : W.heap.size < w5.heap.size := by have := z5.1; omega
      have H6 := Lib.hid (H5.out.same k6); have B6 := Lib.hid (B5.out.kept k6 (fun h => h)); have K6 := Lib.hid (K5.out.trans k6)
      have W6 := Lib.hid b6; have L6 := Lib.hid c6
      obtain ⟨BW, hBW⟩ : ∃ BW, w5.heap.size = BW := ⟨_, rfl⟩
      rw [hBW] at W6 L6 z5 z6
      have HBW := Lib.hid hBW
      clear k6 b6 c6 H5 B5 K5
      simp only [hBW]
      clear hBW
      generalize hgw : (w5.alloc (.cells (encN (List.replicate 9 0)).toArray 32)).alloc (.cells (encB (List.replicate 9 0)).toArray 23) = w6 at *
      have HGW := Lib.hid hgw
      clear hgw
      rw [show (w5.alloc (.cells #[Value.int .i64 0, .int .i64 0, .int .i64 0, .int .i64 0, .int .i64 0, .int .i64 0, .int .i64 0, .int .i64 0, .int .i64 0] 32)).alloc (.cells #[Value.int .u8 0, .int .u8 0, .int .u8 0, .int .u8 0, .int .u8 0, .int .u8 0, .int .u8 0, .int .u8 0, .int .u8 0] 23) = w6 from HGW.out]
      clear HGW HBW ST2
      go_loopw [11] (fun iv wr => ∃ (i : Nat) (ws ls : List Nat) (D : Dsk), iv = .int .i64 (i : Nat) ∧ i ≤ len ∧ WaitI (fun j => ms.getD j 0) ws ls D ∧ (∀ x ∈ ws, x ≤ i) ∧ DiskIn wr d bs cap m D ∧ Blk wr BW (encN ws).toArray 32 ∧ Blk wr (BW + 1) (encB ls).toArray 23 ∧ Blk wr W.heap.size MB 23 ∧ Kept (fun _ => False) W wr) (fun iv _ => len - (intOf iv).toNat)
      case atStart => exact ⟨0, _, _, _, rfl, by omega, ST1.out, fun x hx => by rw [List.eq_of_mem_replicate hx]; exact Nat.le_refl _, H6.out, W6.out, L6.out, B6.out, K6.out⟩
      case round =>
        clear ST1 H6 W6 L6 B6 K6
        obtain ⟨i, ws, ls, D, rfl, hi, hwi, hwb, hdi, hbw, hbl, hbm, hk⟩ := hrel
        have WI := Lib.hid hwi; have WB := Lib.hid hwb; have DI := Lib.hid hdi; have BWI := Lib.hid hbw; have BLI := Lib.hid hbl; have BM := Lib.hid hbm; have HK := Lib.hid hk
        clear hwi hwb hdi hbw hbl hbm hk
        by_cases hgo : i < len
        · obtain ⟨ab, ao, rfl, hab, hact⟩ := hacts.resolve_left (by omega)
          obtain ⟨k, n, c, u, dn, fa1, fl1, fc1, fs1, ac0⟩ := hact i hgo
          have ac := ac0.same HK.out hab
          have c0 := ac.c0; have c1 := ac.c1; have c2 := ac.c2; have c3 := ac.c3; have c4 := ac.c4; have c5 := ac.c5
          have hkb := ac.kb; have hcb := ac.cb
          have g1 : (i : Int) < (len : Int) := by omega
          have g0 : (0 : Int) ≤ (i : Int) := by omega
          have ht := tmod8_nat k
          obtain ⟨r, hr⟩ : ∃ r, k % 8 = r := ⟨_, rfl⟩
          rw [hr] at ht
          clear ac ac0 hact
          by_cases hr4 : 4 < r
          · have hr4' : (4 : Int) < (r : Int) := by omega
            go_wp2_with fail
            go_roundw
            case rel =>
              have kA : Same wr (wr.alloc (.cells #[.int .u8 (k : Nat), .int .i64 n, .int .u8 (c : Nat), .int .u8 (u : Nat), .bool dn, .slice fa1 fl1 fc1] 34)) := (Kept.refl _ wr).alloc _
              exact ⟨i + 1, ws, ls, D, by go_num, by omega, WI.out, fun x hx => Nat.le_succ_of_le (WB.out x hx), DI.out.same kA, BWI.out.kept kA (fun h => h), BLI.out.kept kA (fun h => h), BM.out.kept kA (fun h => h), HK.out.trans kA⟩
            case measure => simp [intOf]; omega
          · have hr4' : ¬ (4 : Int) < (r : Int) := by omega
            by_cases hn0 : n < 0
            · go_wp2_with fail
              go_roundw
              case rel =>
                have kA : Same wr (wr.alloc (.cells #[.int .u8 (k : Nat), .int .i64 n, .int .u8 (c : Nat), .int .u8 (u : Nat), .bool dn, .slice fa1 fl1 fc1] 34)) := (Kept.refl _ wr).alloc _
                exact ⟨i + 1, ws, ls, D, by go_num, by omega, WI.out, fun x hx => Nat.le_succ_of_le (WB.out x hx), DI.out.same kA, BWI.out.kept kA (fun h => h), BLI.out.kept kA (fun h => h), BM.out.kept kA (fun h => h), HK.out.trans kA⟩
              case measure => simp [intOf]; omega
            · by_cases hn8 : 8 < n
              · go_wp2_with fail
                go_roundw
                case rel =>
                  have kA : Same wr (wr.alloc (.cells #[.int .u8 (k : Nat), .int .i64 n, .int .u8 (c : Nat), .int .u8 (u : Nat), .bool dn, .slice fa1 fl1 fc1] 34)) := (Kept.refl _ wr).alloc _
                  exact ⟨i + 1, ws, ls, D, by go_num, by omega, WI.out, fun x hx => Nat.le_succ_of_le (WB.out x hx), DI.out.same kA, BWI.out.kept kA (fun h => h), BLI.out.kept kA (fun h => h), BM.out.kept kA (fun h => h), HK.out.trans kA⟩
                case measure => simp [intOf]; omega
              · obtain ⟨N, hN⟩ : ∃ N : Nat, n = (N : Int) := ⟨n.toNat, by omega⟩
                subst hN
                have hN9 : N < 9 := by omega
                obtain ⟨st1, st2⟩ := WI.out.step hN9 hcb
                obtain ⟨L, hL⟩ : ∃ L, fullL c = L := ⟨_, rfl⟩
                rw [hL] at st1 st2
                have FU := fun w' => full_any c w'
                rw [hL] at FU
                have FU := Lib.hid FU
                have LL := Lib.hid (show L.length = 256 from by rw [← hL]; exact fullL_len _)
                have LB := Lib.hid (show Bts L from by rw [← hL]; exact fullL_bts hcb)
                have T1 := Lib.hid st1; have T2 := Lib.hid st2
                have hwN : N < ws.length := by rw [WI.out.wlen]; exact hN9
                have hlN : N < ls.length := by rw [WI.out.llen]; exact hN9
                obtain ⟨y, hy⟩ : ∃ y, ws.getD N 0 = y := ⟨_, rfl⟩
                have hyi2 : y ≤ i := WB.out y (by rw [← hy, List.getD_eq_getElem?_getD, List.getElem?_eq_getElem hwN]; exact List.getElem_mem _)
                have hyi : y ≤ 40 := by omega
                have HY := Lib.hid hy
                clear hL st1 st2 hy hcb
                have kA : Same wr (wr.alloc (.cells #[.int .u8 (k : Nat), .int .i64 (N : Nat), .int .u8 (c : Nat), .int .u8 (u : Nat), .bool dn, .slice fa1 fl1 fc1] 34)) := (Kept.refl _ wr).alloc _
                have bX := Blk.new wr #[.int .u8 (k : Nat), .int .i64 (N : Nat), .int .u8 (c : Nat), .int .u8 (u : Nat), .bool dn, .slice fa1 fl1 fc1] 34
                have zW := BWI.out.lt; have zL := BLI.out.lt
                have q1 := DI.out.box.lt; have q2 := DI.out.safe.lt; have q3 := DI.out.map.lt
                have hnX1 : ¬ d = wr.heap.size := by omega
                have hnX2 : ¬ bs = wr.heap.size := by omega
                have hnX3 : ¬ m = wr.heap.size := by omega
                have hnX4 : ¬ BW = wr.heap.size := by omega
                have D7 := Lib.hid (DI.out.same kA); have BW7 := Lib.hid (BWI.out.kept kA (fun h => h)); have BL7 := Lib.hid (BLI.out.kept kA (fun h => h)); have BM7 := Lib.hid (BM.out.kept kA (fun h => h)); have K7 := Lib.hid (HK.out.trans kA); have BX := Lib.hid bX
                clear kA bX zW zL DI BWI BLI BM HK q1 q2 q3
                go_wp2_with fail
                generalize wr.alloc (.cells #[.int .u8 (k : Nat), .int .i64 (N : Nat), .int .u8 (c : Nat), .int .u8 (u : Nat), .bool dn, .slice fa1 fl1 fc1] 34) = w7 at *
                generalize wr.heap.size = X at *
                have s7 := cell_blk BX.out
                go_region_held3 (fun w' => ∀ i, w'.cell? ⟨X, i, none⟩ = (#[Value.int .u8 (k : Nat), .int .i64 (N : Nat), .int .u8 (c : Nat), .int .u8 (u : Nat), .bool dn, .slice fa1 fl1 fc1] : Array Value)[i]?)
                  (first | exact s7 | exact s8 | exact s9)
                  (first
                    | (go_at_call 15; refine (FU.out _).mono ?_; rintro e w8 ⟨g, rfl, ho, k8⟩; have K8 := Lib.hid (show Same w7 w8 from ⟨k8.os, k8.tape, k8.output, k8.size, k8.block⟩); have s8 := cell_blk (BX.out.kept K8.out (fun h => h)); have HO := Lib.hid ho.nats; clear ho k8)
                    | (go_at_call 14; refine (sd_write ((D7.out.same K8.out).same (by first | exact Kept.refl _ _ | exact (Kept.refl _ _).drew)) (N : Nat) (some ⟨g, 0, none⟩) 256 256 L LL.out.symm LB.out (HO.out.same (by first | exact Kept.refl _ _ | exact (Kept.refl _ _).drew))).mono ?_; rintro e w9 ⟨rfl, h9, k9⟩; rw [T2.out]; have K9 := Lib.hid (show Kept (dod d bs m) w8 w9 from ⟨k9.os, k9.tape, k9.output, k9.size, k9.block⟩); have s9 := cell_blk ((BX.out.kept K8.out (fun h => h)).kept K9.out (by intro q; rcases q with q | q | q <;> omega)); have D9 := Lib.hid h9; clear h9 k9))
                all_goals
                  have bw9 := (BW7.out.kept K8.out (fun h => h)).kept K9.out (by intro q; rcases q with q | q | q <;> omega)
                  have bl9 := (BL7.out.kept K8.out (fun h => h)).kept K9.out (by intro q; rcases q with q | q | q <;> omega)
                  have bm9 := (BM7.out.kept K8.out (fun h => h)).kept K9.out (by intro q; rcases q with q | q | q <;> omega)
                  have k9 := (K7.out.trans K8.out).own K9.out (by omega) (by omega) (by omega)
                  have cW : w9.cell? ⟨BW, N, none⟩ = some (.int .i64 (y : Nat)) := by rw [cell_blk bw9, encN_get hwN, HY.out]
                  have fW : w9.frozen? ⟨BW, N, none⟩ = false := bw9.free N
                  have cL : w9.cell? ⟨BW + 1, N, none⟩ = some (.int .u8 ((ls.getD N 0 : Nat) : Int)) := by rw [cell_blk bl9]; exact encB_get hlN
                  have fL : w9.frozen? ⟨BW + 1, N, none⟩ = false := bl9.free N
                  have a1 := cell_apart hnX4
                  have a2 := cell_apart (show ¬ BW = BW + 1 from by omega)
                  have N0 : (0 : Int) ≤ (N : Int) := by omega
                  have N1 : (N : Int) < 9 := by omega
                  have BW9 := Lib.hid bw9; have BL9 := Lib.hid bl9; have BM9 := Lib.hid bm9; have K9' := Lib.hid k9
                  clear bw9 bl9 bm9 k9 s7 s8 D7 BW7 BL7 BM7 BX K7 K8 K9 HO FU
                  go_wp2_with fail
                  go_roundw
                  case rel =>
                    have kS := ((Kept.refl (fun j => j = BW ∨ j = BW + 1) w9).setCell (p := ⟨BW, N, none⟩) (fun _ => .inl rfl) (.int .i64 ((y + 1 : Nat) : Nat))).setCell (p := ⟨BW + 1, N, none⟩) (fun _ => .inr rfl) (.int .u8 (c : Nat))
                    have bW := BW9.out.set N (.int .i64 ((y + 1 : Nat) : Nat))
                    rw [encN_set] at bW
                    have bL := (BL9.out.other (p := ⟨BW, N, none⟩) (by show BW + 1 ≠ BW; omega) (.int .i64 ((y + 1 : Nat) : Nat))).set N (.int .u8 (c : Nat))
                    rw [encB_set] at bL
                    refine ⟨i + 1, ws.set N (y + 1), ls.set N c, (writeD D (N : Nat) L).1, by go_num, by omega, by rw [← HY.out]; exact T1.out, fun x hx => ?_, D9.out.kept kS (by omega) (by omega) (by omega), bW.other (p := ⟨BW + 1, N, none⟩) (by show BW ≠ BW + 1; omega) _, bL, BM9.out.kept kS (by omega), (K9'.out.setNew (by show W.heap.size ≤ BW; omega) _).setNew (by show W.heap.size ≤ BW + 1; omega) _⟩
                    rcases List.mem_or_eq_of_mem_set hx with q | q
                    · exact Nat.le_succ_of_le (WB.out x q)
                    · omega
                  case measure => simp [intOf]; omega
        · have e : i = len := by omega
          subst e
          have EI := Lib.hid (WI.out.fin hfb)
          have hlw := WI.out.wlen; have hll := WI.out.llen; have hlb := WI.out.lb
          go_wp2_with fail
          refine (sd_power DI.out fa fl fc fs HFL.out hfc hfb (hfa.same HK.out)).mono ?_
          rintro e w7 ⟨rfl, h7, k7⟩
          have DI7 := Lib.hid h7
          have BW7 := Lib.hid (BWI.out.kept k7 (by intro q; rcases q with q | q | q <;> omega)); have BL7 := Lib.hid (BLI.out.kept k7 (by intro q; rcases q with q | q | q <;> omega)); have BM7 := Lib.hid (BM.out.kept k7 (by intro q; rcases q with q | q | q <;> omega)); have K7 := Lib.hid (HK.out.own k7 (by omega) (by omega) (by omega))
          clear h7 k7 WI WB DI BWI BLI BM HK
          generalize hDD : powerD D fs = DD at *
          clear hDD
          go_wp2_with fail
          go_loopw [13] (fun nv wr => ∃ n : Nat, nv = .int .i64 (n : Nat) ∧ n ≤ 9 ∧ DiskIn wr d bs cap m DD ∧ Blk wr BW (encN ws).toArray 32 ∧ Blk wr (BW + 1) (encB ls).toArray 23 ∧ Blk wr W.heap.size MB 23 ∧ Kept (fun _ => False) W wr) (fun nv _ => 9 - (intOf nv).toNat)
          case atStart => exact ⟨0, rfl, by omega, DI7.out, BW7.out, BL7.out, BM7.out, K7.out⟩
          case round =>
            clear DI7 BW7 BL7 BM7 K7
            obtain ⟨n, rfl, hn, hdi, hbw, hbl, hbm, hk⟩ := hrel
            have DI := Lib.hid hdi; have BWI := Lib.hid hbw; have BLI := Lib.hid hbl; have BM := Lib.hid hbm; have HK := Lib.hid hk
            clear hdi hbw hbl hbm hk
            by_cases hgo : n < 9
            · have g1 : (n : Int) < 9 := by omega
              have g0 : (0 : Int) ≤ (n : Int) := by omega
              have hrd := read_live EI.out.on (n := n) (by rw [EI.out.len]; exact hgo)
              have RD := sd_read DI.out (n : Nat)
              rw [hrd] at RD
              have hsz := EI.out.sz n hgo
              obtain ⟨bb, hbb⟩ : ∃ bb, (DD.s.getD n sec0).has = bb := ⟨_, rfl⟩
              dsimp only at RD
              rw [hbb] at RD hsz
              have E1 := EI.out.none_ n hgo
              have E2 := EI.out.some_ n hgo
              rw [hbb] at E1 E2
              rw [hsz] at RD
              have RD := Lib.hid RD; have E1 := Lib.hid E1; have E2 := Lib.hid E2
              clear hrd hbb
              go_wp2_with fail
              refine RD.out.mono ?_
              rintro e w8 ⟨ra, rc, rfl, nn, en, k8⟩
              obtain ⟨rb, ro, _, rfl, -, -, -⟩ := nn.at (i := 0) (by rw [hsz]; decide)
              have NN := Lib.hid nn; have HSZ := Lib.hid hsz
              have DI8 := Lib.hid (DI.out.same k8); have BW8 := Lib.hid (BWI.out.kept k8 (fun h => h)); have BL8 := Lib.hid (BLI.out.kept k8 (fun h => h)); have BM8 := Lib.hid (BM.out.kept k8 (fun h => h)); have K8 := Lib.hid (HK.out.trans k8)
              have cW := cell_blk BW8.out n
              rw [encN_get (by rw [hlw]; exact hgo)] at cW
              have cL := cell_blk BL8.out n
              rw [encB_get (by rw [hll]; exact hgo)] at cL
              have cM := cell_blk BM8.out n
              rw [← HMB.out, encB_get (by rw [hml]; exact hgo)] at cM
              have lW := BW8.out.lt; have lL := BL8.out.lt; have lM := BM8.out.lt
              have E1 := E1.out; have E2 := E2.out
              obtain ⟨y, hy⟩ : ∃ y, ws.getD n 0 = y := ⟨_, rfl⟩
              obtain ⟨la, hla⟩ : ∃ x, ls.getD n 0 = x := ⟨_, rfl⟩
              obtain ⟨mk, hmk⟩ : ∃ x, ms.getD n 0 = x := ⟨_, rfl⟩
              rw [hy] at cW E1 E2; rw [hla] at cL E2; rw [hmk] at cM
              simp only [hmk] at E1 E2
              have E1 := Lib.hid E1; have E2 := Lib.hid E2
              have CW := Lib.hid cW; have CL := Lib.hid cL; have CM := Lib.hid cM; have LTW := Lib.hid lW; have LTL := Lib.hid lL; have LTM := Lib.hid lM
              clear nn en k8 hsz RD DI BWI BLI BM HK cW cL cM lW lL lM hy hla hmk
              go_wp2_with fail
              go_loopw [16] (fun kv wr => ∃ k : Nat, kv = .int .i64 (k : Nat) ∧ k ≤ 256 ∧ (∀ i, i < k → bb.getD i 0 = la) ∧ (y = 0 → k = 0) ∧ Same w8 wr) (fun kv _ => 256 - (intOf kv).toNat)
              case atStart => exact ⟨0, rfl, by omega, fun i hi => by omega, fun _ => rfl, Kept.refl _ _⟩
              case round =>
                obtain ⟨k, rfl, hk, hpre, hy0, ks⟩ := hrel
                have KS := Lib.hid ks; have PRE := Lib.hid hpre
                have cw : wr.cell? ⟨BW, n, none⟩ = some (.int .i64 (y : Nat)) := by rw [ks.cell (p := ⟨BW, n, none⟩) LTW.out (fun h => h)]; exact CW.out
                have cl : wr.cell? ⟨BW + 1, n, none⟩ = some (.int .u8 (la : Nat)) := by rw [ks.cell (p := ⟨BW + 1, n, none⟩) LTL.out (fun h => h)]; exact CL.out
                by_cases g4 : k < 256
                · have g4a : (k : Int) < 256 := by omega
                  have g4b : (0 : Int) ≤ (k : Int) := by omega
                  obtain ⟨xb, xo, z, ex, hx1, hx2, hx3⟩ := (NN.out.same ks).at (i := k) (by rw [HSZ.out]; exact g4)
                  cases ex
                  have hzk : bb.getD k 0 = z := by rw [List.getD_eq_getElem?_getD, hx2]; rfl
                  have HZK := Lib.hid hzk
                  clear ks hpre hx1 hx2 hzk
                  by_cases hyp : 0 < y
                  · have hyp2 : (0 : Int) < (y : Int) := by omega
                    clear hy0
                    by_cases hz : z = la
                    · subst hz
                      go_wp2_with fail
                      go_region_held3 (fun w' => w'.cell? ⟨BW, n, none⟩ = some (.int .i64 (y : Nat)) ∧ w'.cell? ⟨rb, ro + k, none⟩ = some (.int .u8 (z : Nat)) ∧ w'.cell? ⟨BW + 1, n, none⟩ = some (.int .u8 (z : Nat))) (first | exact ⟨cw, hx3, cl⟩ | go_keep_ranges) (fail)
                      go_wp2_with fail
                      go_roundw
                      case rel => exact ⟨k + 1, by go_num, by omega, fun i hi => by rcases Nat.lt_or_ge i k with q | q; exact PRE.out i q; (rw [show i = k from by omega]; exact HZK.out), fun q => by omega, KS.out.drew⟩
                      case measure => simp [intOf]; omega
                    · have hz2 : ¬ (z : Int) = (la : Int) := by omega
                      have HEX : Hid (∀ i, k ≤ i → i < 256 → bb.getD i 0 = mk) := by
                        obtain ⟨K, hK, e1, e2⟩ := E2.out hyp
                        have hKk : K ≤ k := by
                          rcases Nat.lt_or_ge k K with q | q
                          · exact absurd ((HZK.out).symm.trans (e1 k q)) hz
                          · exact q
                        exact fun i h1 h2 => e2 i (by omega) h2
                      go_wp2_with fail
                      go_region_held3 (fun w' => w'.cell? ⟨BW, n, none⟩ = some (.int .i64 (y : Nat)) ∧ w'.cell? ⟨rb, ro + k, none⟩ = some (.int .u8 (z : Nat)) ∧ w'.cell? ⟨BW + 1, n, none⟩ = some (.int .u8 (la : Nat))) (first | exact ⟨cw, hx3, cl⟩ | go_keep_ranges) (fail)
                      clear cw cl hx3
                      have KS' := Lib.hid KS.out.drew
                      clear KS
                      have KS := KS'
                      clear KS'
                      go_wp2_with fail
                      go_loopw [16] (fun kv wr => ∃ k1 : Nat, kv = .int .i64 (k1 : Nat) ∧ k ≤ k1 ∧ k1 ≤ 256 ∧ Same w8 wr) (fun kv _ => 256 - (intOf kv).toNat)
                      case atStart => exact ⟨k, rfl, Nat.le_refl _, by omega, KS.out⟩
                      case round =>
                        clear KS
                        obtain ⟨k1, rfl, hk0, hk1, ks⟩ := hrel
                        have KS := Lib.hid ks
                        by_cases g5 : k1 < 256
                        · have g5a : (k1 : Int) < 256 := by omega
                          have g5b : (0 : Int) ≤ (k1 : Int) := by omega
                          have cz : wr.cell? ⟨rb, ro + k1, none⟩ = some (.int .u8 (mk : Nat)) := by
                            obtain ⟨xb, xo, x, ex, hx1, hx2, hx3⟩ := (NN.out.same ks).at (i := k1) (by rw [HSZ.out]; exact g5)
                            cases ex
                            rw [hx3]
                            have := HEX.out k1 hk0 g5
                            rw [List.getD_eq_getElem?_getD, hx2] at this
                            rw [← this]; rfl
                          have cm : wr.cell? ⟨W.heap.size, n, none⟩ = some (.int .u8 (mk : Nat)) := by rw [ks.cell (p := ⟨W.heap.size, n, none⟩) LTM.out (fun h => h)]; exact CM.out
                          clear ks
                          go_wp2_with fail
                          go_region_held3 (fun w' => w'.cell? ⟨rb, ro + k1, none⟩ = some (.int .u8 (mk : Nat)) ∧ w'.cell? ⟨W.heap.size, n, none⟩ = some (.int .u8 (mk : Nat))) (first | exact ⟨cz, cm⟩ | go_keep_ranges) (fail)
                          go_wp2_with fail
                          go_roundw
                          case rel => exact ⟨k1 + 1, by go_num, by omega, by omega, KS.out.drew⟩
                          case measure => simp [intOf]; omega
                        · have e5 : k1 = 256 := by omega
                          subst e5
                          clear ks
                          go_wp2_with fail
                          go_roundw
                          case rel => exact ⟨n + 1, by go_num, by omega, DI8.out.same KS.out, BW8.out.kept KS.out (fun h => h), BL8.out.kept KS.out (fun h => h), BM8.out.kept KS.out (fun h => h), K8.out.trans KS.out⟩
                          case measure => simp [intOf]; omega
                  · have hy1 : y = 0 := by omega
                    have HEX : Hid (∀ i, k ≤ i → i < 256 → bb.getD i 0 = mk) := fun i _ h2 => E1.out hy1 i h2
                    have cw0 : wr.cell? ⟨BW, n, none⟩ = some (.int .i64 0) := by rw [cw, hy1]; rfl
                    clear hy0 cw
                    go_wp2_with fail
                    go_region
                    clear cw0 cl hx3
                    have KS' := Lib.hid KS.out.drew
                    clear KS
                    have KS := KS'
                    clear KS'
                    go_wp2_with fail
                    go_loopw [16] (fun kv wr => ∃ k1 : Nat, kv = .int .i64 (k1 : Nat) ∧ k ≤ k1 ∧ k1 ≤ 256 ∧ Same w8 wr) (fun kv _ => 256 - (intOf kv).toNat)
                    case atStart => exact ⟨k, rfl, Nat.le_refl _, by omega, KS.out⟩
                    case round =>
                      clear KS
                      obtain ⟨k1, rfl, hk0, hk1, ks⟩ := hrel
                      have KS := Lib.hid ks
                      by_cases g5 : k1 < 256
                      · have g5a : (k1 : Int) < 256 := by omega
                        have g5b : (0 : Int) ≤ (k1 : Int) := by omega
                        have cz : wr.cell? ⟨rb, ro + k1, none⟩ = some (.int .u8 (mk : Nat)) := by
                          obtain ⟨xb, xo, x, ex, hx1, hx2, hx3⟩ := (NN.out.same ks).at (i := k1) (by rw [HSZ.out]; exact g5)
                          cases ex
                          rw [hx3]
                          have := HEX.out k1 hk0 g5
                          rw [List.getD_eq_getElem?_getD, hx2] at this
                          rw [← this]; rfl
                        have cm : wr.cell? ⟨W.heap.size, n, none⟩ = some (.int .u8 (mk : Nat)) := by rw [ks.cell (p := ⟨W.heap.size, n, none⟩) LTM.out (fun h => h)]; exact CM.out
                        clear ks
                        go_wp2_with fail
                        go_region_held3 (fun w' => w'.cell? ⟨rb, ro + k1, none⟩ = some (.int .u8 (mk : Nat)) ∧ w'.cell? ⟨W.heap.size, n, none⟩ = some (.int .u8 (mk : Nat))) (first | exact ⟨cz, cm⟩ | go_keep_ranges) (fail)
                        go_wp2_with fail
                        go_roundw
                        case rel => exact ⟨k1 + 1, by go_num, by omega, by omega, KS.out.drew⟩
                        case measure => simp [intOf]; omega
                      · have e5 : k1 = 256 := by omega
                        subst e5
                        clear ks
                        go_wp2_with fail
                        go_roundw
                        case rel => exact ⟨n + 1, by go_num, by omega, DI8.out.same KS.out, BW8.out.kept KS.out (fun h => h), BL8.out.kept KS.out (fun h => h), BM8.out.kept KS.out (fun h => h), K8.out.trans KS.out⟩
                        case measure => simp [intOf]; omega
                · have e4 : k = 256 := by omega
                  subst e4
                  have HEX : Hid (∀ i, 256 ≤ i → i < 256 → bb.getD i 0 = mk) := fun i h1 h2 => by omega
                  clear ks hpre hy0
                  go_wp2_with fail
                  go_region
                  clear cw cl
                  have KS' := Lib.hid KS.out.drew
                  clear KS
                  have KS := KS'
                  clear KS'
                  go_wp2_with fail
                  go_loopw [16] (fun kv wr => ∃ k1 : Nat, kv = .int .i64 (k1 : Nat) ∧ 256 ≤ k1 ∧ k1 ≤ 256 ∧ Same w8 wr) (fun kv _ => 256 - (intOf kv).toNat)
                  case atStart => exact ⟨256, rfl, Nat.le_refl _, by omega, KS.out⟩
                  case round =>
                    clear KS
                    obtain ⟨k1, rfl, hk0, hk1, ks⟩ := hrel
                    have KS := Lib.hid ks
                    by_cases g5 : k1 < 256
                    · have g5a : (k1 : Int) < 256 := by omega
                      have g5b : (0 : Int) ≤ (k1 : Int) := by omega
                      have cz : wr.cell? ⟨rb, ro + k1, none⟩ = some (.int .u8 (mk : Nat)) := by
                        obtain ⟨xb, xo, x, ex, hx1, hx2, hx3⟩ := (NN.out.same ks).at (i := k1) (by rw [HSZ.out]; exact g5)
                        cases ex
                        rw [hx3]
                        have := HEX.out k1 hk0 g5
                        rw [List.getD_eq_getElem?_getD, hx2] at this
                        rw [← this]; rfl
                      have cm : wr.cell? ⟨W.heap.size, n, none⟩ = some (.int .u8 (mk : Nat)) := by rw [ks.cell (p := ⟨W.heap.size, n, none⟩) LTM.out (fun h => h)]; exact CM.out
                      clear ks
                      go_wp2_with fail
                      go_region_held3 (fun w' => w'.cell? ⟨rb, ro + k1, none⟩ = some (.int .u8 (mk : Nat)) ∧ w'.cell? ⟨W.heap.size, n, none⟩ = some (.int .u8 (mk : Nat))) (first | exact ⟨cz, cm⟩ | go_keep_ranges) (fail)
                      go_wp2_with fail
                      go_roundw
                      case rel => exact ⟨k1 + 1, by go_num, by omega, by omega, KS.out.drew⟩
                      case measure => simp [intOf]; omega
                    · have e5 : k1 = 256 := by omega
                      subst e5
                      clear ks
                      go_wp2_with fail
                      go_roundw
                      case rel => exact ⟨n + 1, by go_num, by omega, DI8.out.same KS.out, BW8.out.kept KS.out (fun h => h), BL8.out.kept KS.out (fun h => h), BM8.out.kept KS.out (fun h => h), K8.out.trans KS.out⟩
                      case measure => simp [intOf]; omega
            · have e : n = 9 := by omega
              subst e
              go_wp2_with fail
              refine (sd_waits DI.out).mono ?_
              rintro e w8 ⟨v, rfl, how, k8⟩
              rw [EI.out.no] at how
              obtain ⟨wa, wl, wc, rfl, hwl, -, -, -⟩ := how.rd
              have hwl0 : wl = 0 := hwl.out
              subst hwl0
              have K8 := Lib.hid (HK.out.trans k8)
              clear how hwl k8
              go_wp2_with fail
              refine (sec_awake _).mono ?_
              rintro e w9 ⟨rfl, k9⟩
              go_wp2_with fail
              go_ret
              exact ⟨rfl, K8.out.trans k9⟩
end Go.Proofs.Ytlmpkonfclnceaa
