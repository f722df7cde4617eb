/- BlocksStay: the walk. -/
import Derived.Test.YtlmpkonfclnceaaAct4
import Derived.Test.YtlmpkonfclnceaaStayP
namespace Go.Proofs.Ytlmpkonfclnceaa
open Go.RowKit Go.Sort

set_option maxRecDepth 100000 in
set_option maxHeartbeats 4000000 in
theorem stay4_any (W : World) (ba : Option Addr) (bl bc : Nat) (body : List Nat) (hbl : bl = body.length) (hbc : bl ≤ bc) (hbb : Bts body) (hbat : NatsAt W .u8 ba body)
    (a : Option Addr) (len cap0 : Nat) (hacts : len = 0 ∨ ∃ b off, a = some ⟨b, off, none⟩ ∧ b < W.heap.size ∧ Acts4 W b off len)
    (fa : Option Addr) (fl fc : Nat) (fs : List Nat) (hfl : fl = fs.length) (hfc : fl ≤ fc) (hfb : Bts fs) (hfa : NatsAt W .u8 fa fs) :
    Calls Try.prog 7 #[.slice ba bl bc, .slice a len cap0, .slice fa fl fc] W fun e w' => e = .returned (.bool true) ∧ Same W w' := by
  have HBL := Lib.hid hbl; have HBB := Lib.hid hbb; have HBA := Lib.hid hbat; have HFL := Lib.hid hfl; have HFB := Lib.hid hfb; have HFA := Lib.hid hfa
  obtain ⟨r, hfew, hr⟩ := few4 W a len cap0 12 (by decide) hacts
  have FEW := Lib.hid hfew
  clear hbl hbb hbat hfl hfb hfa hfew
  by_cases hbig : 1016 < bl
  · have h1 : (1016 : Int) < (bl : Int) := by omega
    clear hacts hr
    go_enter Try.func7, Try.ntmps7
    go_wp2_with fail
    refine (aw04 _).mono ?_
    rintro e w2 ⟨rfl, k2⟩
    go_wp2_with fail
    go_ret
    exact ⟨rfl, k2⟩
  have h1 : ¬ (1016 : Int) < (bl : Int) := by omega
  cases r
  · clear hacts hr
    go_enter Try.func7, Try.ntmps7
    go_wp2_with fail
    refine (FEW.out _ (Kept.refl _ _)).mono ?_
    rintro e w1 ⟨rfl, rfl⟩
    go_wp2_with fail
    refine (aw04 _).mono ?_
    rintro e w2 ⟨rfl, k2⟩
    go_wp2_with fail
    go_ret
    exact ⟨rfl, k2⟩
  have hl12 : len ≤ 12 := by have := hr rfl; omega
  have hb16 : body.length ≤ 1016 := by have := HBL.out; omega
  obtain ⟨s1, s2, s3⟩ := stay_start hb16
  have HB16 := Lib.hid hb16
  clear hr hb16
  obtain ⟨D1, hD1⟩ : ∃ D, (writeB (newD 24) 2 5 2 body).1 = D := ⟨_, rfl⟩
  obtain ⟨D2, hD2⟩ : ∃ D, (syncD D1).1 = D := ⟨_, rfl⟩
  rw [hD1] at s2 s3
  rw [hD2] at s3
  have S1 := Lib.hid s1; have S2 := Lib.hid s2; have S3 := Lib.hid s3; have HD1 := Lib.hid hD1; have HD2 := Lib.hid hD2
  clear s1 s2 s3 hD1 hD2
  go_enter Try.func7, Try.ntmps7
  go_wp2_with fail
  refine (FEW.out _ (Kept.refl _ _)).mono ?_
  rintro e w0 ⟨rfl, rfl⟩
  go_wp2_with fail
  refine (sd_new 24 w0).mono ?_
  rintro e w1 ⟨d, bs, cap, m, rfl, h1', hd, hbs, hm, k1⟩
  have l1 := h1'.box.lt; have l2 := h1'.safe.lt; have l3 := h1'.map.lt
  have K2 : Hid (Same w0 (w1.alloc (.cells #[.int .i64 2, .int .i64 5] 57))) := k1.alloc _
  have F2 : Hid (Fr (w1.alloc (.cells #[.int .i64 2, .int .i64 5] 57)) (AreaF w1.heap.size 2 5)) := ⟨Blk.new _ _ _, trivial⟩
  have H2 := Lib.hid (h1'.same ((Kept.refl _ w1).alloc (.cells #[.int .i64 2, .int .i64 5] 57)))
  obtain ⟨x, hx⟩ : ∃ x, w1.heap.size = x := ⟨_, rfl⟩
  rw [hx] at F2 l1 l2 l3
  have hWx : w0.heap.size ≤ x := by have := k1.size; omega
  clear h1' k1
  go_wp2_with fail
  clear hx
  refine (bl_write H2.out 2 5 2 ba bl bc body HBL.out HBB.out hbc (HBA.out.same K2.out)).mono ?_
  rintro e w3 ⟨rfl, h3, k3⟩
  rw [S1.out]
  rw [HD1.out] at h3
  have H3 := Lib.hid h3
  have K3 := Lib.hid (K2.out.own k3 hd hbs hm)
  have F3 := Lib.hid (F2.out.kept k3 (by intro y hy; simp [AreaF] at hy; subst hy; (rintro (q | q | q) <;> (dsimp only at q; omega))))
  clear h3 k3 H2 K2 F2
  go_wp2_with fail
  refine (sd_sync H3.out).mono ?_
  rintro e w4 ⟨rfl, h4, k4⟩
  rw [S2.out]
  rw [HD2.out] at h4
  have H4 := Lib.hid h4
  have K4 := Lib.hid (K3.out.own k4 hd hbs hm)
  have F4 := Lib.hid (F3.out.kept k4 (by intro y hy; simp [AreaF] at hy; subst hy; (rintro (q | q | q) <;> (dsimp only at q; omega))))
  clear h4 k4 H3 K3 F3
  go_wp2_with fail
  go_loopw [9] (fun t wr => ∃ (i : Nat) (D : Dsk), t = .int .i64 i ∧ i ≤ len ∧ StI D body ∧ DiskIn wr d bs cap m D ∧ Fr wr (AreaF x 2 5) ∧ Same w0 wr) (fun t _ => len - (intOf t).toNat)
  case atStart => exact ⟨0, D2, rfl, Nat.zero_le _, S3.out, H4.out, F4.out, K4.out⟩
  case round =>
    clear H4 F4 K4
    obtain ⟨i, D, rfl, hi, hst, hdi, hfr, hk⟩ := hrel
    have ST := Lib.hid hst; have DI := Lib.hid hdi; have F := Lib.hid hfr; have HK := Lib.hid hk
    obtain ⟨p0, f0, -⟩ := hfr.rules
    have z0 := hfr.1.lt
    have q1 := hdi.box.lt; have q2 := hdi.safe.lt; have q3 := hdi.map.lt
    clear hst hdi hfr hk
    by_cases hgo : i < len
    · obtain ⟨ab, ao, rfl, hab, hall⟩ := hacts.resolve_left (by omega)
      obtain ⟨k, n, ya, yl, yc, ys, ac0⟩ := hall i hgo
      have ac := ac0.same HK.out hab
      have c1 := ac.c1
      have c2 := ac.c2
      have P1 := Lib.hid ac.bl_; have P2 := ac.bc_; have P3 := Lib.hid ac.bb; have P4 := Lib.hid ac.at_
      have g1 : (i : Int) < (len : Int) := by omega
      have g0 : (0 : Int) ≤ (i : Int) := by omega
      clear ac ac0 hall
      by_cases hn2 : n = 2
      · subst hn2
        go_wp2_with fail
        go_roundw
        case rel => exact ⟨i + 1, D, by go_num, by omega, ST.out, DI.out, F.out, HK.out⟩
        case measure => simp [intOf]; omega
      · have hn2' : (n == 2) = false := by simp [hn2]
        obtain ⟨t1, t2⟩ := stay_step ST.out n hn2 ys
        have WB := Lib.hid fun w' (kk : Same wr w') => bl_write (DI.out.same kk) 2 5 n ya yl yc ys P1.out P3.out P2 (P4.out.same kk)
        obtain ⟨D9, hD9⟩ : ∃ Z, (writeB D 2 5 n ys).1 = Z := ⟨_, rfl⟩
        obtain ⟨E9, hE9⟩ : ∃ Z, (writeB D 2 5 n ys).2 = Z := ⟨_, rfl⟩
        rw [hD9] at t1
        rw [hE9] at t2
        simp only [hD9, hE9] at WB
        rw [← P1.out] at t2
        have T1 := Lib.hid t1; have T2 := Lib.hid t2
        clear t1 t2 hD9 hE9 P1 P3 P4
        unfold areaV at WB
        have habr := Nat.lt_of_lt_of_le hab HK.out.size
        have QQ : Hid (∀ w', Kept (dod d bs m) wr w' → ((∀ i, w'.cell? ⟨x, i, none⟩ = (#[.int .i64 2, .int .i64 5] : Array Value)[i]?) ∧ w'.cell? ⟨ab, ao + i * 9 + 1, none⟩ = some (.int .i64 n) ∧ w'.cell? ⟨ab, ao + i * 9 + 2, none⟩ = some (.slice ya yl yc))) := by
          intro w' k'
          have hn : ¬ dod d bs m ab := by rintro (q | q | q) <;> omega
          have hc : ∀ o, w'.cell? ⟨ab, o, none⟩ = wr.cell? ⟨ab, o, none⟩ := fun o => k'.cell (p := ⟨ab, o, none⟩) habr hn
          exact ⟨cell_blk (F.out.kept k' (by intro y hy; simp [AreaF] at hy; subst hy; (rintro (q | q | q) <;> (dsimp only at q; omega)))).1, (hc _).trans c1, (hc _).trans c2⟩
        go_wp2_with fail
        go_region_held3 (fun w' => ((∀ i, w'.cell? ⟨x, i, none⟩ = (#[.int .i64 2, .int .i64 5] : Array Value)[i]?) ∧ w'.cell? ⟨ab, ao + i * 9 + 1, none⟩ = some (.int .i64 n) ∧ w'.cell? ⟨ab, ao + i * 9 + 2, none⟩ = some (.slice ya yl yc)))
          ((refine QQ.out _ ?_; (first | with_reducible exact Kept.refl _ _ | with_reducible exact (Kept.refl _ _).drew | with_reducible exact K9.out)))
          ((go_at_call 30; refine (WB.out _ (by first | with_reducible exact Kept.refl _ _ | with_reducible exact (Kept.refl _ _).drew)).mono ?_; rintro e w9 ⟨rfl, h9, k9⟩; have K9 := Lib.hid (show Kept (dod d bs m) wr w9 from ⟨k9.os, k9.tape, k9.output, k9.size, k9.block⟩); have H9 := Lib.hid h9; clear h9 k9))
        obtain ⟨r0, r1, r2⟩ := QQ.out _ K9.out
        have F9 := Lib.hid (F.out.kept K9.out (by intro y hy; simp [AreaF] at hy; subst hy; (rintro (q | q | q) <;> (dsimp only at q; omega))))
        have HK9 := Lib.hid (HK.out.own K9.out hd hbs hm)
        have t2 := T2.out
        clear K9 QQ WB c1 c2 p0 f0 z0 DI F HK ST T2 FEW hacts
        by_cases e0 : E9 = 0
        · have ge : (E9 : Int) = 0 := by omega
          have gn : 0 ≤ n := by omega
          have gn5 : n < 5 := by omega
          have gy : (yl : Int) ≤ 1016 := by omega
          clear t2 e0
          go_wp2_with fail
          go_roundw
          case rel => exact ⟨i + 1, D9, by go_num, by omega, T1.out, H9.out, F9.out, HK9.out⟩
          case measure => simp [intOf]; omega
        · have ge : ¬ (E9 : Int) = 0 := by omega
          by_cases gn : 0 ≤ n
          · by_cases gn5 : n < 5
            · have gy : ¬ (yl : Int) ≤ 1016 := by omega
              clear t2 e0
              go_wp2_with fail
              go_roundw
              case rel => exact ⟨i + 1, D9, by go_num, by omega, T1.out, H9.out, F9.out, HK9.out⟩
              case measure => simp [intOf]; omega
            · clear t2 e0
              go_wp2_with fail
              go_roundw
              case rel => exact ⟨i + 1, D9, by go_num, by omega, T1.out, H9.out, F9.out, HK9.out⟩
              case measure => simp [intOf]; omega
          · clear t2 e0
            go_wp2_with fail
            go_roundw
            case rel => exact ⟨i + 1, D9, by go_num, by omega, T1.out, H9.out, F9.out, HK9.out⟩
            case measure => simp [intOf]; omega
    · have g1 : ¬ (i : Int) < (len : Int) := by omega
      have END := Lib.hid (stay_end ST.out HB16.out HFB.out)
      go_wp2_with fail
      refine (sd_power DI.out fa fl fc fs HFL.out hfc HFB.out (HFA.out.same HK.out)).mono ?_
      rintro e w5 ⟨rfl, h5, k5⟩
      have H5 := Lib.hid h5
      have K5 := Lib.hid (HK.out.own k5 hd hbs hm)
      have F5 := Lib.hid (F.out.kept k5 (by intro y hy; simp [AreaF] at hy; subst hy; (rintro (q | q | q) <;> (dsimp only at q; omega))))
      clear h5 k5 p0 f0 z0
      obtain ⟨p0, f0, -⟩ := F5.out.rules
      have z0 := F5.out.1.lt
      go_wp2_with fail
      refine (bl_read H5.out 2 5 2).mono ?_
      rw [END.out]
      rintro e w6 ⟨a6, c6, rfl, n6, -, k6⟩
      have hv1 := conv_str a6 body.length c6 body w6 rfl n6
      have hv2 := conv_str ba bl bc body w6 HBL.out (HBA.out.same (K5.out.trans k6))
      have K6 := Lib.hid (K5.out.trans k6)
      clear n6 k6 p0 f0 z0
      go_wp2_with fail
      refine (aw04 _).mono ?_
      rintro e w7 ⟨rfl, k7⟩
      go_wp2_with fail
      go_ret
      exact ⟨rfl, K6.out.trans k7⟩
end Go.Proofs.Ytlmpkonfclnceaa
