/- Full, and what every right program has behind a torn sector. -/
import Derived.Test.YtlmpkonfclnceaaSec7
namespace Go.Proofs.Ytlmpkonfclnceaa
open Go.RowKit

def fullL (c : Nat) : List Nat := List.replicate 256 c
theorem fullL_len (c : Nat) : (fullL c).length = 256 := List.length_replicate
theorem fullL_bts {c : Nat} (h : c < 256) : Bts (fullL c) := fun x hx => by rw [List.eq_of_mem_replicate hx]; exact h
def partL (c i : Nat) : List Nat := List.replicate i c ++ List.replicate (256 - i) 0
theorem partL_len {c i : Nat} (h : i ≤ 256) : (partL c i).length = 256 := by simp [partL]; omega
theorem partL_set {c i : Nat} (h : i < 256) : (partL c i).set i c = partL c (i + 1) := by
  unfold partL
  rw [List.set_append_right _ _ (by simp), List.length_replicate, Nat.sub_self]
  rw [show 256 - i = (256 - (i + 1)) + 1 from by omega, List.replicate_succ, List.set_cons_zero, List.replicate_succ']
  simp
theorem partL_end (c : Nat) : partL c 256 = fullL c := by unfold partL fullL; rw [Nat.sub_self, List.replicate_zero, List.append_nil]
theorem partL_start (c : Nat) : partL c 0 = List.replicate 256 0 := by unfold partL; rw [Nat.sub_zero, List.replicate_zero, List.nil_append]

set_option maxRecDepth 100000 in
set_option maxHeartbeats 1000000 in
theorem full_any (c : Nat) (w : World) :
    Calls Try.prog 15 #[.int .u8 (c : Nat)] w fun e w' => ∃ g, e = .returned (.slice (some ⟨g, 0, none⟩) 256 256) ∧ OwnN w' w.heap.size 5 .u8 (.slice (some ⟨g, 0, none⟩) 256 256) (fullL c) ∧ Same w w' := by
  obtain ⟨i0, hi, hz0, hz1, hz2⟩ := info_parts (P := Try.prog) (e := 5) (z := .int .u8 0) (size := 1) (bytes := 1) (by kernel_rfl)
  obtain ⟨w1, hrun, hown, hgr⟩ := run_make_full (P := Try.prog) w w.heap.size 24 5 i0 (.int .u8 0) 1 Try.underlying24 hi hz0 hz1 .i64 .i64 256 (by rw [hz2]; decide) (by decide) (Nat.le_refl _)
  have hown := OwnN.made hown
  have hmk : (Instr.makeSlice 24 (.int .i64 256) (.int .i64 256)).run Try.prog w = .ok (.slice (some ⟨w.heap.size, 0, none⟩) 256 256) w1 := hrun
  have K1 : Same w w1 := ⟨hgr.os, hgr.tape, hgr.output, hgr.size, fun k hk _ => hgr.block k hk (by simp)⟩
  have K1 := Lib.hid K1
  rw [← partL_start c] at hown
  have OW := Lib.hid hown
  clear hrun hgr hown hi hz0 hz1 hz2
  go_enter Try.func15, Try.ntmps15
  go_wp2_with fail
  go_loopw [4] (fun iv wr => ∃ i : Nat, iv = .int .i64 (i : Nat) ∧ i ≤ 256 ∧ OwnN wr w.heap.size 5 .u8 (.slice (some ⟨w.heap.size, 0, none⟩) 256 256) (partL c i) ∧ Kept (fun _ => False) w wr) (fun iv _ => 256 - (intOf iv).toNat)
  case atStart => exact ⟨0, rfl, by omega, OW.out, K1.out⟩
  case round =>
    clear K1 OW
    obtain ⟨i, rfl, hi, how, hk⟩ := hrel
    have OW := Lib.hid how; have HK := Lib.hid hk
    by_cases hgo : i < 256
    · have h1 : (i : Int) < 256 := by omega
      have hc := how.cell (partL_len hi) (j := i) (x := (partL c i)[i]'(by rw [partL_len hi]; exact hgo)) (List.getElem?_eq_getElem _)
      have hf : wr.frozen? ⟨w.heap.size, i, none⟩ = false := by
        rcases how.2 with ⟨h, _⟩ | ⟨g, cap, cur, h, _, hb, _⟩
        · cases h
        · simp only [Value.slice.injEq, Option.some.injEq, Addr.mk.injEq] at h
          rw [h.1.1]; exact Blk.free hb i
      clear how hk
      go_wp2_with fail
      go_roundw
      case rel =>
        refine ⟨i + 1, by go_num, by omega, ?_, HK.out.setNew (Nat.le_refl _) _⟩
        have := OW.out.set (partL_len hi) i c
        rw [partL_set hgo] at this
        exact this
      case measure => simp [intOf]; omega
    · have e : i = 256 := by omega
      subst e
      clear how hk
      go_wp2_with fail
      go_ret
      have := OW.out
      rw [partL_end] at this
      exact ⟨_, rfl, this, HK.out⟩

/-- A disk whose power is on, and does not fail. -/
def Live (D : Dsk) : Prop := D.off = false ∧ D.after = -1
theorem write_live {D : Dsk} (h : Live D) {n : Nat} (hn : n < D.s.length) {b : List Nat} (hb : b.length = 256) : writeD D (n : Nat) b = (⟨putS D.s n b, false, wrap64 (D.calls + 1), -1, D.done⟩, 0) := by
  have e : errD D (n : Nat) = 0 := by unfold errD; rw [h.1]; simp; omega
  unfold writeD callD
  rw [if_pos e, if_pos hb, h.2, Int.toNat_natCast]
  simp
theorem sync_live {D : Dsk} (h : Live D) : syncD D = (⟨settle D.s, false, wrap64 (D.calls + 1), -1, D.done⟩, 0) := by
  unfold syncD callD
  rw [h.1, h.2]
  simp
theorem read_live {D : Dsk} (h : D.off = false) {n : Nat} (hn : n < D.s.length) : readD D (n : Nat) = ((D.s.getD n sec0).has, 0) := by
  have e : errD D (n : Nat) = 0 := by unfold errD; rw [h]; simp; omega
  unfold readD
  rw [if_pos e, Int.toNat_natCast]

def awD1 : Dsk := (writeD (newD 5) 1 (fullL 9)).1
def awD2 : Dsk := (syncD awD1).1
def awD3 : Dsk := (writeD awD2 3 (fullL 7)).1
def awD4 : Dsk := powerD awD3 [3, 5]
theorem aw1 : (writeD (newD 5) 1 (fullL 9)).2 = 0 := by decide +kernel
theorem aw2 : (syncD awD1).2 = 0 := by decide +kernel
theorem aw3 : (writeD awD2 3 (fullL 7)).2 = 0 := by decide +kernel
theorem aw4 : waitsOf awD3.s = [3] := by decide +kernel
theorem aw5 : (readD awD4 3).2 = 0 ∧ (readD awD4 1).2 = 0 ∧ (readD awD4 3).1.length = 256 ∧ (readD awD4 1).1.length = 256 ∧ (readD awD4 3).1[4]? = some 7 ∧ (readD awD4 3).1[5]? = some 0 ∧ (readD awD4 1).1[255]? = some 9 := by decide +kernel
theorem aw6 : awD4.calls = 3 ∧ awD4.off = false ∧ awD4.s.length = 5 := by decide +kernel

/-- A store into what is new since w leaves w as it was. -/
theorem Kept.own {w a b : World} {d bs m : Nat} (h : Kept (fun _ => False) w a) (k : Kept (dod d bs m) a b) (h1 : w.heap.size ≤ d) (h2 : w.heap.size ≤ bs) (h3 : w.heap.size ≤ m) : Same w b :=
  h.step k (fun i hi q => by rcases q with q | q | q <;> omega)

set_option maxRecDepth 100000 in
set_option maxHeartbeats 2000000 in
theorem sec_awake (w : World) : Calls Try.prog 12 #[] w fun e w' => e = .returned (.bool true) ∧ Same w w' := by
  go_enter Try.func12, Try.ntmps12
  go_wp2_with fail
  refine (sd_new 5 w).mono ?_
  rintro e w1 ⟨d, bs, cap, m, rfl, h1, hd, hbs, hm, k1⟩
  have H1 := Lib.hid h1; have K1 := Lib.hid k1
  clear h1 k1
  go_wp2_with fail
  refine (full_any 9 w1).mono ?_
  rintro e w2 ⟨g2, rfl, ho2, k2⟩
  go_wp2_with fail
  refine (sd_write (H1.out.same k2) 1 (some ⟨g2, 0, none⟩) 256 256 (fullL 9) (fullL_len 9).symm (fullL_bts (by decide)) ho2.nats).mono ?_
  rintro e w3 ⟨rfl, h3, k3⟩
  rw [aw1]
  have H3 : Hid (DiskIn w3 d bs cap m awD1) := h3
  have K3 := Lib.hid ((K1.out.trans k2).own k3 hd hbs hm)
  clear h3 k3 ho2 k2 H1 K1
  go_wp2_with fail
  refine (sd_sync H3.out).mono ?_
  rintro e w4 ⟨rfl, h4, k4⟩
  rw [aw2]
  have H4 : Hid (DiskIn w4 d bs cap m awD2) := h4
  have K4 := Lib.hid (K3.out.own k4 hd hbs hm)
  clear h4 k4 H3 K3
  go_wp2_with fail
  refine (full_any 7 w4).mono ?_
  rintro e w5 ⟨g5, rfl, ho5, k5⟩
  go_wp2_with fail
  refine (sd_write (H4.out.same k5) 3 (some ⟨g5, 0, none⟩) 256 256 (fullL 7) (fullL_len 7).symm (fullL_bts (by decide)) ho5.nats).mono ?_
  rintro e w6 ⟨rfl, h6, k6⟩
  rw [aw3]
  have H6 : Hid (DiskIn w6 d bs cap m awD3) := h6
  have K6 := Lib.hid ((K4.out.trans k5).own k6 hd hbs hm)
  clear h6 k6 ho5 k5 H4 K4
  go_wp2_with fail
  refine (sd_waits H6.out).mono ?_
  rintro e w7 ⟨v, rfl, how, k7⟩
  rw [aw4] at how
  obtain ⟨wa, wl, wc, rfl, hwl, hwn, hwat, hwc⟩ := how.rd
  have hwl1 : wl = 1 := hwl.out
  subst hwl1
  have hfar := how.far
  have H7 := Lib.hid (H6.out.same k7); have K7 := Lib.hid (K6.out.trans k7)
  have z6 := And.intro H6.out.box.lt (And.intro H6.out.safe.lt H6.out.map.lt)
  clear how hwl hwn hwc k7 H6 K6
  have z1 := H7.out.box.lt; have z2 := H7.out.safe.lt; have z3 := H7.out.map.lt
  go_wp2_with fail
  have k8 : Same w7 (w7.alloc (.cells #[.int .u8 3, .int .u8 5] 5)) := (Kept.refl _ w7).alloc _
  have n8 : NatsAt (w7.alloc (.cells #[.int .u8 3, .int .u8 5] 5)) .u8 (some ⟨w7.heap.size, 0, none⟩) [3, 5] := by exact nats_new (w := w7) (l := [3, 5]) (t := 5)
  refine (sd_power (H7.out.same k8) (some ⟨w7.heap.size, 0, none⟩) 2 2 [3, 5] rfl (Nat.le_refl _) (by intro x hx; simp at hx; omega) n8).mono ?_
  rintro e w9 ⟨rfl, h9, k9⟩
  have H9 : Hid (DiskIn w9 d bs cap m awD4) := h9
  have K9 := Lib.hid ((K7.out.trans k8).own k9 hd hbs hm)
  have NW := Lib.hid (NatsAt.kept (hwat.out.same k8) k9 (fun x hx => by have := hfar x hx; have a1 := z6.1; have a2 := z6.2.1; have a3 := z6.2.2; intro q; rcases q with q | q | q <;> omega))
  clear h9 k9 k8 n8 H7 K7 hwat hfar z1 z2 z3 z6
  go_wp2_with fail
  refine (sd_read H9.out 3).mono ?_
  rintro e w10 ⟨a1, c1, rfl, n10, e10, k10⟩
  have H10 := Lib.hid (H9.out.same k10); have K10 := Lib.hid (K9.out.trans k10); have NW10 := Lib.hid (NW.out.same k10)
  rw [aw5.1, aw5.2.2.1]
  have N10 := Lib.hid n10
  clear n10 e10 k10 H9 K9 NW
  go_wp2_with fail
  refine (sd_read H10.out 1).mono ?_
  rintro e w11 ⟨a2, c2, rfl, n11, e11, k11⟩
  have H11 := Lib.hid (H10.out.same k11); have K11 := Lib.hid (K10.out.trans k11); have NW11 := NW10.out.same k11
  rw [aw5.2.1, aw5.2.2.2.1]
  have n10 := N10.out.same k11
  clear e11 k11 H10 K10 NW10 N10
  obtain ⟨b1, o1, y1, rfl, -, hy1, hc1⟩ := n10.at (i := 4) (by rw [aw5.2.2.1]; decide)
  obtain ⟨b1', o1', y2, e1, -, hy2, hc2⟩ := n10.at (i := 5) (by rw [aw5.2.2.1]; decide)
  obtain ⟨b2, o2, y3, rfl, -, hy3, hc3⟩ := n11.at (i := 255) (by rw [aw5.2.2.2.1]; decide)
  obtain ⟨b3, o3, y4, rfl, -, hy4, hc4⟩ := NW11.at (i := 0) (by decide)
  cases e1
  rw [aw5.2.2.2.2.1] at hy1; rw [aw5.2.2.2.2.2.1] at hy2; rw [aw5.2.2.2.2.2.2] at hy3
  simp at hy1 hy2 hy3 hy4
  subst hy1 hy2 hy3 hy4
  rw [Nat.add_zero] at hc4
  have C1 := Lib.hid fun w' (h : w' = w11) => h ▸ (sd_calls H11.out)
  have CA := sd_calls H11.out; have CS := sd_size H11.out; have CO := sd_off H11.out
  rw [aw6.1] at CA; rw [aw6.2.2] at CS; rw [aw6.2.1] at CO
  have CA := Lib.hid CA; have CS := Lib.hid CS; have CO := Lib.hid CO
  clear C1 n10 n11 NW11 H11
  go_wp2_with (first
    | (go_at_call 25; refine CA.out.mono ?_; rintro e w' ⟨rfl, rfl⟩)
    | (go_at_call 23; refine CS.out.mono ?_; rintro e w' ⟨rfl, rfl⟩)
    | (go_at_call 27; refine CO.out.mono ?_; rintro e w' ⟨rfl, rfl⟩))
  go_ret
  exact ⟨rfl, K11.out⟩
end Go.Proofs.Ytlmpkonfclnceaa
