/- A disk's Power. -/
import Derived.Test.YtlmpkonfclnceaaSec6
namespace Go.Proofs.Ytlmpkonfclnceaa
open Go.RowKit

theorem OwnN.far {w : World} {base : Nat} {e : TypeId} {k : IntKind} {a : Option Addr} {l c : Nat} {xs : List Nat} (h : OwnN w base e k (.slice a l c) xs) : ∀ x, a = some x → base ≤ x.block := by
  intro x hx
  subst hx
  exact (World.ownsRow.lt h x.block rfl).1
theorem take_succ_of {l : List Nat} {i n : Nat} (h : l[i]? = some n) : l.take (i + 1) = l.take i ++ [n] := by
  rw [List.take_add_one, h]; rfl

theorem set_waitF {s : List Sec} {n : Nat} (hn : n < s.length) {y : Sec} (hy : y.waits = true) (j : Nat) : (if j = n then some (.agg (secC y.has)) else waitF s j) = waitF (s.set n y) j := by
  unfold waitF waitsAt
  simp only [getD_set]
  by_cases e : j = n
  · subst e; simp [hn, hy, secV, secC]
  · simp [e]
theorem set_safe {s : List Sec} {n : Nat} (hn : n < s.length) {y : Sec} (hy : y.safe = (s.getD n sec0).safe) : (s.set n y).map (·.safe) = s.map (·.safe) := by
  rw [List.map_set]
  apply List.ext_getElem?
  intro i
  rw [List.getElem?_set]
  split
  · rename_i e
    subst e
    simp [hn, hy]
  · rfl
/-- One more text waits. -/
theorem DiskIn.upd {w w' : World} {d bs cap m : Nat} {D : Dsk} (h : DiskIn w d bs cap m D) {n : Nat} (hn : n < D.s.length) {y : Sec} (hm : MapI w' m (fun j => if j = n then some (.agg (secC y.has)) else waitF D.s j)) (k : Kept (fun j => j = m) w w') (hy : y.OK) (hw : y.waits = true) (hs : y.safe = (D.s.getD n sec0).safe) :
    DiskIn w' d bs cap m { D with s := D.s.set n y } := by
  refine ⟨?_, (h.safe.kept k (fun q => h.nm q.symm)).alike (set_safe hn hs), hm.congr (set_waitF hn hw), h.apart, h.nm, ⟨set_ok h.ok.secs n hy, by simp [h.ok.few], h.ok.aft, h.ok.cal⟩, by simp [h.cap]⟩
  have := h.box.kept k (fun q => h.ne1 q.symm)
  simpa only [cellsD, List.length_set] using this
/-- The bytes behind a copy. -/
theorem pow_range {w : World} {X K : Nat} {x : Sec} (hx : x.OK) (hK : K ≤ 256) (h : w.rangeAt X 0 (encB x.has)) (ht : w.there X 0 256) : (w.setCells X K (encB (x.safe.drop K))).rangeAt X 0 (encB (powOne x K).has) := by
  intro j v hv
  have hlen : (encB (x.safe.drop K)).length = 256 - K := by rw [encB_len, List.length_drop, hx.safeL]
  unfold powOne encB at hv
  rw [List.map_append] at hv
  have hl1 : (List.map (fun x : Nat => Value.int IntKind.u8 (x : Nat)) (x.has.take K)).length = K := by rw [List.length_map, List.length_take, hx.hasL]; omega
  by_cases hj : j < K
  · rw [World.cell?_setCells_out _ _ _ _ _ (fun _ _ => .inl (by show 0 + j < K; omega))]
    refine h j v ?_
    rw [List.getElem?_append_left (by rw [hl1]; exact hj), List.map_take, List.getElem?_take, if_pos hj] at hv
    exact hv
  · rw [List.getElem?_append_right (by rw [hl1]; omega), hl1] at hv
    have hj2 : j - K < (encB (x.safe.drop K)).length := (List.getElem?_eq_some_iff.1 hv).1
    have := World.cell?_setCells_in X (encB (x.safe.drop K)) K w (fun i hi => by have := (ht (K + i) (by omega)).1; rwa [Nat.zero_add] at this) (j - K) hj2
    rw [show 0 + j = K + (j - K) from by omega, this, ← hv]
    exact (List.getElem?_eq_getElem hj2).symm
theorem tmod_nat (q : Nat) : (q : Int).tmod 4 = ((q % 4 : Nat) : Int) := by rw [Int.tmod_eq_emod_of_nonneg (by omega)]; omega

theorem cp_eq {w : World} {X bs n K : Nat} {x : Sec} (hx : x.OK) (hK : K ≤ 256) (hs : w.rangeAt bs (n * 256) (encB x.safe)) (ht : w.there X 0 256) :
    (Builtin.copy_ #[24, 24] 3 #[.slice (some ⟨X, K, none⟩) (256 - K) (256 - K), .slice (some ⟨bs, n * 256 + K, none⟩) (256 - K) (256 - K)]).run Try.prog w = .ok (goInt ((256 - K : Nat) : Nat)) (w.setCells X K (encB (x.safe.drop K))) := by
  have hl : (encB (x.safe.drop K)).length = 256 - K := by rw [encB_len, List.length_drop, hx.safeL]
  have := run_copy_cells (P := Try.prog) w 24 24 3 5 X K (256 - K) (256 - K) ⟨bs, n * 256 + K, none⟩ (256 - K) (256 - K) (encB (x.safe.drop K)) Try.underlying24 (by kernel_rfl) (by rw [hl]; exact (Nat.min_self _).symm)
    (fun j v hv => by
      rw [Addr.add_mid, show n * 256 + K + j = n * 256 + (K + j) from by omega]
      refine hs (K + j) v ?_
      unfold encB at hv ⊢
      rw [List.map_drop, List.getElem?_drop] at hv
      exact hv)
    (fun j hj => by have := (ht (K + j) (by omega)).1; rwa [Nat.zero_add] at this)
    (fun j hj => by have := (ht (K + j) (by omega)).2; rwa [Nat.zero_add] at this)
    (encB_one _)
  rw [hl] at this
  exact this

set_option maxRecDepth 100000 in
set_option maxHeartbeats 3000000 in
theorem sd_power {w : World} {d bs cap m : Nat} {D : Dsk} (h : DiskIn w d bs cap m D) (a : Option Addr) (l c : Nat) (f : List Nat) (hl : l = f.length) (hc : l ≤ c) (hf : Bts f) (hat : NatsAt w .u8 a f) :
    Calls Try.prog 17 #[.pointer (some ⟨d, 0, none⟩), .slice a l c] w fun e w' => e = .returned (.tuple #[]) ∧ DiskIn w' d bs cap m (powerD D f) ∧ Kept (dod d bs m) w w' := by
  have H := Lib.hid h
  have HF := Lib.hid hf
  have k0 : Same w (w.alloc (.cells #[.slice a l c] 24)) := (Kept.refl _ w).alloc _
  have FA : FatesAt (w.alloc (.cells #[.slice a l c] 24)) w.heap.size f := ⟨a, l, c, Blk.new w _ _, hl, hc, hat.same k0, nats_lt hat⟩
  have zz : (w.alloc (.cells #[.slice a l c] 24)).heap.size = w.heap.size + 1 := by simp
  have FA := Lib.hid FA; have K0 := Lib.hid k0; have ZZ := Lib.hid zz
  have H1 := Lib.hid (H.out.same k0)
  have l1 := h.box.lt; have l2 := h.safe.lt; have l3 := h.map.lt
  clear hl hc hf hat k0 zz h
  go_enter Try.func17, Try.ntmps17
  go_wp2_with fail
  generalize w.alloc (.cells #[.slice a l c] 24) = w1 at *
  refine (sd_waits H1.out).mono ?_
  rintro e w2 ⟨v, rfl, how, k2⟩
  obtain ⟨wa, wl, wc, rfl, hwl, hwn, hwat, hwc⟩ := how.rd
  have hfar := how.far
  have H2 := Lib.hid (H1.out.same k2)
  have FA2 := Lib.hid (FA.out.same k2)
  have K2 := Lib.hid (K0.out.trans k2)
  have FAR := Lib.hid hfar
  have SZ := Lib.hid k2.size
  have wfew : wl ≤ 4096 := by
    rw [hwl.out]
    refine Nat.le_trans (List.length_filter_le _ _) ?_
    rw [List.length_range]; exact H.out.ok.few
  clear how hwn hwc hfar k2 FA H1 K0
  go_wp2_with fail
  go_loopw [15] (fun iv wr => ∃ (i : Nat) (st : List Sec × List Nat), iv = .int .i64 (i : Nat) ∧ i ≤ wl ∧ st = ((waitsOf D.s).take i).foldl powF (D.s, f) ∧ PowI D.s st ∧ DiskIn wr d bs cap m { D with s := st.1 } ∧ FatesAt wr w.heap.size st.2 ∧ NatsAt wr .i64 wa (waitsOf D.s) ∧ Kept (dod d bs m) w wr) (fun iv _ => wl - (intOf iv).toNat)
  case atStart => exact ⟨0, (D.s, f), rfl, Nat.zero_le _, rfl, PowI.start H.out.ok.secs HF.out, H2.out, FA2.out, hwat.out, K2.out.mono (fun _ _ q => q.elim)⟩
  case round =>
    clear FA2 H2 K2
    obtain ⟨i, st, rfl, hi, hst, hpi, hdi, hfa, hna, hk⟩ := hrel
    have p0 := hdi.ptr
    simp only [cellsD] at p0
    by_cases hgo : i < wl
    · obtain ⟨gb, go, n, rfl, hgb, hxi, hcx⟩ := hna.at (i := i) (by rw [← hwl.out]; exact hgo)
      have hw0 := mem_waitsOf (List.mem_of_getElem? hxi)
      have hw1 : waitsAt st.1 n = true := by rw [hpi.waits]; exact hw0
      have hnl : n < st.1.length := waitsAt_lt hw1
      have hxs := get_of hnl
      obtain ⟨x, hx⟩ : ∃ x, st.1.getD n sec0 = x := ⟨_, rfl⟩
      rw [hx] at hxs
      have hxok := hpi.ok x (List.mem_of_getElem? hxs)
      have hxw : x.waits = true := by have := hw1; unfold waitsAt at this; rw [hx] at this; exact this
      have hlk := hdi.map.look (P := Try.prog) Try.underlying96 Try.underlying3 n (zero_sec wr) false
      rw [waitF_at hxs, hxw, if_pos rfl] at hlk
      simp only [Option.getD_some, Bool.false_eq_true, if_false] at hlk
      have hsto := put_new wr (secC_size hxok.hasL) (secC_one _)
      have kA : Same wr (wr.alloc (.cells (secC x.has) 100)) := (Kept.refl _ wr).alloc _
      have nA := nats_new (w := wr) (l := x.has) (t := 100)
      have bA := Blk.new wr (secC x.has) 100
      have DI := Lib.hid (hdi.same kA)
      have FI := Lib.hid (hfa.same kA)
      have ln : (i : Int) < (wl : Int) := by omega
      have ln0 : (0 : Int) ≤ (i : Int) := by omega
      have hbig : wr.heap.size > w.heap.size := by obtain ⟨_, _, _, q, _⟩ := hfa; exact q.lt
      have HK := Lib.hid hk; have HPI := Lib.hid hpi; have HXO := Lib.hid hxok; have HST := Lib.hid hst; have HX := Lib.hid hx; have HXS := Lib.hid hxs; have NA := Lib.hid (hna.same kA); have HXI := Lib.hid hxi; have HW1 := Lib.hid hw1; have HW0 := Lib.hid hw0; have XW := Lib.hid hxw; have GB := Lib.hid hgb; have NB := Lib.hid nA; have BA := Lib.hid bA; have KA := Lib.hid kA
      clear hk hpi hxok hst hx hxs hna hxi hw0 hw1 hxw nA bA kA hdi hfa
      generalize hC : secC x.has = C at *
      have HC := Lib.hid hC
      clear hC
      go_wp2_with (with_reducible refine wpList_storeRun hsto rfl _ _ rfl rfl rfl ?_)
      have tX := (show (wr.alloc (.cells C 100)).there wr.heap.size 0 256 from fun j hj => by
        refine ⟨?_, BA.out.free _⟩
        rw [Nat.zero_add, cell_blk BA.out, ← HC.out, Array.getElem?_eq_getElem (by rw [secC_size HXO.out.hasL]; exact hj)]
        rfl)
      have TX := Lib.hid tX
      have zX : (wr.alloc (.cells C 100)).heap.size = wr.heap.size + 1 := by simp
      have ZX := Lib.hid zX
      have rX := Lib.hid (nats_range NB.out)
      have KB := Lib.hid (HK.out.trans (KA.out.mono (fun _ _ q => q.elim)))
      have NX : Hid (∀ y, (some ⟨gb, go, none⟩ : Option Addr) = some y → ¬ y.block = wr.heap.size) := fun y hy => by cases hy; show ¬ gb = wr.heap.size; omega
      clear tX zX NB BA KA HK hlk hsto hcx hgb p0 hwat
      generalize wr.alloc (.cells C 100) = w3 at *
      generalize hXX : wr.heap.size = X at *
      clear hXX HC
      refine (fates_next FI.out HPI.out.fates).mono ?_
      rintro e w4 ⟨rfl, F4, k4⟩
      have hq := (take1_bts HPI.out.fates).1
      have hB1 := (take1_bts HPI.out.fates).2
      obtain ⟨q, hqq⟩ : ∃ q, (take1 st.2).1 = q := ⟨_, rfl⟩
      rw [hqq] at hq ⊢
      have QQ := Lib.hid hqq
      have DI4 := Lib.hid (DI.out.kept k4 (by omega) (by omega) (by omega))
      have NA4 := Lib.hid (NatsAt.kept NA.out k4 (fun x hx => by have := FAR.out x hx; have := ZZ.out; omega))
      have TX4 := Lib.hid (there_kept TX.out k4 (by have := ZX.out; omega) (by omega))
      have RX4 := Lib.hid (rangeAt_kept rX.out k4 (by have := ZX.out; omega) (by omega))
      have KB4 := Lib.hid k4
      have F4 := Lib.hid F4
      have Z4 := Lib.hid k4.size
      clear hqq k4 DI NA TX rX FI
      have ht := tmod_nat q
      have h4 : q % 4 = 0 ∨ q % 4 = 1 ∨ q % 4 = 2 ∨ q % 4 = 3 := by omega
      rcases h4 with h4 | h4 | h4 | h4
      · rw [h4] at ht
        go_wp2_with fail
        have hcp := cp_eq (w := w4.drew) (X := X) (bs := bs) (n := n) (K := 0) HXO.out (by omega) (DI4.out.safe.at_ n x HXS.out) TX4.out
        simp only [Nat.add_zero, Nat.sub_zero] at hcp
        have ko : keepOf st.2 = (0, (take1 st.2).2) := by unfold keepOf; rw [QQ.out, if_neg (by omega), if_neg (by omega)]
        have KO : Hid ((keepOf st.2).1 = 0) := by rw [ko]; exact Lib.hid rfl
        have KO2 : Hid ((keepOf st.2).2 = (take1 st.2).2) := by rw [ko]; exact Lib.hid rfl
        clear ko ht
        have p00 : w4.cell? ⟨d, 0, none⟩ = some (.slice (some ⟨bs, 0, none⟩) st.1.length cap) := DI4.out.ptr 0
        have nn0 : (0 : Int) ≤ (n : Int) := by omega
        have nn1 : (n : Int) < (st.1.length : Int) := by omega
        have k5 : Kept (fun j => j = X) w4 (w4.drew.setCells X (0) (encB (x.safe.drop (0)))) := (Kept.refl (fun j => j = X) w4).drew.setCells (fun _ => rfl) _ _
        have q00 := (k5.cell (p := ⟨d, 0, none⟩) (by have := DI4.out.box.lt; exact this) (by show ¬ d = X; omega)).trans p00
        have r5 := pow_range (w := w4.drew) HXO.out (K := 0) (by omega) RX4.out TX4.out
        obtain ⟨ds, hds⟩ : ∃ ds, encB (x.safe.drop (0)) = ds := ⟨_, rfl⟩
        rw [hds] at k5 q00 r5 hcp
        have DI5 := Lib.hid (DI4.out.kept k5 (by omega) (by omega) (by omega))
        have F5 := Lib.hid (F4.out.new k5 (by omega))
        have NA5 := Lib.hid (NatsAt.kept NA4.out k5 (fun y hy => by have := NX.out y hy; omega))
        have K5 := Lib.hid ((KB.out.step KB4.out (fq := fun j => j = w.heap.size) (fun i hi q => by omega)).step k5 (fq := fun j => j = X) (fun i hi q => by omega))
        have R5 := Lib.hid r5
        go_region_held3 (fun w' => w'.cell? ⟨d, 0, none⟩ = some (.slice (some ⟨bs, 0, none⟩) st.1.length cap)) (first | exact p00 | exact q00 | go_keep_ranges) (fail)
        clear p00 q00 nn0 nn1 k5 r5 hcp hds
        generalize w4.drew.setCells X (0) ds = w5 at *
        have yok := powOne_ok HXO.out (k := 0) (by omega) XW.out
        have YOK := Lib.hid yok
        obtain ⟨Y, hY⟩ : ∃ Y, powOne x (0) = Y := ⟨_, rfl⟩
        rw [hY] at R5 YOK
        have hYw : Y.waits = true := by rw [← hY]; exact XW.out
        have hYs : Y.safe = x.safe := by rw [← hY]; rfl
        obtain ⟨w6, hup, hm6, hk6, hz6⟩ := (show MapI w5.drew m (waitF st.1) from DI5.out.map).store (P := Try.prog) Try.underlying96 Try.underlying3 n (.agg (secC Y.has))
        have k6 : Kept (fun j => j = m) w5 w6 := ⟨hk6.os, hk6.tape, hk6.output, hk6.size, hk6.block⟩
        have DI6 := Lib.hid (DI5.out.upd hnl hm6 k6 YOK.out hYw (by rw [hYs, HX.out]))
        have hYl := YOK.out.hasL
        obtain ⟨cs, hcs⟩ : ∃ cs, encB Y.has = cs := ⟨_, rfl⟩
        have hsec : secC Y.has = cs.toArray := by unfold secC; rw [hcs]
        have r5 := R5.out
        rw [hcs] at r5
        rw [hsec] at hup
        have hl : cs.length = 256 := by rw [← hcs, encB_len, hYl]
        have hi2 : (Try.prog.info? 100).map (·.size) = some cs.length := by rw [hl]; kernel_rfl
        have hu := Try.underlying100
        have p01 : w5.cell? ⟨d, 1, none⟩ = some (.map (some m)) := DI5.out.ptr 1
        have q01 := (k6.cell (p := ⟨d, 1, none⟩) (by have := DI5.out.box.lt; exact this) (fun q => H.out.ne1 q.symm)).trans p01
        have hXm : ¬ X = m := by omega
        have r6 := rangeAt_kept r5 k6 (World.block_lt_of_cell? w5 _ (r5 0 _ (List.getElem?_eq_getElem (by omega)))) hXm
        have F6 := Lib.hid (F5.out.map DI5.out.map k6)
        have NA6 := Lib.hid (NatsAt.kept' NA5.out k6 (nats_ne_map NA5.out DI5.out.map))
        have K6 := Lib.hid (K5.out.step k6 (fq := fun j => j = m) (fun i hi q => .inr (.inr q)))
        have HYY := Lib.hid hY
        clear hm6 hk6 hz6 k6 hY hYw hYs hYl hcs hsec hXm yok
        go_wp2_with fail
        go_region_held3 (fun w' => w'.cell? ⟨d, 1, none⟩ = some (.map (some m)) ∧ w'.rangeAt X 0 cs) (first | exact ⟨p01, r5⟩ | exact ⟨q01, r6⟩ | go_keep_ranges) (fail)
        go_wp2_with fail
        go_roundw
        case rel =>
          refine ⟨i + 1, powF st n, by go_num, by omega, ?_, HPI.out.step HW0.out, ?_, ?_, NA6.out, K6.out⟩
          · rw [take_succ_of HXI.out, List.foldl_append, ← HST.out]; rfl
          · have e1 : (powF st n).1 = st.1.set n Y := by
              show st.1.set n (powOne (st.1.getD n sec0) (keepOf st.2).1) = _
              rw [HX.out, KO.out, HYY.out]
            rw [e1]; exact DI6.out
          · have e2 : (powF st n).2 = (keepOf st.2).2 := rfl
            rw [e2, KO2.out]; exact F6.out
        case measure => simp [intOf]; omega
      · rw [h4] at ht
        go_wp2_with fail
        have hcp := cp_eq (w := w4.drew) (X := X) (bs := bs) (n := n) (K := 0) HXO.out (by omega) (DI4.out.safe.at_ n x HXS.out) TX4.out
        simp only [Nat.add_zero, Nat.sub_zero] at hcp
        have ko : keepOf st.2 = (0, (take1 st.2).2) := by unfold keepOf; rw [QQ.out, if_neg (by omega), if_neg (by omega)]
        have KO : Hid ((keepOf st.2).1 = 0) := by rw [ko]; exact Lib.hid rfl
        have KO2 : Hid ((keepOf st.2).2 = (take1 st.2).2) := by rw [ko]; exact Lib.hid rfl
        clear ko ht
        have p00 : w4.cell? ⟨d, 0, none⟩ = some (.slice (some ⟨bs, 0, none⟩) st.1.length cap) := DI4.out.ptr 0
        have nn0 : (0 : Int) ≤ (n : Int) := by omega
        have nn1 : (n : Int) < (st.1.length : Int) := by omega
        have k5 : Kept (fun j => j = X) w4 (w4.drew.setCells X (0) (encB (x.safe.drop (0)))) := (Kept.refl (fun j => j = X) w4).drew.setCells (fun _ => rfl) _ _
        have q00 := (k5.cell (p := ⟨d, 0, none⟩) (by have := DI4.out.box.lt; exact this) (by show ¬ d = X; omega)).trans p00
        have r5 := pow_range (w := w4.drew) HXO.out (K := 0) (by omega) RX4.out TX4.out
        obtain ⟨ds, hds⟩ : ∃ ds, encB (x.safe.drop (0)) = ds := ⟨_, rfl⟩
        rw [hds] at k5 q00 r5 hcp
        have DI5 := Lib.hid (DI4.out.kept k5 (by omega) (by omega) (by omega))
        have F5 := Lib.hid (F4.out.new k5 (by omega))
        have NA5 := Lib.hid (NatsAt.kept NA4.out k5 (fun y hy => by have := NX.out y hy; omega))
        have K5 := Lib.hid ((KB.out.step KB4.out (fq := fun j => j = w.heap.size) (fun i hi q => by omega)).step k5 (fq := fun j => j = X) (fun i hi q => by omega))
        have R5 := Lib.hid r5
        go_region_held3 (fun w' => w'.cell? ⟨d, 0, none⟩ = some (.slice (some ⟨bs, 0, none⟩) st.1.length cap)) (first | exact p00 | exact q00 | go_keep_ranges) (fail)
        clear p00 q00 nn0 nn1 k5 r5 hcp hds
        generalize w4.drew.setCells X (0) ds = w5 at *
        have yok := powOne_ok HXO.out (k := 0) (by omega) XW.out
        have YOK := Lib.hid yok
        obtain ⟨Y, hY⟩ : ∃ Y, powOne x (0) = Y := ⟨_, rfl⟩
        rw [hY] at R5 YOK
        have hYw : Y.waits = true := by rw [← hY]; exact XW.out
        have hYs : Y.safe = x.safe := by rw [← hY]; rfl
        obtain ⟨w6, hup, hm6, hk6, hz6⟩ := (show MapI w5.drew m (waitF st.1) from DI5.out.map).store (P := Try.prog) Try.underlying96 Try.underlying3 n (.agg (secC Y.has))
        have k6 : Kept (fun j => j = m) w5 w6 := ⟨hk6.os, hk6.tape, hk6.output, hk6.size, hk6.block⟩
        have DI6 := Lib.hid (DI5.out.upd hnl hm6 k6 YOK.out hYw (by rw [hYs, HX.out]))
        have hYl := YOK.out.hasL
        obtain ⟨cs, hcs⟩ : ∃ cs, encB Y.has = cs := ⟨_, rfl⟩
        have hsec : secC Y.has = cs.toArray := by unfold secC; rw [hcs]
        have r5 := R5.out
        rw [hcs] at r5
        rw [hsec] at hup
        have hl : cs.length = 256 := by rw [← hcs, encB_len, hYl]
        have hi2 : (Try.prog.info? 100).map (·.size) = some cs.length := by rw [hl]; kernel_rfl
        have hu := Try.underlying100
        have p01 : w5.cell? ⟨d, 1, none⟩ = some (.map (some m)) := DI5.out.ptr 1
        have q01 := (k6.cell (p := ⟨d, 1, none⟩) (by have := DI5.out.box.lt; exact this) (fun q => H.out.ne1 q.symm)).trans p01
        have hXm : ¬ X = m := by omega
        have r6 := rangeAt_kept r5 k6 (World.block_lt_of_cell? w5 _ (r5 0 _ (List.getElem?_eq_getElem (by omega)))) hXm
        have F6 := Lib.hid (F5.out.map DI5.out.map k6)
        have NA6 := Lib.hid (NatsAt.kept' NA5.out k6 (nats_ne_map NA5.out DI5.out.map))
        have K6 := Lib.hid (K5.out.step k6 (fq := fun j => j = m) (fun i hi q => .inr (.inr q)))
        have HYY := Lib.hid hY
        clear hm6 hk6 hz6 k6 hY hYw hYs hYl hcs hsec hXm yok
        go_wp2_with fail
        go_region_held3 (fun w' => w'.cell? ⟨d, 1, none⟩ = some (.map (some m)) ∧ w'.rangeAt X 0 cs) (first | exact ⟨p01, r5⟩ | exact ⟨q01, r6⟩ | go_keep_ranges) (fail)
        go_wp2_with fail
        go_roundw
        case rel =>
          refine ⟨i + 1, powF st n, by go_num, by omega, ?_, HPI.out.step HW0.out, ?_, ?_, NA6.out, K6.out⟩
          · rw [take_succ_of HXI.out, List.foldl_append, ← HST.out]; rfl
          · have e1 : (powF st n).1 = st.1.set n Y := by
              show st.1.set n (powOne (st.1.getD n sec0) (keepOf st.2).1) = _
              rw [HX.out, KO.out, HYY.out]
            rw [e1]; exact DI6.out
          · have e2 : (powF st n).2 = (keepOf st.2).2 := rfl
            rw [e2, KO2.out]; exact F6.out
        case measure => simp [intOf]; omega
      · rw [h4] at ht
        go_wp2_with fail
        have hcp := fun (p1 p2 : Option Addr) => run_copy_none (P := Try.prog) w4.drew 24 24 3 5 p1 p2 0 0 0 0 Try.underlying24 (by kernel_rfl) rfl
        have ko : keepOf st.2 = (256, (take1 st.2).2) := by unfold keepOf; rw [QQ.out, if_pos (by omega)]
        have KO : Hid ((keepOf st.2).1 = 256) := by rw [ko]; exact Lib.hid rfl
        have KO2 : Hid ((keepOf st.2).2 = (take1 st.2).2) := by rw [ko]; exact Lib.hid rfl
        clear ko ht
        have eW : w4.drew.setCells X 256 (encB (x.safe.drop 256)) = w4.drew := by
          rw [List.drop_eq_nil_of_le (by rw [HXO.out.safeL]; exact Nat.le_refl _)]; rfl
        have p00 : w4.cell? ⟨d, 0, none⟩ = some (.slice (some ⟨bs, 0, none⟩) st.1.length cap) := DI4.out.ptr 0
        have nn0 : (0 : Int) ≤ (n : Int) := by omega
        have nn1 : (n : Int) < (st.1.length : Int) := by omega
        have k5 : Same w4 w4.drew := (Kept.refl _ w4).drew
        have r5 := pow_range (w := w4.drew) HXO.out (K := 256) (by omega) RX4.out TX4.out
        rw [eW] at r5
        have DI5 := Lib.hid (DI4.out.same k5)
        have F5 := Lib.hid (F4.out.same k5)
        have NA5 := Lib.hid (NA4.out.same k5)
        have K5 := Lib.hid ((KB.out.step KB4.out (fq := fun j => j = w.heap.size) (fun i hi q => by omega)).step k5 (fq := fun _ => False) (fun i hi q => q.elim))
        have R5 := Lib.hid r5
        go_region_held3 (fun w' => w'.cell? ⟨d, 0, none⟩ = some (.slice (some ⟨bs, 0, none⟩) st.1.length cap)) (first | exact p00 | go_keep_ranges) (fail)
        clear p00 nn0 nn1 k5 r5 hcp eW
        generalize w4.drew = w5 at *
        have yok := powOne_ok HXO.out (k := 256) (by omega) XW.out
        have YOK := Lib.hid yok
        obtain ⟨Y, hY⟩ : ∃ Y, powOne x (256) = Y := ⟨_, rfl⟩
        rw [hY] at R5 YOK
        have hYw : Y.waits = true := by rw [← hY]; exact XW.out
        have hYs : Y.safe = x.safe := by rw [← hY]; rfl
        obtain ⟨w6, hup, hm6, hk6, hz6⟩ := (show MapI w5.drew m (waitF st.1) from DI5.out.map).store (P := Try.prog) Try.underlying96 Try.underlying3 n (.agg (secC Y.has))
        have k6 : Kept (fun j => j = m) w5 w6 := ⟨hk6.os, hk6.tape, hk6.output, hk6.size, hk6.block⟩
        have DI6 := Lib.hid (DI5.out.upd hnl hm6 k6 YOK.out hYw (by rw [hYs, HX.out]))
        have hYl := YOK.out.hasL
        obtain ⟨cs, hcs⟩ : ∃ cs, encB Y.has = cs := ⟨_, rfl⟩
        have hsec : secC Y.has = cs.toArray := by unfold secC; rw [hcs]
        have r5 := R5.out
        rw [hcs] at r5
        rw [hsec] at hup
        have hl : cs.length = 256 := by rw [← hcs, encB_len, hYl]
        have hi2 : (Try.prog.info? 100).map (·.size) = some cs.length := by rw [hl]; kernel_rfl
        have hu := Try.underlying100
        have p01 : w5.cell? ⟨d, 1, none⟩ = some (.map (some m)) := DI5.out.ptr 1
        have q01 := (k6.cell (p := ⟨d, 1, none⟩) (by have := DI5.out.box.lt; exact this) (fun q => H.out.ne1 q.symm)).trans p01
        have hXm : ¬ X = m := by omega
        have r6 := rangeAt_kept r5 k6 (World.block_lt_of_cell? w5 _ (r5 0 _ (List.getElem?_eq_getElem (by omega)))) hXm
        have F6 := Lib.hid (F5.out.map DI5.out.map k6)
        have NA6 := Lib.hid (NatsAt.kept' NA5.out k6 (nats_ne_map NA5.out DI5.out.map))
        have K6 := Lib.hid (K5.out.step k6 (fq := fun j => j = m) (fun i hi q => .inr (.inr q)))
        have HYY := Lib.hid hY
        clear hm6 hk6 hz6 k6 hY hYw hYs hYl hcs hsec hXm yok
        go_wp2_with fail
        go_region_held3 (fun w' => w'.cell? ⟨d, 1, none⟩ = some (.map (some m)) ∧ w'.rangeAt X 0 cs) (first | exact ⟨p01, r5⟩ | exact ⟨q01, r6⟩ | go_keep_ranges) (fail)
        go_wp2_with fail
        go_roundw
        case rel =>
          refine ⟨i + 1, powF st n, by go_num, by omega, ?_, HPI.out.step HW0.out, ?_, ?_, NA6.out, K6.out⟩
          · rw [take_succ_of HXI.out, List.foldl_append, ← HST.out]; rfl
          · have e1 : (powF st n).1 = st.1.set n Y := by
              show st.1.set n (powOne (st.1.getD n sec0) (keepOf st.2).1) = _
              rw [HX.out, KO.out, HYY.out]
            rw [e1]; exact DI6.out
          · have e2 : (powF st n).2 = (keepOf st.2).2 := rfl
            rw [e2, KO2.out]; exact F6.out
        case measure => simp [intOf]; omega
      · rw [h4] at ht
        go_wp2_with fail
        refine (fates_next F4.out hB1).mono ?_
        rintro e w6 ⟨rfl, F6, k6⟩
        have hK := (take1_bts hB1).1
        obtain ⟨K, hKK⟩ : ∃ K, (take1 (take1 st.2).2).1 = K := ⟨_, rfl⟩
        rw [hKK] at hK ⊢
        have DI6 := Lib.hid (DI4.out.kept k6 (by omega) (by omega) (by omega))
        have NA6 := Lib.hid (NatsAt.kept NA4.out k6 (fun x hx => by have := FAR.out x hx; have := ZZ.out; omega))
        have TX6 := Lib.hid (there_kept TX4.out k6 (by have := ZX.out; have := Z4.out; omega) (by omega))
        have RX6 := Lib.hid (rangeAt_kept RX4.out k6 (by have := ZX.out; have := Z4.out; omega) (by omega))
        have KB6 := Lib.hid (KB4.out.trans k6)
        have F6 := Lib.hid F6
        clear k6 DI4 NA4 TX4 RX4 KB4 F4 ht Z4
        have DI4 := DI6; have NA4 := NA6; have TX4 := TX6; have RX4 := RX6; have KB4 := KB6; have F4 := F6
        clear DI6 NA6 TX6 RX6 KB6 F6
        generalize w6 = w4 at *
        have hcp := cp_eq (w := w4.drew) (X := X) (bs := bs) (n := n) (K := K) HXO.out (by omega) (DI4.out.safe.at_ n x HXS.out) TX4.out
        have ko : keepOf st.2 = take1 (take1 st.2).2 := by unfold keepOf; rw [QQ.out, if_neg (by omega), if_pos (by omega)]
        have KO : Hid ((keepOf st.2).1 = K) := by rw [ko]; exact Lib.hid hKK
        have KO2 : Hid ((keepOf st.2).2 = (take1 (take1 st.2).2).2) := by rw [ko]; exact Lib.hid rfl
        clear ko hKK
        have hk1 : (K : Int) ≤ 256 := by omega
        have hk0 : (0 : Int) ≤ (K : Int) := by omega
        have hk2 : ¬ (256 - K = 0) := by omega
        go_wp2_with fail
        have p00 : w4.cell? ⟨d, 0, none⟩ = some (.slice (some ⟨bs, 0, none⟩) st.1.length cap) := DI4.out.ptr 0
        have nn0 : (0 : Int) ≤ (n : Int) := by omega
        have nn1 : (n : Int) < (st.1.length : Int) := by omega
        have k5 : Kept (fun j => j = X) w4 (w4.drew.setCells X (K) (encB (x.safe.drop (K)))) := (Kept.refl (fun j => j = X) w4).drew.setCells (fun _ => rfl) _ _
        have q00 := (k5.cell (p := ⟨d, 0, none⟩) (by have := DI4.out.box.lt; exact this) (by show ¬ d = X; omega)).trans p00
        have r5 := pow_range (w := w4.drew) HXO.out (K := K) (by omega) RX4.out TX4.out
        obtain ⟨ds, hds⟩ : ∃ ds, encB (x.safe.drop (K)) = ds := ⟨_, rfl⟩
        rw [hds] at k5 q00 r5 hcp
        have DI5 := Lib.hid (DI4.out.kept k5 (by omega) (by omega) (by omega))
        have F5 := Lib.hid (F4.out.new k5 (by omega))
        have NA5 := Lib.hid (NatsAt.kept NA4.out k5 (fun y hy => by have := NX.out y hy; omega))
        have K5 := Lib.hid ((KB.out.step KB4.out (fq := fun j => j = w.heap.size) (fun i hi q => by omega)).step k5 (fq := fun j => j = X) (fun i hi q => by omega))
        have R5 := Lib.hid r5
        go_region_held3 (fun w' => w'.cell? ⟨d, 0, none⟩ = some (.slice (some ⟨bs, 0, none⟩) st.1.length cap)) (first | exact p00 | exact q00 | go_keep_ranges) (fail)
        clear p00 q00 nn0 nn1 k5 r5 hcp hds
        generalize w4.drew.setCells X (K) ds = w5 at *
        have yok := powOne_ok HXO.out (k := K) (by omega) XW.out
        have YOK := Lib.hid yok
        obtain ⟨Y, hY⟩ : ∃ Y, powOne x (K) = Y := ⟨_, rfl⟩
        rw [hY] at R5 YOK
        have hYw : Y.waits = true := by rw [← hY]; exact XW.out
        have hYs : Y.safe = x.safe := by rw [← hY]; rfl
        obtain ⟨w6, hup, hm6, hk6, hz6⟩ := (show MapI w5.drew m (waitF st.1) from DI5.out.map).store (P := Try.prog) Try.underlying96 Try.underlying3 n (.agg (secC Y.has))
        have k6 : Kept (fun j => j = m) w5 w6 := ⟨hk6.os, hk6.tape, hk6.output, hk6.size, hk6.block⟩
        have DI6 := Lib.hid (DI5.out.upd hnl hm6 k6 YOK.out hYw (by rw [hYs, HX.out]))
        have hYl := YOK.out.hasL
        obtain ⟨cs, hcs⟩ : ∃ cs, encB Y.has = cs := ⟨_, rfl⟩
        have hsec : secC Y.has = cs.toArray := by unfold secC; rw [hcs]
        have r5 := R5.out
        rw [hcs] at r5
        rw [hsec] at hup
        have hl : cs.length = 256 := by rw [← hcs, encB_len, hYl]
        have hi2 : (Try.prog.info? 100).map (·.size) = some cs.length := by rw [hl]; kernel_rfl
        have hu := Try.underlying100
        have p01 : w5.cell? ⟨d, 1, none⟩ = some (.map (some m)) := DI5.out.ptr 1
        have q01 := (k6.cell (p := ⟨d, 1, none⟩) (by have := DI5.out.box.lt; exact this) (fun q => H.out.ne1 q.symm)).trans p01
        have hXm : ¬ X = m := by omega
        have r6 := rangeAt_kept r5 k6 (World.block_lt_of_cell? w5 _ (r5 0 _ (List.getElem?_eq_getElem (by omega)))) hXm
        have F6 := Lib.hid (F5.out.map DI5.out.map k6)
        have NA6 := Lib.hid (NatsAt.kept' NA5.out k6 (nats_ne_map NA5.out DI5.out.map))
        have K6 := Lib.hid (K5.out.step k6 (fq := fun j => j = m) (fun i hi q => .inr (.inr q)))
        have HYY := Lib.hid hY
        clear hm6 hk6 hz6 k6 hY hYw hYs hYl hcs hsec hXm yok
        go_wp2_with fail
        go_region_held3 (fun w' => w'.cell? ⟨d, 1, none⟩ = some (.map (some m)) ∧ w'.rangeAt X 0 cs) (first | exact ⟨p01, r5⟩ | exact ⟨q01, r6⟩ | go_keep_ranges) (fail)
        go_wp2_with fail
        go_roundw
        case rel =>
          refine ⟨i + 1, powF st n, by go_num, by omega, ?_, HPI.out.step HW0.out, ?_, ?_, NA6.out, K6.out⟩
          · rw [take_succ_of HXI.out, List.foldl_append, ← HST.out]; rfl
          · have e1 : (powF st n).1 = st.1.set n Y := by
              show st.1.set n (powOne (st.1.getD n sec0) (keepOf st.2).1) = _
              rw [HX.out, KO.out, HYY.out]
            rw [e1]; exact DI6.out
          · have e2 : (powF st n).2 = (keepOf st.2).2 := rfl
            rw [e2, KO2.out]; exact F6.out
        case measure => simp [intOf]; omega
    · have hend : i = wl := by omega
      subst hend
      have hst2 : st = (waitsOf D.s).foldl powF (D.s, f) := by rw [hst, hwl.out, List.take_length]
      have DI := Lib.hid hdi; have HK := Lib.hid hk; have HPI := Lib.hid hpi; have HST := Lib.hid hst2
      have SE := Lib.hid (sd_settle hdi)
      clear hst hdi hfa hna hk hpi hst2 hwat p0
      go_wp2_with fail
      refine SE.out.mono ?_
      rintro e w5 ⟨rfl, h5, k5⟩
      have p5 := h5.ptr
      have f5 := h5.box.free
      simp only [cellsD] at p5
      have H5 := Lib.hid h5
      have K5 := Lib.hid k5
      clear h5 k5 SE
      go_wp2_with fail
      go_end0
      have k6 := ((Kept.refl (fun j => j = d) w5).setG 2 (.bool false)).setG 5 (.bool false) |>.setG 4 (.int .i64 (-1))
      have e1 : powerD D f = ⟨settle st.1, false, D.calls, -1, false⟩ := by unfold powerD powS; rw [HST.out]
      rw [e1]
      refine ⟨rfl, ⟨((H5.out.box.set 2 _).set 5 _).set 4 _, H5.out.safe.kept k6 (fun q => H.out.apart q.symm), H5.out.map.kept k6 (fun q => H.out.ne1 q), H.out.apart, H.out.nm, ⟨H5.out.ok.secs, H5.out.ok.few, by dsimp only; omega, H5.out.ok.cal⟩, H5.out.cap⟩, (HK.out.trans K5.out).trans (k6.mono (fun _ _ q => .inl q))⟩
end Go.Proofs.Ytlmpkonfclnceaa
