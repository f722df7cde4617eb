/- A log in memory: write. -/
import Derived.Test.YtlmpkonfclnceaaGreatWl3
import Derived.Defers
namespace Go.Proofs.YtlmpkonfclnceaaGreat
open Go.RowKit Go.Sort

theorem cell_lt {w : World} {p : Addr} {v : Value} (h : w.cell? p = some v) : p.block < w.heap.size := World.block_lt_of_cell? _ _ h
/-- What is deferred: the log is bad, if there was an error. -/
theorem wl_def (rc bx g : Nat) (E : Nat) (u : FrameMode) (w : World) (c1 : w.cell? ⟨bx, 0, none⟩ = some (.pointer (some ⟨g, 0, none⟩))) (c2 : w.cell? ⟨rc, 0, none⟩ = some (.int .i64 (E : Nat))) (c3 : ∃ v, w.cell? ⟨g, 8, none⟩ = some v) (f3 : w.frozen? ⟨g, 8, none⟩ = false) :
    CallsD Tryz.prog 73 #[.pointer (some ⟨rc, 0, none⟩), .pointer (some ⟨bx, 0, none⟩)] u w fun e u' w' => u' = u ∧ (e = .returned (.tuple #[]) ∧ w' = w.setCell ⟨g, 8, none⟩ (.bool (decide (E ≠ 0)))) := by
  obtain ⟨v3, c3⟩ := c3
  by_cases hE : E = 0
  · subst hE
    simp only [Int.natCast_zero] at c2
    go_enter_d Tryz.func73, Tryz.ntmps73
    go_wp2_with fail
    go_end0
    first | exact ⟨rfl, rfl⟩ | simp
  · have hE' : ¬ (E : Int) = 0 := by omega
    have hE2 : ((E : Int) != 0) = true := by simpa using hE'
    rw [decide_eq_true hE]
    go_enter_d Tryz.func73, Tryz.ntmps73
    go_wp2_with fail
    go_end0
    first | exact ⟨rfl, rfl⟩ | simp

theorem take_succ_chunk {cs : List (List Nat)} {i : Nat} {x : List Nat} (h : cs[i]? = some x) : cs.take (i + 1) = cs.take i ++ [x] := by
  rw [List.take_add_one, h]; rfl
/-- One row of bytes, in a slice of one's own. -/
theorem RowsOwn.get {w : World} {base : Nat} {a : Option Addr} {n c : Nat} {cs : List (List Nat)} (h : RowsOwn w base (.slice a n c) cs) {i : Nat} (hi : i < cs.length) :
    ∃ b off ra rn rc x, a = some ⟨b, off, none⟩ ∧ b < w.heap.size ∧ base ≤ b ∧ cs[i]? = some x ∧ w.cell? ⟨b, off + i, none⟩ = some (.slice ra rn rc) ∧ RowOK w (ra, rn, rc) x := by
  obtain ⟨rs, h1, h2, h3⟩ := h
  have hx : cs[i]? = some cs[i] := List.getElem?_eq_getElem hi
  have hr : rs[i]? = some (rs[i]'(by omega)) := List.getElem?_eq_getElem (by omega)
  obtain ⟨p, -⟩ := h3 i _ _ hr hx
  obtain ⟨a', cap, q, hat, -⟩ := h1.els
  simp only [Value.slice.injEq] at q
  obtain ⟨rfl, -, -⟩ := q
  obtain ⟨b, off, rfl, hb⟩ := hat.there (fun e => by rw [e] at h2; simp at h2; omega)
  have hc := hat.get hr 0 (u := .slice (rs[i]'(by omega)).1 (rs[i]'(by omega)).2.1 (rs[i]'(by omega)).2.2) rfl
  have hbb : base ≤ b := (h1.far b rfl).1
  exact ⟨b, off, _, _, _, _, rfl, hb, hbb, hx, by simpa [rowE] using hc, p⟩
theorem results_cell1 {P : Program} {fn : Func} {p : Tmp} {ty : TypeId} (h : fn.results = #[.cell p ty]) (tmps : Array Value) (w : World) (b : Nat) (v : Value) (k : IntKind)
    (hp : tmps.getD p undef = .pointer (some ⟨b, 0, none⟩)) (hu : P.underlying ty = some (.int k)) (hc : w.cell? ⟨b, 0, none⟩ = some v) : (results fn tmps).run P w = .ok v w := by
  have hp' : tmps[p]?.getD undef = .pointer (some ⟨b, 0, none⟩) := by simpa using hp
  simp [results, h, hp', asAddr]
  simp [loadVar, isAgg, run_underlying hu, hc]
set_option maxRecDepth 100000 in
set_option maxHeartbeats 1600000 in
theorem wl_write {w : World} {g d bs cap m : Nat} {D : Dsk} {L : Lg} {P : Nat → Prop} (hd : DiskIn w d bs cap m D) (h : LogP w g d bs m L P) (hfc : L.first ≤ 5000 ∧ L.at_ ≤ 256) (base : Nat) (hbase : ∀ j, base ≤ j → ¬ dod d bs m j) (a : Option Addr) (n c : Nat) (cs : List (List Nat)) (hn : n = cs.length) (hn2 : n ≤ 256) (hcs : ∀ x ∈ cs, Bts x) (hro : RowsOwn w base (.slice a n c) cs) :
    Calls Tryz.prog 47 #[.pointer (some ⟨g, 0, none⟩), .slice a n c] w fun e w' => e = .returned (.int .i64 ((wrSync D (L.first + L.at_) cs).2 : Nat)) ∧ DiskIn w' d bs cap m (wrSync D (L.first + L.at_) cs).1 ∧ LogP w' g d bs m { L with bad := decide ((wrSync D (L.first + L.at_) cs).2 ≠ 0) } P ∧ Kept (fun j => j = g ∨ dod d bs m j) w w' := by
  have hmf : ∀ (fn : Fn) (first cap : Array Value) (w : World), (Instr.makeFunc fn first cap).run Tryz.prog w = .ok (.func fn first cap) w := fun _ _ _ _ => rfl
  have HD := Lib.hid hd
  have HI := Lib.hid h
  have HRO := Lib.hid hro
  have HCS := Lib.hid hcs
  have HN := Lib.hid hn
  have HB := Lib.hid hbase
  have l1 := hd.box.lt; have l2 := hd.safe.lt; have l3 := hd.map.lt
  have lg := h.i.blk
  obtain ⟨ha, hc, wa, wc, hin, hph, hpw⟩ := h
  have IN := Lib.hid hin
  have PH := Lib.hid hph
  have PW := Lib.hid hpw
  obtain ⟨F, hF⟩ : ∃ F, L.first + L.at_ = F := ⟨_, rfl⟩
  obtain ⟨R, hR⟩ : ∃ R, wrSync D F cs = R := ⟨_, rfl⟩
  rw [hF, hR]
  have HR := Lib.hid hR
  have HF := Lib.hid hF
  obtain ⟨hf1, hf2⟩ := hfc
  clear hd hin hro hcs hn hbase hR hF hph hpw
  go_enter_defers Tryz.func47, Tryz.ntmps47
  have F0 : Hid (Fr ((w.alloc (.cells #[.pointer (some ⟨g, 0, none⟩)] 42)).alloc (.cells #[.int .i64 0] 43)) [(w.heap.size, #[.pointer (some ⟨g, 0, none⟩)], 42), (w.heap.size + 1, #[.int .i64 0], 43)]) := ⟨(Blk.new w _ _).alloc _, Blk.new' _ _ _ (by simp), trivial⟩
  have K0 : Hid (Same w ((w.alloc (.cells #[.pointer (some ⟨g, 0, none⟩)] 42)).alloc (.cells #[.int .i64 0] 43))) := ((Kept.refl _ _).alloc _).alloc _
  go_wp2_with fail
  go_loopw [11] (fun t wr => ∃ (i : Nat) (D' : Dsk), t = .int .i64 i ∧ i ≤ n ∧ wrW D F (cs.take i) = (D', 0) ∧ DiskIn wr d bs cap m D' ∧ Fr wr [(w.heap.size, #[.pointer (some ⟨g, 0, none⟩)], 42), (w.heap.size + 1, #[.int .i64 0], 43)] ∧ Kept (dod d bs m) w wr) (fun t _ => n - (intOf t).toNat)
  case atStart => exact ⟨0, D, rfl, by omega, rfl, HD.out.same K0.out, F0.out, K0.out.mono (fun _ _ q => q.elim)⟩
  case round =>
    clear F0 K0
    obtain ⟨i, D', rfl, hi, hwr, hdi, hfr, hk⟩ := hrel
    have WR := Lib.hid hwr; have DI := Lib.hid hdi; have FR := Lib.hid hfr; have K := Lib.hid hk
    obtain ⟨p0, f0, p1, f1, -⟩ := hfr.rules
    have z0 := hfr.1.lt
    have z1 := hfr.2.1.lt
    have q0 := cell_blk (IN.out.box.kept hk IN.out.og)
    simp only [lgC] at q0
    have RW := Lib.hid (HRO.out.kept hk HB.out)
    have hks := hk.size
    clear hwr hdi hfr hk
    by_cases hgo : i < n
    · obtain ⟨rb, ro, ra, rn, rc, x, rfl, hrb, -, hx, hcx, hrow⟩ := RW.out.get (i := i) (by have := HN.out; omega)
      have hst := wrW_snoc_ok D F (cs.take i) x (by rw [WR.out])
      rw [← take_succ_chunk hx, WR.out, List.length_take, show min i cs.length = i from by have := HN.out; omega] at hst
      have hsp : cs = cs.take (i + 1) ++ cs.drop (i + 1) := (List.take_append_drop _ _).symm
      have HSP := Lib.hid hsp
      have eF : ((F + i : Nat) : Int) = (L.first : Int) + (L.at_ : Int) + (i : Int) := by rw [← HF.out]; simp
      have SW := Lib.hid fun w' (kk : Same wr w') => sd_write (DI.out.same kk) ((F + i : Nat) : Int) ra rn rc x hrow.len (HCS.out x (List.mem_of_getElem? hx)) (hrow.at_.same kk)
      obtain ⟨W, hW⟩ : ∃ W, writeD D' ((F + i : Nat) : Int) x = W := ⟨_, rfl⟩
      rw [hW] at hst
      simp only [hW] at SW
      simp only [eF] at SW
      have g1 : (i : Int) < (n : Int) := by omega
      have g0 : (0 : Int) ≤ (i : Int) := by omega
      have ex1 : IntKind.i64.wrap ((L.first : Int) + (L.at_ : Int)) = (L.first : Int) + (L.at_ : Int) := IntWalk.i64_in _ (by omega)
      have ex2 : IntKind.i64.wrap ((L.first : Int) + (L.at_ : Int) + (i : Int)) = (L.first : Int) + (L.at_ : Int) + (i : Int) := IntWalk.i64_in _ (by omega)
      have HST := Lib.hid hst
      have QQ : Hid (∀ w', Same wr w' → ((∀ i, w'.cell? ⟨w.heap.size, i, none⟩ = (#[.pointer (some ⟨g, 0, none⟩)] : Array Value)[i]?) ∧ (∀ i, w'.cell? ⟨g, i, none⟩ = (#[.pointer (some ⟨d, 0, none⟩), .int .i64 (L.first : Nat), .int .i64 (L.count : Nat), .int .i64 (L.epoch : Nat), .int .i64 (L.at_ : Nat), .slice ha L.has.length hc, .slice wa L.wait.length wc, .bool L.closed, .bool L.bad] : Array Value)[i]?))) := by
        intro w' kk
        exact ⟨cell_blk (FR.out.same kk).1, cell_blk (IN.out.box.kept (K.out.trans (kk.mono (fun _ _ q => q.elim))) IN.out.og)⟩
      have KN := Lib.hid (Kept.refl (fun _ => False) wr)
      clear hst hsp hW hx hrow eF
      go_wp2_with fail
      go_region_held3 (fun w' => ((∀ i, w'.cell? ⟨w.heap.size, i, none⟩ = (#[.pointer (some ⟨g, 0, none⟩)] : Array Value)[i]?) ∧ (∀ i, w'.cell? ⟨g, i, none⟩ = (#[.pointer (some ⟨d, 0, none⟩), .int .i64 (L.first : Nat), .int .i64 (L.count : Nat), .int .i64 (L.epoch : Nat), .int .i64 (L.at_ : Nat), .slice ha L.has.length hc, .slice wa L.wait.length wc, .bool L.closed, .bool L.bad] : Array Value)[i]?)))
        ((first | (refine QQ.out _ ?_; (first | with_reducible exact KN.out | with_reducible exact KN.out.drew)) | exact QK.out))
        ((go_at_call 62; refine (SW.out _ (by first | with_reducible exact KN.out | with_reducible exact KN.out.drew)).mono ?_; rintro e w5 ⟨rfl, h5, k5⟩; have H5 := Lib.hid h5; have K5 := Lib.hid (show Kept (dod d bs m) w w5 from (K.out.trans (KN.out.mono (fun _ _ q => q.elim))).trans ⟨k5.os, k5.tape, k5.output, k5.size, k5.block⟩); have FR5 := Lib.hid (show Fr w5 [(w.heap.size, #[.pointer (some ⟨g, 0, none⟩)], 42), (w.heap.size + 1, #[.int .i64 0], 43)] from FR.out.kept (show Kept (dod d bs m) wr w5 from ⟨k5.os, k5.tape, k5.output, k5.size, k5.block⟩) (by intro y hy; simp at hy; rcases hy with rfl | rfl <;> (intro q; rcases q with q | q | q <;> (dsimp only at q; omega)))); have QK : Hid ((∀ i, w5.cell? ⟨w.heap.size, i, none⟩ = (#[.pointer (some ⟨g, 0, none⟩)] : Array Value)[i]?) ∧ (∀ i, w5.cell? ⟨g, i, none⟩ = (#[.pointer (some ⟨d, 0, none⟩), .int .i64 (L.first : Nat), .int .i64 (L.count : Nat), .int .i64 (L.epoch : Nat), .int .i64 (L.at_ : Nat), .slice ha L.has.length hc, .slice wa L.wait.length wc, .bool L.closed, .bool L.bad] : Array Value)[i]?)) := ⟨cell_blk FR5.out.1, cell_blk (IN.out.box.kept K5.out IN.out.og)⟩; clear h5 k5))
      all_goals
        obtain ⟨r0, s0, r1, s1, -⟩ := FR5.out.rules
        have y0 := FR5.out.1.lt
        have y1 := FR5.out.2.1.lt
        clear QQ QK SW RW DI FR K KN p0 f0 p1 f1 z0 z1 q0
        by_cases hw0 : W.2 = 0
        · have HN : Hid (wrW D F (cs.take (i + 1)) = (W.1, 0)) := by show _ = _; rw [HST.out, ← hw0]
          have gw : ((W.2 : Nat) : Int) = 0 := by omega
          clear hw0
          go_wp2_with fail
          go_roundw
          case rel => exact ⟨i + 1, W.1, by go_num, by omega, HN.out, H5.out, FR5.out, K5.out⟩
          case measure => simp [intOf]; omega
        · have HW : Hid (wrW D F cs = W) := by
            show _ = _
            rw [HSP.out, wrW_err _ _ _ _ (by rw [HST.out]; exact hw0), HST.out]
          have HRW : Hid (R = W) := by show _ = _; rw [← HR.out]; unfold wrSync; rw [HW.out, if_neg hw0]
          have gw : ¬ ((W.2 : Nat) : Int) = 0 := by omega
          go_wp2_with fail
          rw [HRW.out]
          have dlt := H5.out.box.lt; have blt := H5.out.safe.lt; have mlt := H5.out.map.lt
          have kz : Kept (fun j => j = w.heap.size + 1) w5 (w5.setCell ⟨w.heap.size + 1, 0, none⟩ (.int .i64 ((W.2 : Nat) : Int))) := (Kept.refl _ _).setG _ _
          have bz : Blk (w5.setCell ⟨w.heap.size + 1, 0, none⟩ (.int .i64 ((W.2 : Nat) : Int))) (w.heap.size + 1) #[.int .i64 ((W.2 : Nat) : Int)] 43 := FR5.out.2.1.set 0 _
          have b0 : Blk (w5.setCell ⟨w.heap.size + 1, 0, none⟩ (.int .i64 ((W.2 : Nat) : Int))) w.heap.size #[.pointer (some ⟨g, 0, none⟩)] 42 := FR5.out.1.kept kz (by omega)
          have bg : Blk (w5.setCell ⟨w.heap.size + 1, 0, none⟩ (.int .i64 ((W.2 : Nat) : Int))) g (lgC d L ha hc wa wc) 79 := (IN.out.box.kept K5.out IN.out.og).kept kz (by omega)
          refine leaves_cons (f := 73) (args := #[.pointer (some ⟨w.heap.size + 1, 0, none⟩), .pointer (some ⟨w.heap.size, 0, none⟩)]) (by simp) (by simp [go_sem]) ?_
          refine (wl_def (w.heap.size + 1) w.heap.size g W.2 .returning _ (cell_blk b0 0) (cell_blk bz 0) ⟨_, cell_blk bg 8⟩ (bg.free 8)).mono ?_
          rintro e u' w9 ⟨rfl, rfl, rfl⟩
          have k9 : Kept (fun j => j = g) (w5.setCell ⟨w.heap.size + 1, 0, none⟩ (.int .i64 ((W.2 : Nat) : Int))) ((w5.setCell ⟨w.heap.size + 1, 0, none⟩ (.int .i64 ((W.2 : Nat) : Int))).setCell ⟨g, 8, none⟩ (.bool (decide (W.2 ≠ 0)))) := (Kept.refl _ _).setG _ _
          refine ⟨_, results_cell1 rfl _ _ (w.heap.size + 1) _ .i64 rfl Tryz.underlying43 (cell_blk (bz.kept k9 (by omega)) 0), ?_⟩
          refine ⟨rfl, (H5.out.kept kz (by omega) (by omega) (by omega)).kept k9 ?_ ?_ ?_, ⟨ha, hc, wa, wc, ⟨?_, ?_, IN.out.hcap, IN.out.hnil, ?_, IN.out.wcap, IN.out.wnil, IN.out.og, ?_, ?_⟩, PH.out, PW.out⟩, ?_⟩
          · intro q; exact IN.out.og (.inl q.symm)
          · intro q; exact IN.out.og (.inr (.inl q.symm))
          · intro q; exact IN.out.og (.inr (.inr q.symm))
          · have := bg.set 8 (.bool (decide (W.2 ≠ 0)))
            simpa [lgC] using this
          · exact ((IN.out.has.kept K5.out (fun y hy => (IN.out.oh y hy).1)).kept kz (fun y hy => by have := (IN.out.oh y hy).2.2.1; omega)).kept k9 (fun y hy => (IN.out.oh y hy).2.1)
          · exact ((IN.out.wt.kept K5.out (fun y hy => (IN.out.ow y hy).1)).kept kz (fun y hy => by have := (IN.out.ow y hy).2.2.1; omega)).kept k9 (fun y hy => (IN.out.ow y hy).2.1)
          · exact fun y hy => ⟨(IN.out.oh y hy).1, (IN.out.oh y hy).2.1, Nat.lt_of_lt_of_le (IN.out.oh y hy).2.2.1 (Nat.le_trans K5.out.size (Nat.le_trans kz.size k9.size)), (IN.out.oh y hy).2.2.2⟩
          · exact fun y hy => ⟨(IN.out.ow y hy).1, (IN.out.ow y hy).2.1, Nat.lt_of_lt_of_le (IN.out.ow y hy).2.2.1 (Nat.le_trans K5.out.size (Nat.le_trans kz.size k9.size)), (IN.out.ow y hy).2.2.2⟩
          · exact ((K5.out.mono (fun _ _ q => .inr q)).step kz (fun i hi q => by omega)).trans (k9.mono (fun _ _ q => .inl q))
    · have hin : i = n := by omega
      have g1 : ¬ (i : Int) < (n : Int) := by omega
      have hw := WR.out
      rw [List.take_of_length_le (by have := HN.out; omega)] at hw
      have hRS : R = syncD D' := by rw [← HR.out]; unfold wrSync; rw [hw, if_pos rfl]
      obtain ⟨W, hW⟩ : ∃ W, syncD D' = W := ⟨_, rfl⟩
      rw [hW] at hRS
      have SY := Lib.hid (sd_sync DI.out)
      rw [hW] at SY
      subst hRS
      clear hw hW WR RW
      go_wp2_with fail
      with_reducible refine SY.out.mono ?_
      rintro e w5 ⟨rfl, h5, k5⟩
      have H5 := Lib.hid h5
      have K5 := Lib.hid (K.out.trans k5)
      have FR5 := Lib.hid (FR.out.kept k5 (by intro y hy; simp at hy; rcases hy with rfl | rfl <;> (intro q; rcases q with q | q | q <;> (dsimp only at q; omega))))
      clear h5 k5 SY DI FR K p0 f0 p1 f1 z0 z1 q0
      obtain ⟨r0, s0, r1, s1, -⟩ := FR5.out.rules
      have y0 := FR5.out.1.lt
      have y1 := FR5.out.2.1.lt
      go_wp2_with fail
      have dlt := H5.out.box.lt; have blt := H5.out.safe.lt; have mlt := H5.out.map.lt
      have kz : Kept (fun j => j = w.heap.size + 1) w5 (w5.setCell ⟨w.heap.size + 1, 0, none⟩ (.int .i64 ((R.2 : Nat) : Int))) := (Kept.refl _ _).setG _ _
      have bz : Blk (w5.setCell ⟨w.heap.size + 1, 0, none⟩ (.int .i64 ((R.2 : Nat) : Int))) (w.heap.size + 1) #[.int .i64 ((R.2 : Nat) : Int)] 43 := FR5.out.2.1.set 0 _
      have b0 : Blk (w5.setCell ⟨w.heap.size + 1, 0, none⟩ (.int .i64 ((R.2 : Nat) : Int))) w.heap.size #[.pointer (some ⟨g, 0, none⟩)] 42 := FR5.out.1.kept kz (by omega)
      have bg : Blk (w5.setCell ⟨w.heap.size + 1, 0, none⟩ (.int .i64 ((R.2 : Nat) : Int))) g (lgC d L ha hc wa wc) 79 := (IN.out.box.kept K5.out IN.out.og).kept kz (by omega)
      refine leaves_cons (f := 73) (args := #[.pointer (some ⟨w.heap.size + 1, 0, none⟩), .pointer (some ⟨w.heap.size, 0, none⟩)]) (by simp) (by simp [go_sem]) ?_
      refine (wl_def (w.heap.size + 1) w.heap.size g R.2 .returning _ (cell_blk b0 0) (cell_blk bz 0) ⟨_, cell_blk bg 8⟩ (bg.free 8)).mono ?_
      rintro e u' w9 ⟨rfl, rfl, rfl⟩
      have k9 : Kept (fun j => j = g) (w5.setCell ⟨w.heap.size + 1, 0, none⟩ (.int .i64 ((R.2 : Nat) : Int))) ((w5.setCell ⟨w.heap.size + 1, 0, none⟩ (.int .i64 ((R.2 : Nat) : Int))).setCell ⟨g, 8, none⟩ (.bool (decide (R.2 ≠ 0)))) := (Kept.refl _ _).setG _ _
      refine ⟨_, results_cell1 rfl _ _ (w.heap.size + 1) _ .i64 rfl Tryz.underlying43 (cell_blk (bz.kept k9 (by omega)) 0), ?_⟩
      refine ⟨rfl, (H5.out.kept kz (by omega) (by omega) (by omega)).kept k9 ?_ ?_ ?_, ⟨ha, hc, wa, wc, ⟨?_, ?_, IN.out.hcap, IN.out.hnil, ?_, IN.out.wcap, IN.out.wnil, IN.out.og, ?_, ?_⟩, PH.out, PW.out⟩, ?_⟩
      · intro q; exact IN.out.og (.inl q.symm)
      · intro q; exact IN.out.og (.inr (.inl q.symm))
      · intro q; exact IN.out.og (.inr (.inr q.symm))
      · have := bg.set 8 (.bool (decide (R.2 ≠ 0)))
        simpa [lgC] using this
      · exact ((IN.out.has.kept K5.out (fun y hy => (IN.out.oh y hy).1)).kept kz (fun y hy => by have := (IN.out.oh y hy).2.2.1; omega)).kept k9 (fun y hy => (IN.out.oh y hy).2.1)
      · exact ((IN.out.wt.kept K5.out (fun y hy => (IN.out.ow y hy).1)).kept kz (fun y hy => by have := (IN.out.ow y hy).2.2.1; omega)).kept k9 (fun y hy => (IN.out.ow y hy).2.1)
      · exact fun y hy => ⟨(IN.out.oh y hy).1, (IN.out.oh y hy).2.1, Nat.lt_of_lt_of_le (IN.out.oh y hy).2.2.1 (Nat.le_trans K5.out.size (Nat.le_trans kz.size k9.size)), (IN.out.oh y hy).2.2.2⟩
      · exact fun y hy => ⟨(IN.out.ow y hy).1, (IN.out.ow y hy).2.1, Nat.lt_of_lt_of_le (IN.out.ow y hy).2.2.1 (Nat.le_trans K5.out.size (Nat.le_trans kz.size k9.size)), (IN.out.ow y hy).2.2.2⟩
      · exact ((K5.out.mono (fun _ _ q => .inr q)).step kz (fun i hi q => by omega)).trans (k9.mono (fun _ _ q => .inl q))
end Go.Proofs.YtlmpkonfclnceaaGreat
