/- A log in memory: Add, Restart. -/
import Derived.Test.YtlmpkonfclnceaaGreatWl2
namespace Go.Proofs.YtlmpkonfclnceaaGreat
open Go.RowKit Go.Sort

/-- A log whose slices lie in such blocks. -/
def LogP (w : World) (g d bs m : Nat) (L : Lg) (P : Nat → Prop) : Prop := ∃ ha hc wa wc, LogIn w g d bs m L ha hc wa wc ∧ (∀ y, ha = some y → P y.block) ∧ (∀ y, wa = some y → P y.block)
theorem LogP.i {w : World} {g d bs m : Nat} {L : Lg} {P : Nat → Prop} (h : LogP w g d bs m L P) : LogI w g d bs m L := by
  obtain ⟨ha, hc, wa, wc, h, _⟩ := h
  exact ⟨ha, hc, wa, wc, h⟩
theorem LogI.p {w : World} {g d bs m : Nat} {L : Lg} (h : LogI w g d bs m L) : LogP w g d bs m L (fun _ => True) := by
  obtain ⟨ha, hc, wa, wc, h⟩ := h
  exact ⟨ha, hc, wa, wc, h, fun _ _ => trivial, fun _ _ => trivial⟩
theorem LogP.mono {w : World} {g d bs m : Nat} {L : Lg} {P Q : Nat → Prop} (h : LogP w g d bs m L P) (hq : ∀ j, j < w.heap.size → P j → Q j) : LogP w g d bs m L Q := by
  obtain ⟨ha, hc, wa, wc, h, h1, h2⟩ := h
  exact ⟨ha, hc, wa, wc, h, fun y hy => hq _ (h.oh y hy).2.2.1 (h1 y hy), fun y hy => hq _ (h.ow y hy).2.2.1 (h2 y hy)⟩
theorem LogP.kept {fp : Nat → Prop} {w w' : World} {g d bs m : Nat} {L : Lg} {P : Nat → Prop} (h : LogP w g d bs m L P) (k : Kept fp w w') (hg : ¬ fp g) (hp : ∀ j, P j → ¬ fp j) : LogP w' g d bs m L P := by
  obtain ⟨ha, hc, wa, wc, h, h1, h2⟩ := h
  exact ⟨ha, hc, wa, wc, ⟨h.box.kept k hg, h.has.kept k (fun y hy => hp _ (h1 y hy)), h.hcap, h.hnil, h.wt.kept k (fun y hy => hp _ (h2 y hy)), h.wcap, h.wnil, h.og,
    fun y hy => ⟨(h.oh y hy).1, (h.oh y hy).2.1, Nat.lt_of_lt_of_le (h.oh y hy).2.2.1 k.size, (h.oh y hy).2.2.2⟩, fun y hy => ⟨(h.ow y hy).1, (h.ow y hy).2.1, Nat.lt_of_lt_of_le (h.ow y hy).2.2.1 k.size, (h.ow y hy).2.2.2⟩⟩, h1, h2⟩
theorem LogP.same {w w' : World} {g d bs m : Nat} {L : Lg} {P : Nat → Prop} (h : LogP w g d bs m L P) (k : Same w w') : LogP w' g d bs m L P := h.kept k (fun h => h) (fun _ _ h => h)
section
attribute [local go_sem ↓] exec_app semAt_app
attribute [local go_sem] isApp_lit appA appX
set_option maxRecDepth 100000 in
set_option maxHeartbeats 800000 in
theorem wl_addP {w : World} {g d bs m : Nat} {L : Lg} {N : Nat} {P : Nat → Prop} (hP : ∀ j, w.heap.size ≤ j → P j) (h : LogP w g d bs m L P) (hd : d < w.heap.size) (hbs : bs < w.heap.size) (hm : m < w.heap.size) (hok : LOK L N) (s : List Nat) (hs : s.length ≤ 1000000) :
    Calls Tryz.prog 17 #[.pointer (some ⟨g, 0, none⟩), .string (strN s)] w fun e w' => e = .returned (.int .i64 (addE L s : Nat)) ∧ LogP w' g d bs m (addL L s) P ∧ Kept (fun j => j = g) w w' := by
  have AL := Lib.hid (wl_alive h.i)
  have HP := Lib.hid hP
  clear hP
  have hsz := strN_len s
  have HI := Lib.hid h
  obtain ⟨E, hE⟩ : ∃ E, aliveE L = E := ⟨_, rfl⟩
  rw [hE] at AL
  by_cases h0 : E = 0
  · subst h0
    by_cases h8 : 238 < s.length
    · have e1 : addE L s = 5 := by unfold addE; rw [hE, if_neg (by decide), if_pos h8]
      have e2 : addL L s = L := by unfold addL; rw [e1]; rfl
      rw [e1, e2]
      have g8 : (238 : Int) < (s.length : Int) := by omega
      clear e1 e2 hE h hok
      go_enter Tryz.func17, Tryz.ntmps17
      go_wp2_with fail
      with_reducible refine AL.out.mono ?_
      rintro r w1 ⟨rfl, rfl⟩
      go_wp2_with fail
      go_ret
      exact ⟨rfl, HI.out, Kept.refl _ _⟩
    · have g8 : ¬ (238 : Int) < (s.length : Int) := by omega
      obtain ⟨ha, hc, wa, wc, hin, hph, hpw⟩ := h
      have PH := Lib.hid hph
      clear hph hpw
      have IN := Lib.hid hin
      have hl6 := hok.wl
      have hcl : L.closed = false := by
        unfold aliveE at hE
        cases hb : L.bad <;> cases hc : L.closed <;> simp [hb, hc] at hE ⊢
      have hlc := hok.atc
      have hlcn := hok.cnt
      have p0 := cell_blk hin.box
      have f0 := fun i => hin.box.free i
      have z0 := hin.box.lt
      simp only [lgC] at p0
      have CLP := Lib.hid fun w' => sl_clip wa L.wait.length wc hin.wcap hin.wnil (by omega) w'
      have kA : Same w (w.alloc (.cells #[.string (strN s)] 9)) := (Kept.refl _ w).alloc _
      have hone : TxtsAt (w.alloc (.cells #[.string (strN s)] 9)) (some ⟨w.heap.size, 0, none⟩) [s] := elsAt_one (E := strE) (x := s) (Blk.new w _ _) rfl
      obtain ⟨v5, w5, hrun, ow5, k5⟩ := clip_append wa L.wait.length L.wait rfl (hin.wt.same kA) (some ⟨w.heap.size, 0, none⟩) 1 1 [s] rfl (by decide) hone (by simp; omega)
      obtain ⟨aok, aV, aW⟩ := app_of hrun
      obtain ⟨a5, l5, c5, rfl, hl5, hn5, ha5, hc5⟩ := OwnE.rd ow5
      have K5 := Lib.hid (kA.trans k5)
      have far5 : ∀ y, a5 = some y → w.heap.size ≤ y.block ∧ y.block < w5.heap.size ∧ ∃ b o, y = ⟨b, o, none⟩ := by
        intro y hy
        have := World.ownsRow.lt ow5 y.block (by rw [hy]; rfl)
        refine ⟨Nat.le_trans (by simp) this.1, this.2, ?_⟩
        rcases ow5.2 with ⟨q, _⟩ | ⟨g', cap, cur, q, _⟩
        · simp at q; rw [q.1] at hy; cases hy
        · simp at q; rw [q.1] at hy; cases hy; exact ⟨_, _, rfl⟩
      have F5 := Lib.hid far5
      have PA := Lib.hid (ws_parts a5 l5 c5 (L.wait ++ [s]) hl5.out hc5.out.1 (by simp; omega) w5 ha5.out)
      have LF := Lib.hid (wl_left (HI.out.i.same K5.out) hlc hlcn)
      have HL5 := hl5
      have HA5 := ha5
      have HN5 := hn5
      have HC5 := hc5
      have bk : ∀ w6, Same w5 w6 → Blk w6 g (lgC d L ha hc wa wc) 79 := fun w6 k6 => IN.out.box.kept (K5.out.trans k6) (fun h => h)
      have BK := Lib.hid bk
      have hpb : prt (L.wait ++ [s]) ≤ 1000000 := Nat.le_trans (prt_le _) (by simp; omega)
      have hlb : leftL L ≤ 256 := by unfold leftL; rw [hcl]; simp; omega
      obtain ⟨P, hP⟩ : ∃ P, prt (L.wait ++ [s]) = P := ⟨_, rfl⟩
      obtain ⟨Q, hQ⟩ : ∃ Q, leftL L = Q := ⟨_, rfl⟩
      rw [hP] at PA hpb
      rw [hQ] at LF hlb
      have e1 : addE L s = if Q < P then 7 else 0 := by unfold addE; rw [hE, if_neg (by decide), if_neg h8, hP, hQ]
      have e2 : addL L s = if Q < P then L else { L with wait := L.wait ++ [s] } := by
        unfold addL
        rw [e1]
        by_cases q : Q < P
        · rw [if_pos q, if_pos q, if_neg (by decide)]
        · rw [if_neg q, if_neg q, if_pos rfl]
      rw [e1, e2]
      clear hrun ow5 k5 kA hone hl5 hn5 ha5 hc5 far5 bk hE hok hin e1 e2 hP hQ hlc hlcn hcl
      by_cases hq : Q < P
      · rw [if_pos hq, if_pos hq]
        have gq : (Q : Int) < (P : Int) := by omega
        go_enter Tryz.func17, Tryz.ntmps17
        go_wp2_with fail
        with_reducible refine AL.out.mono ?_
        rintro r w1 ⟨rfl, rfl⟩
        go_wp2_with fail
        with_reducible refine (CLP.out _).mono ?_
        rintro r w2 ⟨rfl, rfl⟩
        go_wp2_with fail
        with_reducible refine PA.out.mono ?_
        rintro r w3 ⟨rfl, rfl⟩
        go_wp2_with fail
        with_reducible refine LF.out.mono ?_
        rintro r w4 ⟨rfl, k4⟩
        have K4 := Lib.hid (K5.out.trans k4)
        clear k4
        go_wp2_with fail
        go_ret
        exact ⟨rfl, HI.out.same K4.out, K4.out.mono (fun _ _ q => q.elim)⟩
      · rw [if_neg hq, if_neg hq]
        have gq : ¬ (Q : Int) < (P : Int) := by omega
        go_enter Tryz.func17, Tryz.ntmps17
        go_wp2_with fail
        with_reducible refine AL.out.mono ?_
        rintro r w1 ⟨rfl, rfl⟩
        go_wp2_with fail
        with_reducible refine (CLP.out _).mono ?_
        rintro r w2 ⟨rfl, rfl⟩
        go_wp2_with fail
        with_reducible refine PA.out.mono ?_
        rintro r w3 ⟨rfl, rfl⟩
        go_wp2_with fail
        with_reducible refine LF.out.mono ?_
        rintro r w4 ⟨rfl, k4⟩
        have B4 := Lib.hid (BK.out w4 k4)
        have K4 := Lib.hid (K5.out.trans k4)
        have A4 := Lib.hid (HA5.out.same k4)
        have hs4 := k4.size
        clear k4 p0 f0 z0
        have p0 := cell_blk B4.out
        have f0 := fun i => B4.out.free i
        have z0 := B4.out.lt
        simp only [lgC] at p0
        have hl5' := HL5.out
        go_wp2_with fail
        go_ret
        have kK : Kept (fun j => j = g) w4 (w4.setCell ⟨g, 6, none⟩ (.slice a5 (L.wait.length + 1) c5)) := (Kept.refl _ _).setG _ _
        have hIN := IN.out
        have hgl := hIN.box.lt
        refine ⟨rfl, ⟨ha, hc, a5, c5, ⟨?_, (hIN.has.same K4.out).kept kK (fun y hy => (hIN.oh y hy).2.1), hIN.hcap, hIN.hnil, A4.out.kept kK (fun y hy => ?_), ?_, HN5.out, hIN.og, fun y hy => ?_, fun y hy => ?_⟩, PH.out, fun y hy => HP.out _ (F5.out y hy).1⟩, (K4.out.mono (fun _ _ q => q.elim)).trans kK⟩
        · have := B4.out.set 6 (.slice a5 (L.wait.length + 1) c5)
          simpa [lgC] using this
        · have := (F5.out y hy).1
          omega
        · show (L.wait ++ [s]).length ≤ c5
          rw [← HL5.out]
          exact HC5.out.1
        · have q := hIN.oh y hy
          exact ⟨q.1, q.2.1, Nat.lt_of_lt_of_le q.2.2.1 (Nat.le_trans K4.out.size kK.size), q.2.2.2⟩
        · have q := F5.out y hy
          exact ⟨by rintro (z | z | z) <;> omega, by omega, Nat.lt_of_lt_of_le q.2.1 (Nat.le_trans hs4 kK.size), q.2.2⟩
  · have e1 : addE L s = 11 := by unfold addE; rw [hE, if_pos h0]
    have e2 : addL L s = L := by unfold addL; rw [e1]; rfl
    have e3 : E = 11 := by unfold aliveE at hE; split at hE <;> omega
    rw [e1, e2]
    subst e3
    clear e1 e2 hE h hok
    go_enter Tryz.func17, Tryz.ntmps17
    go_wp2_with fail
    with_reducible refine AL.out.mono ?_
    rintro r w1 ⟨rfl, rfl⟩
    go_wp2_with fail
    go_ret
    exact ⟨rfl, HI.out, Kept.refl _ _⟩
theorem wl_add {w : World} {g d bs m : Nat} {L : Lg} {N : Nat} (h : LogI w g d bs m L) (hd : d < w.heap.size) (hbs : bs < w.heap.size) (hm : m < w.heap.size) (hok : LOK L N) (s : List Nat) (hs : s.length ≤ 1000000) :
    Calls Tryz.prog 17 #[.pointer (some ⟨g, 0, none⟩), .string (strN s)] w fun e w' => e = .returned (.int .i64 (addE L s : Nat)) ∧ LogI w' g d bs m (addL L s) ∧ Kept (fun j => j = g) w w' :=
  (wl_addP (fun _ _ => trivial) h.p hd hbs hm hok s hs).mono (by rintro e w' ⟨h1, h2, h3⟩; exact ⟨h1, h2.i, h3⟩)
theorem Blk.set9 {w : World} {b : Nat} {v0 v1 v2 v3 v4 v5 v6 v7 v8 u0 u1 u2 u3 u4 u5 u6 u7 u8 : Value} {t : TypeId} (h : Blk w b #[v0, v1, v2, v3, v4, v5, v6, v7, v8] t) :
    Blk (((((((((w.setCell ⟨b, 0, none⟩ u0).setCell ⟨b, 1, none⟩ u1).setCell ⟨b, 2, none⟩ u2).setCell ⟨b, 3, none⟩ u3).setCell ⟨b, 4, none⟩ u4).setCell ⟨b, 5, none⟩ u5).setCell ⟨b, 6, none⟩ u6).setCell ⟨b, 7, none⟩ u7).setCell ⟨b, 8, none⟩ u8) b #[u0, u1, u2, u3, u4, u5, u6, u7, u8] t := by
  have h0 : Blk _ b #[u0, v1, v2, v3, v4, v5, v6, v7, v8] t := h.set 0 u0
  have h1 : Blk _ b #[u0, u1, v2, v3, v4, v5, v6, v7, v8] t := h0.set 1 u1
  have h2 : Blk _ b #[u0, u1, u2, v3, v4, v5, v6, v7, v8] t := h1.set 2 u2
  have h3 : Blk _ b #[u0, u1, u2, u3, v4, v5, v6, v7, v8] t := h2.set 3 u3
  have h4 : Blk _ b #[u0, u1, u2, u3, u4, v5, v6, v7, v8] t := h3.set 4 u4
  have h5 : Blk _ b #[u0, u1, u2, u3, u4, u5, v6, v7, v8] t := h4.set 5 u5
  have h6 : Blk _ b #[u0, u1, u2, u3, u4, u5, u6, v7, v8] t := h5.set 6 u6
  have h7 : Blk _ b #[u0, u1, u2, u3, u4, u5, u6, u7, v8] t := h6.set 7 u7
  have h8 : Blk _ b #[u0, u1, u2, u3, u4, u5, u6, u7, u8] t := h7.set 8 u8
  exact h8
set_option maxRecDepth 100000 in
set_option maxHeartbeats 800000 in
theorem wl_restartP {w : World} {g d bs m : Nat} {L : Lg} {P : Nat → Prop} (h : LogP w g d bs m L P) (e : Int) :
    Calls Tryz.prog 19 #[.pointer (some ⟨g, 0, none⟩), .int .i64 e] w fun r w' => r = .returned (.int .i64 (restartE L e : Nat)) ∧ LogP w' g d bs m (restartL L e) P ∧ Kept (fun j => j = g) w w' := by
  have HI := Lib.hid h
  obtain ⟨ha, hc, wa, wc, hin, -, -⟩ := h
  have IN := Lib.hid hin
  have p0 := cell_blk hin.box
  have f0 := fun i => hin.box.free i
  have z0 := hin.box.lt
  simp only [lgC] at p0
  clear hin
  cases hb : L.bad
  · rw [hb] at p0
    by_cases h1 : e ≤ (L.epoch : Int)
    · have e1 : restartE L e = 12 := by unfold restartE; rw [hb, if_neg (by decide), if_pos h1]
      have e2 : restartL L e = L := by unfold restartL; rw [e1]; rfl
      rw [e1, e2]
      clear e1 e2
      go_enter Tryz.func19, Tryz.ntmps19
      go_wp2_with fail
      go_ret
      exact ⟨rfl, HI.out, Kept.refl _ _⟩
    by_cases h2 : 1099511627776 < e
    · have e1 : restartE L e = 9 := by unfold restartE; rw [hb, if_neg (by decide), if_neg h1, if_pos h2]
      have e2 : restartL L e = L := by unfold restartL; rw [e1]; rfl
      rw [e1, e2]
      clear e1 e2
      go_enter Tryz.func19, Tryz.ntmps19
      go_wp2_with fail
      go_ret
      exact ⟨rfl, HI.out, Kept.refl _ _⟩
    have e1 : restartE L e = 0 := by unfold restartE; rw [hb, if_neg (by decide), if_neg h1, if_neg h2]
    have e2 : restartL L e = ⟨L.first, L.count, e.toNat, 0, [], [], false, false⟩ := by unfold restartL; rw [if_pos e1]
    rw [e1, e2]
    have e3 : Hid (((e.toNat : Nat) : Int) = e) := by show _ = _; omega
    clear e1 e2
    go_enter Tryz.func19, Tryz.ntmps19
    go_wp2_with fail
    go_ret
    refine ⟨rfl, ⟨none, 0, none, 0, ⟨?_, .inl rfl, Nat.le_refl _, fun _ => rfl, .inl rfl, Nat.le_refl _, fun _ => rfl, IN.out.og, fun y hy => (by cases hy), fun y hy => (by cases hy)⟩, fun y hy => (by cases hy), fun y hy => (by cases hy)⟩, ?_⟩
    · have b0 := IN.out.box
      unfold lgC at b0 ⊢
      simp only [e3.out, List.length_nil, Int.natCast_zero]
      with_reducible exact Blk.set9 b0
    · repeat (first | with_reducible exact Kept.refl _ _ | with_reducible refine Kept.setG ?_ _ _)
  · rw [hb] at p0
    have e1 : restartE L e = 11 := by unfold restartE; rw [hb, if_pos rfl]
    have e2 : restartL L e = L := by unfold restartL; rw [e1]; rfl
    rw [e1, e2]
    clear e1 e2
    go_enter Tryz.func19, Tryz.ntmps19
    go_wp2_with fail
    go_ret
    exact ⟨rfl, HI.out, Kept.refl _ _⟩
theorem wl_restart {w : World} {g d bs m : Nat} {L : Lg} (h : LogI w g d bs m L) (e : Int) :
    Calls Tryz.prog 19 #[.pointer (some ⟨g, 0, none⟩), .int .i64 e] w fun r w' => r = .returned (.int .i64 (restartE L e : Nat)) ∧ LogI w' g d bs m (restartL L e) ∧ Kept (fun j => j = g) w w' :=
  (wl_restartP h.p e).mono (by rintro e w' ⟨h1, h2, h3⟩; exact ⟨h1, h2.i, h3⟩)
end
end Go.Proofs.YtlmpkonfclnceaaGreat
