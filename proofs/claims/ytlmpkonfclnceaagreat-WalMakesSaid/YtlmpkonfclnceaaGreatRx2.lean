/- The document's log: Add. -/
import Derived.Test.YtlmpkonfclnceaaGreatRx1
import Derived.Deep.Cut
import Derived.Lib.QuietBelow
import Derived.Deep.QuietTactic
import Derived.BigQuiet
namespace Go.Proofs.YtlmpkonfclnceaaGreat
open Go.RowKit Go.Sort

theorem Blk.set13 {w : World} {b : Nat} {v0 v1 v2 v3 v4 v5 v6 v7 v8 v9 v10 v11 v12 u0 u1 u2 u3 u4 u5 u6 u7 u8 u9 u10 u11 u12 : Value} {t : TypeId} (h : Blk w b #[v0, v1, v2, v3, v4, v5, v6, v7, v8, v9, v10, v11, v12] t) :
    Blk (((((((((((((w.setCell ⟨b, 0, none⟩ u0).setCell ⟨b, 1, none⟩ u1).setCell ⟨b, 2, none⟩ u2).setCell ⟨b, 3, none⟩ u3).setCell ⟨b, 4, none⟩ u4).setCell ⟨b, 5, none⟩ u5).setCell ⟨b, 6, none⟩ u6).setCell ⟨b, 7, none⟩ u7).setCell ⟨b, 8, none⟩ u8).setCell ⟨b, 9, none⟩ u9).setCell ⟨b, 10, none⟩ u10).setCell ⟨b, 11, none⟩ u11).setCell ⟨b, 12, none⟩ u12) b #[u0, u1, u2, u3, u4, u5, u6, u7, u8, u9, u10, u11, u12] t := by
  have h0 : Blk _ b #[u0, v1, v2, v3, v4, v5, v6, v7, v8, v9, v10, v11, v12] t := h.set 0 u0
  have h1 : Blk _ b #[u0, u1, v2, v3, v4, v5, v6, v7, v8, v9, v10, v11, v12] t := h0.set 1 u1
  have h2 : Blk _ b #[u0, u1, u2, v3, v4, v5, v6, v7, v8, v9, v10, v11, v12] t := h1.set 2 u2
  have h3 : Blk _ b #[u0, u1, u2, u3, v4, v5, v6, v7, v8, v9, v10, v11, v12] t := h2.set 3 u3
  have h4 : Blk _ b #[u0, u1, u2, u3, u4, v5, v6, v7, v8, v9, v10, v11, v12] t := h3.set 4 u4
  have h5 : Blk _ b #[u0, u1, u2, u3, u4, u5, v6, v7, v8, v9, v10, v11, v12] t := h4.set 5 u5
  have h6 : Blk _ b #[u0, u1, u2, u3, u4, u5, u6, v7, v8, v9, v10, v11, v12] t := h5.set 6 u6
  have h7 : Blk _ b #[u0, u1, u2, u3, u4, u5, u6, u7, v8, v9, v10, v11, v12] t := h6.set 7 u7
  have h8 : Blk _ b #[u0, u1, u2, u3, u4, u5, u6, u7, u8, v9, v10, v11, v12] t := h7.set 8 u8
  have h9 : Blk _ b #[u0, u1, u2, u3, u4, u5, u6, u7, u8, u9, v10, v11, v12] t := h8.set 9 u9
  have h10 : Blk _ b #[u0, u1, u2, u3, u4, u5, u6, u7, u8, u9, u10, v11, v12] t := h9.set 10 u10
  have h11 : Blk _ b #[u0, u1, u2, u3, u4, u5, u6, u7, u8, u9, u10, u11, v12] t := h10.set 11 u11
  have h12 : Blk _ b #[u0, u1, u2, u3, u4, u5, u6, u7, u8, u9, u10, u11, u12] t := h11.set 12 u12
  exact h12
section
attribute [local go_sem ↓] exec_app semAt_app
attribute [local go_sem] isApp_lit appA appX
set_option maxRecDepth 100000 in
set_option maxHeartbeats 1600000 in
theorem rx_add {w : World} {P : Nat → Prop} {a : Option Addr} {c : Nat} {D : Dsk} {L : Lg} {N : Nat} {ha : Option Addr} {hc : Nat} {wa : Option Addr} {wc : Nat} (hP : ∀ j, w.heap.size ≤ j → P j) (h : RLog w P a D L ha hc wa wc) (hok : LOK L N) (s : List Nat) (hs : s.length ≤ 1000000) :
    Calls Tryz.prog 35 #[.agg (lgV a c D L ha hc wa wc), .string (strN s)] w fun r w' => (∃ ha' hc' wa' wc', r = .returned (.tuple #[.agg (lgV a c D (addL L s) ha' hc' wa' wc'), .int .i64 (addE L s : Nat)]) ∧ RLog w' P a D (addL L s) ha' hc' wa' wc') ∧ Same w w' := by
  have HI := Lib.hid h
  have HP := Lib.hid hP
  have hwl := hok.wl
  have hz := strN_len s
  obtain ⟨E, hE⟩ : ∃ E, addE L s = E := ⟨_, rfl⟩
  obtain ⟨L', hL⟩ : ∃ L', addL L s = L' := ⟨_, rfl⟩
  have hL' : L' = if E = 0 then { L with wait := L.wait ++ [s] } else L := by rw [← hL]; unfold addL; rw [hE]
  rw [hE, hL]
  have HE := Lib.hid hE; have HL := Lib.hid hL'
  have hac := hok.atc
  have hcn := hok.cnt
  clear h hP hE hL hL' hok
  unfold lgV
  go_enter Tryz.func35, Tryz.ntmps35
  go_upto_region 2 with fail
  refine cutWl (fun wn => Fr wn [(w.heap.size, #[.slice a D.s.length c, .bool D.off, .int .i64 D.calls, .int .i64 D.after, .bool D.done, .int .i64 (L.first : Nat), .int .i64 (L.count : Nat), .int .i64 (L.epoch : Nat), .int .i64 (L.at_ : Nat), .slice ha L.has.length hc, .slice wa L.wait.length wc, .bool L.closed, .bool L.bad], 48), (w.heap.size + 1, #[.slice none 0 0, .bool false, .int .i64 0, .int .i64 0, .bool false, .int .i64 0, .int .i64 0, .int .i64 0, .int .i64 0, .slice none 0 0, .slice none 0 0, .bool false, .bool false], 48)] ∧ Same w wn) ⟨⟨(Blk.new _ _ _).alloc _, Blk.new' _ _ _ (by simp), trivial⟩, ((Kept.refl _ _).alloc _).alloc _⟩ ?_
  rintro W ⟨hfr, hk⟩
  obtain ⟨p0, f0, p1, f1, -⟩ := hfr.rules
  have z0 := hfr.1.lt
  have z1 := hfr.2.1.lt
  obtain ⟨v5, w5, hr5, o5, k5⟩ := txts_append (w := W) (OwnE.nil W W.heap.size 9) (Nat.le_refl _) wa L.wait.length wc L.wait rfl (HI.out.wt.same hk) HI.out.wnil (by simp; omega)
  rw [List.nil_append] at o5
  have k5' : Same W w5 := k5.mono (fun j _ q => by simp [Value.ownBlock] at q)
  obtain ⟨a5, l5, c5, rfl, hl5, hn5, ha5, hc5⟩ := OwnE.rd o5
  obtain ⟨v6, w6, hr6, o6, k6, -⟩ := txts_push o5 k5'.size s (by omega)
  have k6' : Same W w6 := k5'.step k6 (fun j hj q => by have := (o5.far j q).1; omega)
  obtain ⟨a6, l6, c6, rfl, hl6, hn6, ha6, hc6⟩ := OwnE.rd o6
  have F6 := Lib.hid (hfr.same k6')
  have K6 := Lib.hid (hk.trans k6')
  have O6 := Lib.hid o6
  obtain ⟨aok5, aV5, aW5⟩ := app_of hr5
  obtain ⟨aok6, aV6, aW6⟩ := app_of hr6
  obtain ⟨r0, s0, r1, s1, -⟩ := F6.out.rules
  have y0 := F6.out.1.lt
  have y1 := F6.out.2.1.lt
  clear hfr hk hr5 hr6 o5 o6 k5 k5' k6 k6' ha5
  by_cases hb : L.bad = true
  · have e1 : E = 11 := by rw [← HE.out]; unfold addE aliveE; rw [hb]; rfl
    subst e1
    have e2 : L' = L := HL.out
    subst e2
    rw [hb] at p0 r0 F6 ⊢
    go_wp2_with fail
    refine bodyPost_ret (results_two_tmp rfl _ _ (w.heap.size + 1) _ _ _ rfl (Blk.set13 F6.out.2.1) Tryz.underlying48 rfl (by kernel_rfl)) rfl ?_
    refine ⟨⟨ha, hc, wa, wc, rfl, HI.out.same ?_⟩, ?_⟩ <;> (repeat (first | with_reducible exact K6.out | with_reducible refine Kept.setNew ?_ (by dsimp only; omega) _))
  have hb' : L.bad = false := by cases h : L.bad with | false => rfl | true => exact absurd h hb
  rw [hb'] at p0 r0 F6 ⊢
  by_cases hcl : L.closed = true
  · have e1 : E = 11 := by rw [← HE.out]; unfold addE aliveE; rw [hcl, hb']; rfl
    subst e1
    have e2 : L' = L := HL.out
    subst e2
    rw [hcl] at p0 r0 F6 ⊢
    go_wp2_with fail
    refine bodyPost_ret (results_two_tmp rfl _ _ (w.heap.size + 1) _ _ _ rfl (Blk.set13 F6.out.2.1) Tryz.underlying48 rfl (by kernel_rfl)) rfl ?_
    refine ⟨⟨ha, hc, wa, wc, rfl, HI.out.same ?_⟩, ?_⟩ <;> (repeat (first | with_reducible exact K6.out | with_reducible refine Kept.setNew ?_ (by dsimp only; omega) _))
  have hcl' : L.closed = false := by cases h : L.closed with | false => rfl | true => exact absurd h hcl
  rw [hcl'] at p0 r0 F6 ⊢
  have hal : aliveE L = 0 := by unfold aliveE; rw [hcl', hb']; rfl
  by_cases h8 : 238 < s.length
  · have e1 : E = 5 := by rw [← HE.out]; unfold addE; rw [hal, if_neg (by decide), if_pos h8]
    subst e1
    have e2 : L' = L := HL.out
    subst e2
    have g8 : (238 : Int) < (s.length : Int) := by omega
    go_wp2_with fail
    refine bodyPost_ret (results_two_tmp rfl _ _ (w.heap.size + 1) _ _ _ rfl (Blk.set13 F6.out.2.1) Tryz.underlying48 rfl (by kernel_rfl)) rfl ?_
    refine ⟨⟨ha, hc, wa, wc, rfl, HI.out.same ?_⟩, ?_⟩ <;> (repeat (first | with_reducible exact K6.out | with_reducible refine Kept.setNew ?_ (by dsimp only; omega) _))
  · have g8 : ¬ (238 : Int) < (s.length : Int) := by omega
    have LF := Lib.hid fun w' => rx_left a c D L ha hc wa wc hac hcn w'
    have PT := Lib.hid fun w' (kk : Same w6 w') => rp_parts a6 l6 c6 (L.wait ++ [s]) hl6.out (by have := hl6.out; simp at this; omega) w' (ha6.out.same kk)
    obtain ⟨Q, hQ⟩ : ∃ Q, leftL L = Q := ⟨_, rfl⟩
    obtain ⟨R, hR⟩ : ∃ R, prt (L.wait ++ [s]) = R := ⟨_, rfl⟩
    have e1 : E = if Q < R then 7 else 0 := by rw [← HE.out]; unfold addE; rw [hal, if_neg (by decide), if_neg h8, hQ, hR]
    rw [hQ] at LF
    rw [hR] at PT
    unfold lgV at LF
    rw [hb', hcl'] at LF
    have C1 : Hid (∀ dq os, Calls Tryz.prog 67 #[.slice a6 l6 c6] (grow (redrawn w6 dq) os) fun e w'' => e = .returned (.int .i64 ((R : Nat) : Int)) ∧ ∃ p : Regrown, w'' = grow (redrawn w6 p.d) p.os) := fun dq os => Calls.quiet_sameR (PT.out _ (Kept.of_below (below_regrown w6 dq os)))
    have C2 : Hid (∀ dq os, Calls Tryz.prog 29 #[.agg #[.slice a D.s.length c, .bool D.off, .int .i64 D.calls, .int .i64 D.after, .bool D.done, .int .i64 (L.first : Nat), .int .i64 (L.count : Nat), .int .i64 (L.epoch : Nat), .int .i64 (L.at_ : Nat), .slice ha L.has.length hc, .slice wa L.wait.length wc, .bool false, .bool false]] (grow (redrawn w6 dq) os) fun e w'' => e = .returned (.int .i64 ((Q : Nat) : Int)) ∧ ∃ p : Regrown, w'' = grow (redrawn w6 p.d) p.os) := fun dq os => Calls.quiet_sameR (LF.out _)
    have G0 := fun dq os i => cell_blk (F6.out.1.kept (Kept.of_below (below_regrown w6 dq os)) (fun h => h)) i
    clear hQ hR hal LF PT
    by_cases hq : Q < R
    · rw [if_pos hq] at e1
      subst e1
      have e2 : L' = L := HL.out
      subst e2
      have gq : (Q : Int) < (R : Int) := by omega
      go_wp2_with fail
      refine wp_region_quiet_below (by kernel_rfl) (by kernel_rfl) ?_
      repeat (first | go_big_quiet_step (first | with_reducible exact C1.out _ _ | with_reducible exact C2.out _ _) | quiet_step (first | with_reducible exact C1.out _ _ | with_reducible exact C2.out _ _))
      refine wpQuiet_nil ?_
      intro _ hw'
      obtain ⟨⟨dq, osq⟩, hw''⟩ := hw'
      subst hw''
      have kq := Lib.hid (show Same w6 _ from Kept.of_below (below_regrown w6 dq osq))
      have F7 := Lib.hid (F6.out.same kq.out)
      have K7 := Lib.hid (K6.out.trans kq.out)
      obtain ⟨q0, t0, q1, t1, -⟩ := F7.out.rules
      have x0 := F7.out.1.lt
      have x1 := F7.out.2.1.lt
      go_wp2_with fail
      refine bodyPost_ret (results_two_tmp rfl _ _ (w.heap.size + 1) _ _ _ rfl (Blk.set13 F7.out.2.1) Tryz.underlying48 rfl (by kernel_rfl)) rfl ?_
      refine ⟨⟨ha, hc, wa, wc, rfl, HI.out.same ?_⟩, ?_⟩ <;> (repeat (first | with_reducible exact K7.out | with_reducible refine Kept.setNew ?_ (by dsimp only; omega) _))
    · rw [if_neg hq] at e1
      subst e1
      have e2 : L' = { L with wait := L.wait ++ [s] } := HL.out
      subst e2
      have gq : ¬ (Q : Int) < (R : Int) := by omega
      have HL6 := hl6
      go_wp2_with fail
      refine wp_region_quiet_below (by kernel_rfl) (by kernel_rfl) ?_
      repeat (first | go_big_quiet_step (first | with_reducible exact C1.out _ _ | with_reducible exact C2.out _ _) | quiet_step (first | with_reducible exact C1.out _ _ | with_reducible exact C2.out _ _))
      refine wpQuiet_nil ?_
      intro _ hw'
      obtain ⟨⟨dq, osq⟩, hw''⟩ := hw'
      subst hw''
      have kq := Lib.hid (show Same w6 _ from Kept.of_below (below_regrown w6 dq osq))
      have F7 := Lib.hid (F6.out.same kq.out)
      have K7 := Lib.hid (K6.out.trans kq.out)
      have O7 := Lib.hid (O6.out.same kq.out)
      have hWz : w.heap.size ≤ W.heap.size := by omega
      obtain ⟨q0, t0, q1, t1, -⟩ := F7.out.rules
      have x0 := F7.out.1.lt
      have x1 := F7.out.2.1.lt
      go_wp2_with fail
      refine bodyPost_ret (results_two_tmp rfl _ _ (w.heap.size + 1) _ _ _ rfl (Blk.set13 (F7.out.2.1.other (by dsimp only; omega) _)) Tryz.underlying48 rfl (by kernel_rfl)) rfl ?_
      have A7 := O7.out.at.1
      have A8 := O7.out.atFar
      refine ⟨⟨ha, hc, a6, c6, ?_, ?_⟩, ?_⟩
      · rw [hl6.out, List.length_append]; rfl
      · refine ⟨HI.out.s.kept (fp := fun _ => False) ?_ (.inr (fun _ _ h => h)), HI.out.has.same ?_, HI.out.hnil, A7.kept (fp := fun j => j = w.heap.size ∨ j = w.heap.size + 1) ?_ (fun y hy => ?_), hn6.out, HI.out.pa, HI.out.ph, fun y hy => HP.out _ (Nat.le_trans hWz (A8 y hy)), fun y hy => Nat.lt_of_lt_of_le (HI.out.lh y hy) ?_, fun y hy => Nat.lt_of_lt_of_le (ownT_lt O7.out y hy) ?_⟩
        · (repeat (first | with_reducible exact K7.out | with_reducible refine Kept.setNew ?_ (by dsimp only; omega) _))
        · (repeat (first | with_reducible exact K7.out | with_reducible refine Kept.setNew ?_ (by dsimp only; omega) _))
        · (repeat (first | with_reducible exact Kept.refl _ _ | refine Kept.setCell ?_ (fun _ => by simp) _))
        · have := A8 y hy
          omega
        · refine Kept.size (fp := fun _ => False) ?_
          (repeat (first | with_reducible exact K7.out | with_reducible refine Kept.setNew ?_ (by dsimp only; omega) _))
        · refine Kept.size (fp := fun j => j = w.heap.size ∨ j = w.heap.size + 1) ?_
          (repeat (first | with_reducible exact Kept.refl _ _ | refine Kept.setCell ?_ (fun _ => by simp) _))
      · (repeat (first | with_reducible exact K7.out | with_reducible refine Kept.setNew ?_ (by dsimp only; omega) _))
end
end Go.Proofs.YtlmpkonfclnceaaGreat
