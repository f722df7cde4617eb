/- The document's Overlap. -/
import Derived.Test.YtaeiajodbpgbbaaHv13
namespace Go.Proofs.Ytaeiajodbpgbbaa
open Go.RowKit Go.Sort Go.Shelf

/-- An event's time, in every world of a drawn region's. -/
theorem ev_time {w : World} {b off : Nat} {l : List HEv} (h : ElsAt evE w (some ⟨b, off, none⟩) l) {k : Nat} (hk : k < l.length) (w' : World) (kk : Same w w') : w'.cell? ⟨b, off + k * 6 + 2, none⟩ = some (.int .i64 l[k].t) := by
  obtain ⟨b', off', e, _, hc⟩ := ev_at h hk
  cases e
  exact (hc _ kk).2.2.1
set_option maxRecDepth 100000 in
set_option maxHeartbeats 1600000 in
theorem rf_Overlap (a : Option Addr) (n c : Nat) (l : List HEv) (hn : n = l.length) (hl : n ≤ 1000) (ta tb : Int) (w : World) (hat : ElsAt evE w a l) :
    Calls Try.prog 16 #[.slice a n c, .int .i64 ta, .int .i64 tb] w fun e w' => e = .returned (.bool (ovlB l ta tb)) ∧ Same w w' := by
  have FS := Lib.hid (fun kind id w' (k : Same w w') => rf_first a n c l hn hl kind id w' (hat.same k))
  have HN := Lib.hid hn; have HAT := Lib.hid hat
  obtain ⟨r, hr⟩ : ∃ r, ovlB l ta tb = r := ⟨_, rfl⟩
  have HO := Lib.hid hr
  unfold ovlB at HO
  rw [hr]
  have C1 := Lib.hid (fstI_cases l 0 ta)
  have C2 := Lib.hid (fstI_cases l 0 tb)
  have C3 := Lib.hid (fstI_cases l 3 ta)
  have C4 := Lib.hid (fstI_cases l 3 tb)
  clear hn hat hr
  go_enter Try.func16, Try.ntmps16
  go_wp2_with fail
  have K0 := Lib.hid (Kept.refl (fun _ => False) w)
  refine (FS.out 0 ta _ K0.out).mono ?_
  rintro e w1 ⟨rfl, hw1⟩
  subst hw1
  go_wp2_with fail
  refine (FS.out 0 tb _ K0.out).mono ?_
  rintro e w2 ⟨rfl, hw2⟩
  subst hw2
  go_wp2_with fail
  refine (FS.out 3 ta _ K0.out).mono ?_
  rintro e w3 ⟨rfl, hw3⟩
  subst hw3
  go_wp2_with fail
  refine (FS.out 3 tb _ K0.out).mono ?_
  rintro e wz ⟨rfl, hw4⟩
  subst hw4
  have KZ := K0
  clear FS
  go_upto_region 3 with fail
  by_cases q0 : ta = tb
  · have g0 : (ta != tb) = false := by simp [q0]
    have HR := Lib.hid (show r = false from by rw [← HO.out]; simp [q0])
    clear q0
    clear C1 C2 C3 C4 HO
    go_wp2_with fail
    refine wp_region_quiet_below (by kernel_rfl) (by kernel_rfl) ?_
    repeat (first | go_big_quiet_step (fail) | quiet_step (fail))
    refine wpQuiet_nil ?_
    intro _ hw'
    obtain ⟨⟨dq, osq⟩, hw''⟩ := hw'
    subst hw''
    have kq := Lib.hid (show Same wz _ from Kept.of_below (below_regrown wz dq osq))
    have KQ := Lib.hid (KZ.out.trans kq.out)
    clear kq
    go_wp2_with fail
    go_ret
    exact ⟨by rw [HR.out]; rfl, KQ.out⟩
  · have g0 : (ta != tb) = true := by simp [q0]
    rcases C1.out with ⟨e1, e2⟩ | ⟨k1, hk1, e1, e2⟩
    · have HR := Lib.hid (show r = false from by rw [← HO.out, show fstB l 0 ta = false from by unfold fstB; rw [e2]; rfl]; simp)
      rw [e1]
      clear e1 e2 q0
      clear C1 C2 C3 C4 HO
      go_wp2_with fail
      refine wp_region_quiet_below (by kernel_rfl) (by kernel_rfl) ?_
      repeat (first | go_big_quiet_step (fail) | quiet_step (fail))
      refine wpQuiet_nil ?_
      intro _ hw'
      obtain ⟨⟨dq, osq⟩, hw''⟩ := hw'
      subst hw''
      have kq := Lib.hid (show Same wz _ from Kept.of_below (below_regrown wz dq osq))
      have KQ := Lib.hid (KZ.out.trans kq.out)
      clear kq
      go_wp2_with fail
      go_ret
      exact ⟨by rw [HR.out]; rfl, KQ.out⟩
    · rw [e1]
      obtain ⟨x1, hx1⟩ : ∃ x, l[k1] = x := ⟨_, rfl⟩
      have Bk1 := Lib.hid (show fstB l 0 ta = true from by unfold fstB; rw [e2]; rfl)
      have Ek1 := Lib.hid (show fstE l 0 ta = x1 from by unfold fstE; rw [e2, ← hx1]; rfl)
      have Xk1 := Lib.hid hx1
      have dk1 : decide ((0 : Int) ≤ (k1 : Int)) = true := decide_eq_true (by omega)
      clear e1 e2 hx1
      rcases C2.out with ⟨e1, e2⟩ | ⟨k2, hk2, e1, e2⟩
      · have HR := Lib.hid (show r = false from by rw [← HO.out, show fstB l 0 tb = false from by unfold fstB; rw [e2]; rfl]; simp)
        rw [e1]
        clear e1 e2 q0
        clear C1 C2 C3 C4 HO
        go_wp2_with fail
        refine wp_region_quiet_below (by kernel_rfl) (by kernel_rfl) ?_
        repeat (first | go_big_quiet_step (fail) | quiet_step (fail))
        refine wpQuiet_nil ?_
        intro _ hw'
        obtain ⟨⟨dq, osq⟩, hw''⟩ := hw'
        subst hw''
        have kq := Lib.hid (show Same wz _ from Kept.of_below (below_regrown wz dq osq))
        have KQ := Lib.hid (KZ.out.trans kq.out)
        clear kq
        go_wp2_with fail
        go_ret
        exact ⟨by rw [HR.out]; rfl, KQ.out⟩
      · rw [e1]
        obtain ⟨x2, hx2⟩ : ∃ x, l[k2] = x := ⟨_, rfl⟩
        have Bk2 := Lib.hid (show fstB l 0 tb = true from by unfold fstB; rw [e2]; rfl)
        have Ek2 := Lib.hid (show fstE l 0 tb = x2 from by unfold fstE; rw [e2, ← hx2]; rfl)
        have Xk2 := Lib.hid hx2
        have dk2 : decide ((0 : Int) ≤ (k2 : Int)) = true := decide_eq_true (by omega)
        clear e1 e2 hx2
        rcases C3.out with ⟨e1, e2⟩ | ⟨k3, hk3, e1, e2⟩
        · have HR := Lib.hid (show r = false from by rw [← HO.out, show fstB l 3 ta = false from by unfold fstB; rw [e2]; rfl]; simp)
          rw [e1]
          clear e1 e2 q0
          clear C1 C2 C3 C4 HO
          go_wp2_with fail
          refine wp_region_quiet_below (by kernel_rfl) (by kernel_rfl) ?_
          repeat (first | go_big_quiet_step (fail) | quiet_step (fail))
          refine wpQuiet_nil ?_
          intro _ hw'
          obtain ⟨⟨dq, osq⟩, hw''⟩ := hw'
          subst hw''
          have kq := Lib.hid (show Same wz _ from Kept.of_below (below_regrown wz dq osq))
          have KQ := Lib.hid (KZ.out.trans kq.out)
          clear kq
          go_wp2_with fail
          go_ret
          exact ⟨by rw [HR.out]; rfl, KQ.out⟩
        · rw [e1]
          obtain ⟨x3, hx3⟩ : ∃ x, l[k3] = x := ⟨_, rfl⟩
          have Bk3 := Lib.hid (show fstB l 3 ta = true from by unfold fstB; rw [e2]; rfl)
          have Ek3 := Lib.hid (show fstE l 3 ta = x3 from by unfold fstE; rw [e2, ← hx3]; rfl)
          have Xk3 := Lib.hid hx3
          have dk3 : decide ((0 : Int) ≤ (k3 : Int)) = true := decide_eq_true (by omega)
          clear e1 e2 hx3
          rcases C4.out with ⟨e1, e2⟩ | ⟨k4, hk4, e1, e2⟩
          · have HR := Lib.hid (show r = false from by rw [← HO.out, show fstB l 3 tb = false from by unfold fstB; rw [e2]; rfl]; simp)
            rw [e1]
            clear e1 e2 q0
            clear C1 C2 C3 C4 HO
            go_wp2_with fail
            refine wp_region_quiet_below (by kernel_rfl) (by kernel_rfl) ?_
            repeat (first | go_big_quiet_step (fail) | quiet_step (fail))
            refine wpQuiet_nil ?_
            intro _ hw'
            obtain ⟨⟨dq, osq⟩, hw''⟩ := hw'
            subst hw''
            have kq := Lib.hid (show Same wz _ from Kept.of_below (below_regrown wz dq osq))
            have KQ := Lib.hid (KZ.out.trans kq.out)
            clear kq
            go_wp2_with fail
            go_ret
            exact ⟨by rw [HR.out]; rfl, KQ.out⟩
          · rw [e1]
            obtain ⟨x4, hx4⟩ : ∃ x, l[k4] = x := ⟨_, rfl⟩
            have Bk4 := Lib.hid (show fstB l 3 tb = true from by unfold fstB; rw [e2]; rfl)
            have Ek4 := Lib.hid (show fstE l 3 tb = x4 from by unfold fstE; rw [e2, ← hx4]; rfl)
            have Xk4 := Lib.hid hx4
            have dk4 : decide ((0 : Int) ≤ (k4 : Int)) = true := decide_eq_true (by omega)
            clear e1 e2 hx4
            obtain ⟨b, off, rfl, hbl⟩ := HAT.out.there (fun e => by rw [e] at hk1; simp at hk1)
            have tk1 := ev_time HAT.out hk1 wz (Kept.refl _ _)
            rw [Xk1.out] at tk1
            have qk1 := fun dq os => cell_regrown (w := wz) tk1 dq os
            have uk1 : (k1 : Int) < (n : Int) := by have := HN.out; omega
            have vk1 : (0 : Int) ≤ (k1 : Int) := by omega
            have tk2 := ev_time HAT.out hk2 wz (Kept.refl _ _)
            rw [Xk2.out] at tk2
            have qk2 := fun dq os => cell_regrown (w := wz) tk2 dq os
            have uk2 : (k2 : Int) < (n : Int) := by have := HN.out; omega
            have vk2 : (0 : Int) ≤ (k2 : Int) := by omega
            have tk3 := ev_time HAT.out hk3 wz (Kept.refl _ _)
            rw [Xk3.out] at tk3
            have qk3 := fun dq os => cell_regrown (w := wz) tk3 dq os
            have uk3 : (k3 : Int) < (n : Int) := by have := HN.out; omega
            have vk3 : (0 : Int) ≤ (k3 : Int) := by omega
            have tk4 := ev_time HAT.out hk4 wz (Kept.refl _ _)
            rw [Xk4.out] at tk4
            have qk4 := fun dq os => cell_regrown (w := wz) tk4 dq os
            have uk4 : (k4 : Int) < (n : Int) := by have := HN.out; omega
            have vk4 : (0 : Int) ≤ (k4 : Int) := by omega
            clear tk1 tk2 tk3 tk4
            have HO2 := Lib.hid (show r = (decide (x1.t < x4.t) && decide (x2.t < x3.t)) from by rw [← HO.out, Bk1.out, Bk2.out, Bk3.out, Bk4.out, Ek1.out, Ek2.out, Ek3.out, Ek4.out]; simp [q0])
            clear Xk1 Xk2 Xk3 Xk4 hk1 hk2 hk3 hk4 q0
            by_cases q1 : x1.t < x4.t
            · have f1 : decide (x1.t < x4.t) = true := decide_eq_true q1
              by_cases q2 : x2.t < x3.t
              · have f2 : decide (x2.t < x3.t) = true := decide_eq_true q2
                have HR := Lib.hid (show r = true from by rw [HO2.out, f1, f2]; rfl)
                clear q1 q2
                clear C1 C2 C3 C4 HO
                go_wp2_with fail
                refine wp_region_quiet_below (by kernel_rfl) (by kernel_rfl) ?_
                repeat (first | go_big_quiet_step (fail) | quiet_step (fail))
                refine wpQuiet_nil ?_
                intro _ hw'
                obtain ⟨⟨dq, osq⟩, hw''⟩ := hw'
                subst hw''
                have kq := Lib.hid (show Same wz _ from Kept.of_below (below_regrown wz dq osq))
                have KQ := Lib.hid (KZ.out.trans kq.out)
                clear kq
                go_wp2_with fail
                go_ret
                exact ⟨by rw [HR.out]; rfl, KQ.out⟩
              · have f2 : decide (x2.t < x3.t) = false := decide_eq_false q2
                have HR := Lib.hid (show r = false from by rw [HO2.out, f1, f2]; rfl)
                clear q1 q2
                clear C1 C2 C3 C4 HO
                go_wp2_with fail
                refine wp_region_quiet_below (by kernel_rfl) (by kernel_rfl) ?_
                repeat (first | go_big_quiet_step (fail) | quiet_step (fail))
                refine wpQuiet_nil ?_
                intro _ hw'
                obtain ⟨⟨dq, osq⟩, hw''⟩ := hw'
                subst hw''
                have kq := Lib.hid (show Same wz _ from Kept.of_below (below_regrown wz dq osq))
                have KQ := Lib.hid (KZ.out.trans kq.out)
                clear kq
                go_wp2_with fail
                go_ret
                exact ⟨by rw [HR.out]; rfl, KQ.out⟩
            · have f1 : decide (x1.t < x4.t) = false := decide_eq_false q1
              have HR := Lib.hid (show r = false from by rw [HO2.out, f1]; rfl)
              clear q1
              clear C1 C2 C3 C4 HO
              go_wp2_with fail
              refine wp_region_quiet_below (by kernel_rfl) (by kernel_rfl) ?_
              repeat (first | go_big_quiet_step (fail) | quiet_step (fail))
              refine wpQuiet_nil ?_
              intro _ hw'
              obtain ⟨⟨dq, osq⟩, hw''⟩ := hw'
              subst hw''
              have kq := Lib.hid (show Same wz _ from Kept.of_below (below_regrown wz dq osq))
              have KQ := Lib.hid (KZ.out.trans kq.out)
              clear kq
              go_wp2_with fail
              go_ret
              exact ⟨by rw [HR.out]; rfl, KQ.out⟩
end Go.Proofs.Ytaeiajodbpgbbaa
