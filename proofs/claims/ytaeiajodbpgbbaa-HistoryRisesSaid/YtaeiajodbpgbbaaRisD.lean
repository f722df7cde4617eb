/- HistoryRises: its driver. -/
import Derived.Test.YtaeiajodbpgbbaaBk10
import Derived.Test.YtaeiajodbpgbbaaRisO
namespace Go.Proofs.Ytaeiajodbpgbbaa
open Go.RowKit Go.Sort Go.Shelf

theorem litB_vals {l : List HEv} {most : Nat} (h : litB l most = true) : ValsB l := by
  unfold litB at h
  simp at h
  exact fun e he => (h.2 e he).2
theorem cut_mod {cut m : Nat} (h : cut ≤ 255) : ∃ kk : Nat, (wrap64 ((cut : Nat) : Int)).tmod ((m : Int) + 1) = ((kk : Nat) : Int) ∧ kk ≤ m := by
  refine ⟨cut % (m + 1), ?_, Nat.le_of_lt_succ (Nat.mod_lt _ (by omega))⟩
  rw [show wrap64 ((cut : Nat) : Int) = (cut : Int) from by unfold wrap64; omega]
  rw [Int.tmod_eq_emod_of_nonneg (by omega)]
  simp
theorem KeysB.take {l : List HEv} (h : KeysB l) (k : Nat) : KeysB (l.take k) := fun e he => h e (List.mem_of_mem_take he)
theorem ValsB.take {l : List HEv} (h : ValsB l) (k : Nat) : ValsB (l.take k) := fun e he => h e (List.mem_of_mem_take he)
set_option maxRecDepth 100000 in
set_option maxHeartbeats 8000000 in
theorem rises_any (w : World) (a : Option Addr) (n c : Nat) (l : List HEv) (hn : n = l.length) (hbig : n * 64 ≤ 140737488355328) (cut : Nat) (hcut : cut ≤ 255) (hat : ElsAt evE w a l) :
    Calls Try.prog 4 #[.slice a n c, .int .u8 (cut : Nat)] w fun e w' => e = .returned (.bool true) ∧ Same w w' := by
  have FW := Lib.hid fun (w' : World) (kk : Same w w') => rf_light a n c l hn w' (hat.same kk)
  have OWN := Lib.hid (hv_ownB a n c l hn hbig w hat)
  have HN0 := Lib.hid hn; have HCUT := Lib.hid hcut
  obtain ⟨r, hr⟩ : ∃ r, litB l 40 = r := ⟨_, rfl⟩
  simp only [hr] at FW
  have HR := Lib.hid hr
  clear hn hat hr hcut hbig
  go_enter Try.func4, Try.ntmps4
  go_wp2_with fail
  with_reducible refine OWN.out.mono ?_
  rintro e w1 ⟨⟨v, rfl, ho⟩, k1⟩
  obtain ⟨a1, l1, c1, rfl, hl1, hn1, ha1, hc1⟩ := OwnE.rd ho
  obtain rfl : l1 = n := by rw [hl1.out, HN0.out]
  have K1 := Lib.hid k1
  clear ho k1 OWN
  go_wp2_with fail
  with_reducible refine (FW.out _ K1.out).mono ?_
  rintro e w2 ⟨rfl, rfl⟩
  clear FW
  cases r
  · go_wp2_with fail
    refine (awOK w2).mono ?_
    rintro e w3 ⟨rfl, k3⟩
    have K3 := Lib.hid (K1.out.trans k3)
    clear k3
    go_wp2_with fail
    go_ret
    exact ⟨rfl, K3.out⟩
  · obtain ⟨hl40, hkb⟩ := litB_keys HR.out
    have HL40 := Lib.hid (show l1 ≤ 40 from by have := HN0.out; omega)
    have HKB := Lib.hid hkb
    have HVB := Lib.hid (litB_vals HR.out)
    clear hl40 hkb HR
    obtain ⟨m, hm, e1, hok⟩ := chk_split l bk0 0
    obtain ⟨er, her⟩ : ∃ er, (chkB bk0 0 l).2 = er := ⟨_, rfl⟩
    have HM := Lib.hid (show m ≤ l1 from by have := HN0.out; omega)
    have OK := Lib.hid hok
    have CK := Lib.hid ((bk_check a1 l1 c1 l HN0.out HL40.out HKB.out HVB.out w2 ha1.out).mono (fun e w' (h : ChkPost w2 _ e w') => show e = .returned (.tuple #[.int .i64 ((m : Nat) : Int), .int .i64 ((er : Nat) : Int)]) ∧ Same w2 w' from ⟨by have := h.1; rw [e1, her, Nat.zero_add] at this; exact this, h.2⟩))
    clear hm e1 hok her
    go_wp2_with fail
    with_reducible refine CK.out.mono ?_
    rintro e w3 ⟨rfl, k3⟩
    have K3 := Lib.hid (K1.out.trans k3)
    obtain ⟨L, hL⟩ : ∃ L, l.take m = L := ⟨_, rfl⟩
    have LA := Lib.hid (show ElsAt evE w3 a1 L from by rw [← hL]; exact (ha1.out.same k3).take m)
    have LN := Lib.hid (show L.length = m from by rw [← hL, List.length_take]; have := HM.out; have := HN0.out; omega)
    have KB := Lib.hid (show KeysB L from by rw [← hL]; exact HKB.out.take m)
    have VB := Lib.hid (show ValsB L from by rw [← hL]; exact HVB.out.take m)
    have OKL := Lib.hid (show OkB bk0 L from by rw [← hL]; exact OK.out)
    have CC := Lib.hid hc1.out
    clear k3 CK K1 OK ha1 hL HKB HVB hc1 hn1 hl1
    have g1 : ¬ l1 < m := by have := HM.out; omega
    have g2 : m ≤ c1 := by have := HM.out; have := CC.out.1; omega
    have g3 : m ≤ 40 := by have := HM.out; have := HL40.out; omega
    obtain ⟨kk, hkk, hkm⟩ := cut_mod (m := m) HCUT.out
    have g4 : kk ≤ c1 := by omega
    have HKM := Lib.hid hkm
    have CK2 := Lib.hid ((bk_check a1 kk c1 (L.take kk) (by rw [List.length_take, LN.out]; omega) (by omega) (KB.out.take kk) (VB.out.take kk) w3 (LA.out.take kk)).mono (fun e w' (h : ChkPost w3 _ e w') => show e = .returned (.tuple #[.int .i64 ((kk : Nat) : Int), .int .i64 0]) ∧ Same w3 w' from ⟨by
      have := h.1
      rw [(OKL.out.take kk).chk 0, List.length_take, LN.out, Nat.zero_add, Nat.min_eq_left hkm] at this
      exact this, h.2⟩))
    go_wp2_with fail
    with_reducible refine CK2.out.mono ?_
    rintro e w4 ⟨rfl, k4⟩
    have K4 := Lib.hid (K3.out.trans k4)
    have LA4 := Lib.hid (LA.out.same k4)
    clear k4 CK2 K3 LA hkk hkm g4
    go_wp2_with fail
    with_reducible refine (hv_commits a1 m c1 L LN.out.symm (by omega) w4 LA4.out).mono ?_
    rintro e w5 ⟨⟨v, rfl, ho⟩, k5⟩
    obtain ⟨a2, l2, c2, rfl, hl2, -, ha2⟩ := OwnE.rd2 ho
    have K5 := Lib.hid (K4.out.trans k5)
    have LA5 := Lib.hid (LA4.out.same k5)
    have SRT := Lib.hid (rises_cmts OKL.out)
    have L2 := Lib.hid (show l2 ≤ 40 from by have h1 := hl2.out; have := cmts_len L; have := LN.out; omega)
    clear ho k5 K4 LA4
    go_wp2_with fail
    go_loopw [12] (fun t wr => ∃ (i : Nat), t = .int .i64 i ∧ 1 ≤ i ∧ i ≤ l2 + 1 ∧ Same w5 wr) (fun t _ => l2 + 1 - (intOf t).toNat)
    case atStart => exact ⟨1, rfl, by omega, by omega, Kept.refl _ _⟩
    case round =>
      obtain ⟨i, rfl, hi1, hi, hk⟩ := hrel
      have K := Lib.hid hk
      have hl240 := L2.out
      clear hk
      by_cases hgo : i < l2
      · have hil : i < (cmts L).length := by have := hl2.out; omega
        obtain ⟨b, off, rfl, hbl, hc⟩ := in_at ha2.out hil
        obtain ⟨_, _, q, -, hc'⟩ := in_at ha2.out (show i - 1 < (cmts L).length by omega)
        cases q
        have d0 := hc _ K.out
        have d1 := hc' _ K.out
        have hlt : (cmts L)[i - 1] < (cmts L)[i] := List.pairwise_iff_getElem.1 SRT.out (i - 1) i (by omega) hil (by omega)
        generalize (cmts L)[i - 1] = u1 at d1 hlt
        generalize (cmts L)[i] = u0 at d0 hlt
        obtain ⟨j, rfl⟩ : ∃ j, i = j + 1 := ⟨i - 1, by omega⟩
        simp only [Nat.add_sub_cancel] at d1
        have q0 := fun dq os => cell_regrown (w := wr) d0 dq os
        have q1 := fun dq os => cell_regrown (w := wr) d1 dq os
        have g5 : (j : Int) + 1 < (l2 : Int) := by omega
        have g6 : (j : Int) < (l2 : Int) := by omega
        have g7 : ¬ u0 ≤ u1 := by omega
        clear hc hc' d0 d1 hi hi1 hgo hil hlt
        go_wp2_with fail
        refine wp_region_quiet_below (by kernel_rfl) (by kernel_rfl) ?_
        repeat (first | go_big_quiet_step (fail) | quiet_step (fail))
        refine wpQuiet_nil ?_
        intro _ hw'
        obtain ⟨⟨dq, osq⟩, hw''⟩ := hw'
        subst hw''
        have kq := Lib.hid (show Same wr _ from Kept.of_below (below_regrown wr dq osq))
        have KQ := Lib.hid (K.out.trans kq.out)
        clear kq
        go_wp2_with fail
        exact ⟨⟨j + 1 + 1, by go_num, by omega, by omega, KQ.out⟩, by simp [intOf]; omega⟩
      · have g5 : ¬ (i : Int) < (l2 : Int) := by omega
        have KC := Lib.hid (K5.out.trans K.out)
        have LA6 := Lib.hid (LA5.out.same K.out)
        clear hi1 hi hgo K K5 LA5 ha2 hl2 SRT L2 hl240
        generalize wr = wc at *
        go_wp2_with fail
        go_loopw [13] (fun t wr => ∃ (i : Nat), t = .int .i64 i ∧ i ≤ m ∧ Same wc wr) (fun t _ => m - (intOf t).toNat)
        case atStart => exact ⟨0, rfl, by omega, Kept.refl _ _⟩
        case round =>
          obtain ⟨i, rfl, hi, hk⟩ := hrel
          have K := Lib.hid hk
          clear hk
          by_cases hgo : i < m
          · have g6 : (i : Int) < (m : Int) := by omega
            generalize wr = wd at *
            go_wp2_with fail
            go_loopw [14] (fun t wr => ∃ (j : Nat), t = .int .i64 j ∧ j ≤ i ∧ Same wc wr) (fun t _ => i - (intOf t).toNat)
            case atStart => exact ⟨0, rfl, by omega, K.out⟩
            case round =>
              clear K
              obtain ⟨j, rfl, hj, hk⟩ := hrel
              have K := Lib.hid hk
              clear hk
              by_cases hgj : j < i
              · have hil : i < L.length := by have := LN.out; omega
                have hjl : j < L.length := by omega
                have HOV := Lib.hid (show L[i].k = 2 → L[j].k = 2 → L[i].key = L[j].key → ovlB L L[i].x L[j].x = false from fun h1 h2 h3 => rises_ovl OKL.out (List.getElem_mem _) (List.getElem_mem _) h1 h2 h3)
                obtain ⟨b, off, rfl, hbl, hc⟩ := ev_at LA6.out hil
                obtain ⟨_, _, q, -, hc'⟩ := ev_at LA6.out hjl
                cases q
                obtain ⟨c0, c1', -, c3, -, -⟩ := hc _ K.out
                obtain ⟨d0, d1, -, d3, -, -⟩ := hc' _ K.out
                have C1 := Lib.hid (show ∀ x y d os, Calls Try.prog 15 #[.slice (some ⟨b, off, none⟩) m c1, .int .i64 x, .int .i64 y] (grow (redrawn wr d) os) fun e w'' => e = .returned (.bool (ovlB L x y)) ∧ ∃ p : Regrown, w'' = grow (redrawn wr p.d) p.os from fun x y d os => Calls.quiet_samK (hv_Overlap (some ⟨b, off, none⟩) m c1 L LN.out.symm (by omega) x y _ (LA6.out.same (K.out.trans (Kept.of_below (below_regrown _ d os))))))
                generalize L[i] = X at c0 c1' c3 HOV
                generalize L[j] = Y at d0 d1 d3 HOV
                obtain ⟨xk, xx, xt, xkey, xval, xis⟩ := X
                obtain ⟨yk, yx, yt, ykey, yval, yis⟩ := Y
                dsimp only at c0 c1' c3 d0 d1 d3 HOV
                have q0 := fun dq os => cell_regrown (w := wr) c0 dq os
                have q1 := fun dq os => cell_regrown (w := wr) c1' dq os
                have q3 := fun dq os => cell_regrown (w := wr) c3 dq os
                have r0 := fun dq os => cell_regrown (w := wr) d0 dq os
                have r1 := fun dq os => cell_regrown (w := wr) d1 dq os
                have r3 := fun dq os => cell_regrown (w := wr) d3 dq os
                have g7 : (j : Int) < (i : Int) := by omega
                have g8 : (j : Int) < (m : Int) := by omega
                clear hc hc' hil hjl
                by_cases hx : xk = 2
                · subst hx
                  by_cases hy : yk = 2
                  · subst hy
                    by_cases hkey : xkey = ykey
                    · subst hkey
                      have C2 := Lib.hid (fun d os => C1.out xx yx d os)
                      rw [HOV.out rfl rfl rfl] at C2
                      clear C1 HOV
                      go_wp2_with fail
                      refine wp_region_quiet_below (by kernel_rfl) (by kernel_rfl) ?_
                      repeat (first | go_big_quiet_step (with_reducible exact C2.out _ _) | quiet_step (with_reducible exact C2.out _ _))
                      refine wpQuiet_nil ?_
                      intro _ hw'
                      obtain ⟨⟨dq, osq⟩, hw''⟩ := hw'
                      subst hw''
                      have kq := Lib.hid (show Same wr _ from Kept.of_below (below_regrown wr dq osq))
                      have KQ := Lib.hid (K.out.trans kq.out)
                      clear kq
                      go_wp2_with fail
                      exact ⟨⟨j + 1, by go_num, by omega, KQ.out⟩, by simp [intOf]; omega⟩
                    · clear C1 HOV
                      go_wp2_with fail
                      refine wp_region_quiet_below (by kernel_rfl) (by kernel_rfl) ?_
                      repeat (first | go_big_quiet_step (fail) | quiet_step (fail))
                      refine wpQuiet_nil ?_
                      intro _ hw'
                      obtain ⟨⟨dq, osq⟩, hw''⟩ := hw'
                      subst hw''
                      have kq := Lib.hid (show Same wr _ from Kept.of_below (below_regrown wr dq osq))
                      have KQ := Lib.hid (K.out.trans kq.out)
                      clear kq
                      go_wp2_with fail
                      exact ⟨⟨j + 1, by go_num, by omega, KQ.out⟩, by simp [intOf]; omega⟩
                  · have n2 : ((yk : Int) == 2) = false := by simp; omega
                    clear C1 HOV hy
                    go_wp2_with fail
                    refine wp_region_quiet_below (by kernel_rfl) (by kernel_rfl) ?_
                    repeat (first | go_big_quiet_step (fail) | quiet_step (fail))
                    refine wpQuiet_nil ?_
                    intro _ hw'
                    obtain ⟨⟨dq, osq⟩, hw''⟩ := hw'
                    subst hw''
                    have kq := Lib.hid (show Same wr _ from Kept.of_below (below_regrown wr dq osq))
                    have KQ := Lib.hid (K.out.trans kq.out)
                    clear kq
                    go_wp2_with fail
                    exact ⟨⟨j + 1, by go_num, by omega, KQ.out⟩, by simp [intOf]; omega⟩
                · have n2 : ((xk : Int) == 2) = false := by simp; omega
                  clear C1 HOV hx
                  go_wp2_with fail
                  refine wp_region_quiet_below (by kernel_rfl) (by kernel_rfl) ?_
                  repeat (first | go_big_quiet_step (fail) | quiet_step (fail))
                  refine wpQuiet_nil ?_
                  intro _ hw'
                  obtain ⟨⟨dq, osq⟩, hw''⟩ := hw'
                  subst hw''
                  have kq := Lib.hid (show Same wr _ from Kept.of_below (below_regrown wr dq osq))
                  have KQ := Lib.hid (K.out.trans kq.out)
                  clear kq
                  go_wp2_with fail
                  exact ⟨⟨j + 1, by go_num, by omega, KQ.out⟩, by simp [intOf]; omega⟩
              · have g7 : ¬ (j : Int) < (i : Int) := by omega
                go_wp2_with fail
                exact ⟨⟨i + 1, by go_num, by omega, K.out⟩, by simp [intOf]; omega⟩
          · have g6 : ¬ (i : Int) < (m : Int) := by omega
            go_wp2_with fail
            refine (awOK wr).mono ?_
            rintro e w8 ⟨rfl, k8⟩
            have K8 := Lib.hid (KC.out.trans (K.out.trans k8))
            clear k8
            go_wp2_with fail
            go_ret
            exact ⟨rfl, K8.out⟩
end Go.Proofs.Ytaeiajodbpgbbaa
