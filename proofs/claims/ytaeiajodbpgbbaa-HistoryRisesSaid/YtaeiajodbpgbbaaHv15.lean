/- HistoryTells: the driver; printed by wip/gen/hv15.py. -/
import Derived.Test.YtaeiajodbpgbbaaHv14
namespace Go.Proofs.Ytaeiajodbpgbbaa
open Go.RowKit Go.Sort Go.Shelf

section
variable {P : Program} {md : Region.Mode} {ops : Array Oper} {Q : Exit → Act → World → Prop} {S : World → Prop} {s : Nat}
/-- Take number i first, its slot known; s waits for it, and says so itself. -/
theorem wpT_takeU {i t : Nat} {oi : Oper} {v : Value} {f : Nat} {l : Array Bool} {a : Act} {w : World} (his : (i == s) = false) (hi : ops[i]? = some oi) (hd : oi.dst = some t)
    (hs : Region.noSelect ops = true) (hf : Region.free md ops l i = true) (hr : (Region.ready md ops l).contains i = true) (ha : ancL md ops 1 i s = true)
    (hQ : ∀ c a w, Q (.panic c) (a.put (some t) v) w → Q (.panic c) a w) (hy : YieldsIf P ops S oi v a) (hS : S w) (hD : DownL md ops l)
    (h : DownL md ops (l.setIfInBounds i true) → wpT P md ops Q S s f (l.setIfInBounds i true) (a.put (some t) v) w) : wpT P md ops Q S s (f + 1) l a w := by
  have hr' : i ∈ Region.ready md ops l := by simpa using hr
  refine wpT_first 1 (by simpa using his) hi (Region.noSelect_spec hs) (by rw [hd]; exact hQ) (.inl ⟨ha, fun _ q => q⟩) f l a w hD (Region.free_spec hi hf) hr' hy hS (.inl hS) ?_
  rw [hd]
  exact h (hD.next hr')
end
/-- A whole number in memory. -/
theorem in_at {w : World} {a : Option Addr} {l : List Int} (h : ElsAt inE w a l) {i : Nat} (hi : i < l.length) :
    ∃ b off, a = some ⟨b, off, none⟩ ∧ b < w.heap.size ∧ ∀ w', Same w w' → w'.cell? ⟨b, off + i, none⟩ = some (.int .i64 l[i]) := by
  obtain ⟨b, off, rfl, hb⟩ := h.there (fun e => by rw [e] at hi; simp at hi)
  refine ⟨b, off, rfl, hb, fun w' k => ?_⟩
  have := (h.same k).get (List.getElem?_eq_getElem hi) 0 (u := .int .i64 l[i]) rfl
  rw [show inE.n = 1 from rfl, Nat.mul_one, Nat.add_zero] at this
  exact this
/-- What all programs must tell. -/
def AwOK : Prop := ∀ w, Calls Try.prog 6 #[] w fun e w' => e = .returned (.bool true) ∧ Same w w'
theorem AwOK.at (h : AwOK) (w : World) : Calls Try.prog 6 #[] w fun e w' => e = .returned (.bool true) ∧ Same w w' := h w
set_option maxRecDepth 100000 in
set_option maxHeartbeats 8000000 in
theorem tells_any (aw : AwOK) (w : World) (a : Option Addr) (n c : Nat) (l : List HEv) (hn : n = l.length) (at_ x y : Int) (hat : ElsAt evE w a l) (hav : ∀ x, a = some x → x.block < w.heap.size) :
    Calls Try.prog 3 #[.slice a n c, .int .i64 at_, .agg #[.int .i64 x, .int .i64 y]] w fun e w' => e = .returned (.bool true) ∧ Same w w' := by
  have FW := Lib.hid fun (w' : World) (kk : Same w w') => rf_light a n c l hn w' (hat.same kk)
  have HAT := Lib.hid hat; have HN0 := Lib.hid hn; have HAV := Lib.hid hav
  obtain ⟨r, hr⟩ : ∃ r, litB l 40 = r := ⟨_, rfl⟩
  simp only [hr] at FW
  have HR := Lib.hid hr
  clear hn hat hav hr
  go_enter Try.func3, Try.ntmps3
  go_wp2_with fail
  refine Calls.fr1 ?_
  intro w0 F' K' hz'
  have F := Lib.hid F'
  have K := Lib.hid K'
  have HZ := Lib.hid hz'
  clear F' K' hz'
  with_reducible refine (FW.out _ K.out).mono ?_
  rintro e w1 ⟨rfl, rfl⟩
  clear FW
  cases r
  · go_wp2_with fail
    refine (aw.at _).mono ?_
    rintro e w2 ⟨rfl, k2⟩
    have K2 := Lib.hid (K.out.trans k2)
    clear k2
    go_wp2_with fail
    go_ret
    exact ⟨rfl, K2.out⟩
  · obtain ⟨hl40, hkb⟩ := litB_keys HR.out
    have HL40 := Lib.hid (show n ≤ 40 from by have := HN0.out; omega)
    have HKB := Lib.hid hkb
    clear hl40 hkb
    go_wp2_with fail
    with_reducible refine (hv_own a n c l HN0.out (by have := HL40.out; omega) _ (HAT.out.same K.out)).mono ?_
    rintro e w2 ⟨⟨v, rfl, ho⟩, k2⟩
    have hfar := ho.far
    obtain ⟨a1, l1, c1, rfl, hl1, hn1, ha1, hc1⟩ := OwnE.rd ho
    have HAV1 := Lib.hid (show ∀ x, a1 = some x → x.block < w2.heap.size from fun x hx => by subst hx; exact (hfar x.block rfl).2)
    have FZ := Lib.hid (F.out.same k2)
    have K2 := Lib.hid (K.out.trans k2)
    have HL1 := Lib.hid (show l1 ≤ 40 from by have := HL40.out; have := HN0.out; have := hl1.out; omega)
    clear ho k2 hfar hn1 hc1 F K
    go_wp2_with fail
    with_reducible refine (hv_commits a1 l1 c1 l hl1.out (by have := HL1.out; omega) _ ha1.out).mono ?_
    rintro e w3 ⟨⟨v, rfl, ho⟩, k3⟩
    obtain ⟨a2, l2, c2, rfl, hl2, hn2, ha2, hc2⟩ := OwnE.rd ho
    have FZ3 := Lib.hid (FZ.out.same k3)
    have K3 := Lib.hid (K2.out.trans k3)
    have HA1 := Lib.hid (ha1.out.same k3)
    have HAV3 := Lib.hid (show ∀ x, a1 = some x → x.block < w3.heap.size from fun x hx => Nat.lt_of_lt_of_le (HAV1.out x hx) k3.size)
    clear ho k3 hn2 hc2 K2 FZ ha1 HAV1
    go_wp2_with fail
    with_reducible refine (rf_commits a n c l HN0.out (by have := HL40.out; omega) _ (HAT.out.same K3.out)).mono ?_
    rintro e w4 ⟨⟨v, rfl, ho⟩, k4⟩
    obtain ⟨a3, l3, c3, rfl, hl3, hn3, ha3, hc3⟩ := OwnE.rd ho
    obtain rfl : l2 = l3 := by have h1 := hl2.out; have h2 := hl3.out; omega
    have FZ4 := Lib.hid (FZ3.out.same k4)
    have K4 := Lib.hid (K3.out.trans k4)
    have HA4 := Lib.hid (HA1.out.same k4)
    have HA2 := Lib.hid (ha2.out.same k4)
    have HAV4 := Lib.hid (show ∀ x, a1 = some x → x.block < w4.heap.size from fun x hx => Nat.lt_of_lt_of_le (HAV3.out x hx) k4.size)
    have HSZ := Lib.hid K4.out.size
    have HLC := Lib.hid (show l2 ≤ 1000 from by have h1 := hl2.out; have := cmts_len l; have := HL40.out; have := HN0.out; omega)
    clear ho k4 hn3 hc3 hl3 K3 FZ3 HA1 ha2 HAV3
    go_wp2_with fail
    go_loopw [10] (fun t wr => ∃ (i : Nat), t = .int .i64 i ∧ i ≤ l2 ∧ Same w4 wr) (fun t _ => l2 - (intOf t).toNat)
    case atStart => exact ⟨0, rfl, by omega, Kept.refl _ _⟩
    case round =>
      obtain ⟨i, rfl, hi, hk⟩ := hrel
      have K := Lib.hid hk
      clear hk
      have hlc := HLC.out
      by_cases hgo : i < l2
      · have hil : i < (cmts l).length := by have := hl2.out; omega
        obtain ⟨b, off, rfl, hbl, hc⟩ := in_at HA2.out hil
        obtain ⟨b', off', rfl, hbl', hc'⟩ := in_at ha3.out hil
        have d0 := hc _ K.out
        have d1 := hc' _ K.out
        obtain ⟨u, hu⟩ : ∃ u, (cmts l)[i] = u := ⟨_, rfl⟩
        rw [hu] at d0 d1
        have q0 := fun dq os => cell_regrown (w := wr) d0 dq os
        have q1 := fun dq os => cell_regrown (w := wr) d1 dq os
        have g1 : (i : Int) < (l2 : Int) := by omega
        have g0 : (0 : Int) ≤ (i : Int) := by omega
        clear hc hc' hu d0 d1
        go_wp2_with fail
        refine wp_region_quiet_below (by kernel_rfl) (by kernel_rfl) ?_
        repeat (first | go_big_quiet_step (fail) | quiet_step (fail))
        refine wpQuiet_nil ?_
        intro _ hw'
        obtain ⟨⟨dq, osq⟩, hw''⟩ := hw'
        subst hw''
        have kq := Lib.hid (show Same wr _ from Kept.of_below (below_regrown wr dq osq))
        have KQ := Lib.hid (K.out.trans kq.out)
        clear kq
        go_wp2_with fail
        exact ⟨⟨i + 1, by go_num, by omega, KQ.out⟩, by simp [intOf]; omega⟩
      · have g1 : ¬ (i : Int) < (l2 : Int) := by omega
        clear hlc
        go_wp2_with fail
        go_upto_region 12 with fail
        obtain ⟨z, hz⟩ : ∃ z, w.heap.size = z := ⟨_, rfl⟩
        try rw [hz]
        have KW := Lib.hid (K4.out.trans K.out)
        have QX := Lib.hid fun (w' : World) (kk : Same wr w') => (show (fun w' : World => ∀ i, w'.cell? ⟨z, i, none⟩ = (#[.int .i64 x, .int .i64 y] : Array Value)[i]?) w' from cell_blk (((hz ▸ FZ4.out.1).kept K.out (fun h => h)).kept kk (fun h => h)))
        have HS := Lib.hid fun w' (kk : Same wr w') => hv_State a1 l1 c1 l hl1.out HL1.out HKB.out at_ w' ((HA4.out.same K.out).same kk)
        have RS := Lib.hid fun w' (kk : Same wr w') => rf_State a n c l HN0.out HL40.out at_ w' ((HAT.out.same KW.out).same kk) (fun x hx => Nat.lt_of_lt_of_le (HAV.out x hx) (KW.out.trans kk).size)
        have HN := Lib.hid fun w' (kk : Same wr w') => hv_Snapshot a1 l1 c1 l hl1.out HL1.out HKB.out x w' ((HA4.out.same K.out).same kk) (fun x hx => Nat.lt_of_lt_of_le (HAV4.out x hx) (K.out.trans kk).size)
        have RN := Lib.hid fun w' (kk : Same wr w') => rf_Snapshot a n c l HN0.out HL40.out x w' ((HAT.out.same KW.out).same kk) (fun x hx => Nat.lt_of_lt_of_le (HAV.out x hx) (KW.out.trans kk).size)
        have HO := Lib.hid fun w' (kk : Same wr w') => hv_Overlap a1 l1 c1 l hl1.out (by have := HL1.out; omega) x y w' ((HA4.out.same K.out).same kk)
        have RO := Lib.hid fun w' (kk : Same wr w') => rf_Overlap a n c l HN0.out (by have := HL40.out; omega) x y w' ((HAT.out.same KW.out).same kk)
        obtain ⟨ov, hov⟩ : ∃ ov, ovlB l x y = ov := ⟨_, rfl⟩
        simp only [hov] at HO RO
        have KD := Lib.hid (show Same w wr.drew from KW.out.drew)
        have K0 := Lib.hid (show Same wr wr.drew from (Kept.refl _ wr).drew)
        clear hov hz HA4 FZ4 HAT HAV HAV4 HA2 ha3
        generalize stF l at_ = g1 at *
        generalize snF l x = g2 at *
        have KX := KW
        clear K
        have K := K0
        as_aux_lemma =>
          refine wp_region_T (S := (fun w' : World => ∀ i, w'.cell? ⟨z, i, none⟩ = (#[.int .i64 x, .int .i64 y] : Array Value)[i]?)) 36 (by kernel_rfl) (QX.out _ (Kept.refl _ _).drew) (fun hHeld hDn => ?_)
          refine wpT_takeW (i := 0) (t := 41) (v := ?_) rfl rfl rfl (by kernel_rfl) (by kernel_rfl) (by kernel_rfl) (fun _ _ _ h => h) (Or.inl ⟨by rfl, ?_⟩) hHeld hDn (fun hDn' => ?_)
          rotate_left
          · (intro w _; go_simp; (try with_reducible rfl))
          clear hDn; have hDn := hDn'; clear hDn'
          simp only [Act.put, List.setIfInBounds_toArray, List.set_cons_zero, List.set_cons_succ]
          refine wpT_takeW (i := 1) (t := 42) (v := ?_) rfl rfl rfl (by kernel_rfl) (by kernel_rfl) (by kernel_rfl) (fun _ _ _ h => h) (Or.inl ⟨by rfl, ?_⟩) hHeld hDn (fun hDn' => ?_)
          rotate_left
          · (intro w _; go_simp; (try with_reducible rfl))
          clear hDn; have hDn := hDn'; clear hDn'
          simp only [Act.put, List.setIfInBounds_toArray, List.set_cons_zero, List.set_cons_succ]
          refine wpT_takeW (i := 3) (t := 44) (v := ?_) rfl rfl rfl (by kernel_rfl) (by kernel_rfl) (by kernel_rfl) (fun _ _ _ h => h) (Or.inl ⟨by rfl, ?_⟩) hHeld hDn (fun hDn' => ?_)
          rotate_left
          · (intro w _; go_simp; (try with_reducible rfl))
          clear hDn; have hDn := hDn'; clear hDn'
          simp only [Act.put, List.setIfInBounds_toArray, List.set_cons_zero, List.set_cons_succ]
          refine wpT_takeW (i := 4) (t := 45) (v := ?_) rfl rfl rfl (by kernel_rfl) (by kernel_rfl) (by kernel_rfl) (fun _ _ _ h => h) (Or.inl ⟨by rfl, ?_⟩) hHeld hDn (fun hDn' => ?_)
          rotate_left
          · (intro w _; go_simp; (try with_reducible rfl))
          clear hDn; have hDn := hDn'; clear hDn'
          simp only [Act.put, List.setIfInBounds_toArray, List.set_cons_zero, List.set_cons_succ]
          refine wpT_one (i := 2) rfl (by kernel_rfl) hDn (fun K' hK => ?_)
          go_simp
          with_reducible refine (HS.out _ K.out).mono ?_
          rintro e w1 ⟨⟨v, L, rfl, hL, hLn, ho⟩, k1⟩
          obtain ⟨a5, l5, c5, rfl, hl5, hn5, ha5, hc5⟩ := OwnE.rd ho
          have HL := Lib.hid hL
          have HLM := Lib.hid hLn
          clear ho hL hLn hn5 hc5
          have K2 := Lib.hid (K.out.trans k1)
          clear K k1
          have K := K2
          clear K2
          refine hK.out _ _ ?_ (fun hHeld2 hDn2 => ?_)
          · exact QX.out _ K.out
          clear hK K' hHeld hDn
          have hHeld := hHeld2; have hDn := hDn2
          clear hHeld2 hDn2
          as_aux_lemma =>
            refine wpT_one (i := 5) rfl (by kernel_rfl) hDn (fun K' hK => ?_)
            go_simp
            with_reducible refine (RS.out _ K.out).mono ?_
            rintro e w2 ⟨⟨a6, l6, c6, L6, rfl, hL6, hl6, -, ha6⟩, k2⟩
            obtain rfl : L = L6 := HL.out.one hL6
            obtain rfl : l5 = l6 := by have := hl5.out; omega
            have SM := Lib.hid (rf_same a5 a6 l5 c5 c6 L hl5.out (by have := hl5.out; have := HLM.out; omega) w2 (ha5.out.same k2) ha6)
            clear ha6 ha5 hL6 hl6 HL HLM
            have K2 := Lib.hid (K.out.trans k2)
            clear K k2
            have K := K2
            clear K2
            refine hK.out _ _ ?_ (fun hHeld2 hDn2 => ?_)
            · exact QX.out _ K.out
            clear hK K' hHeld hDn
            have hHeld := hHeld2; have hDn := hDn2
            clear hHeld2 hDn2
            as_aux_lemma =>
              refine wpT_one (i := 6) rfl (by kernel_rfl) hDn (fun K' hK => ?_)
              go_simp
              with_reducible refine SM.out.mono ?_
              rintro e w3 ⟨rfl, k3⟩
              clear SM
              have K2 := Lib.hid (K.out.trans k3)
              clear K k3
              have K := K2
              clear K2
              refine hK.out _ _ ?_ (fun hHeld2 hDn2 => ?_)
              · exact QX.out _ K.out
              clear hK K' hHeld hDn
              have hHeld := hHeld2; have hDn := hDn2
              clear hHeld2 hDn2
              as_aux_lemma =>
                refine wpT_takeW (i := 7) (t := 48) (v := ?_) rfl rfl rfl (by kernel_rfl) (by kernel_rfl) (by kernel_rfl) (fun _ _ _ h => h) (Or.inl ⟨by rfl, ?_⟩) hHeld hDn (fun hDn' => ?_)
                rotate_left
                · (intro w _; go_simp; (try with_reducible rfl))
                clear hDn; have hDn := hDn'; clear hDn'
                simp only [Act.put, List.setIfInBounds_toArray, List.set_cons_zero, List.set_cons_succ]
                refine wpT_takeW (i := 8) (t := 49) (v := ?_) rfl rfl rfl (by kernel_rfl) (by kernel_rfl) (by kernel_rfl) (fun _ _ _ h => h) (Or.inl ⟨by rfl, ?_⟩) hHeld hDn (fun hDn' => ?_)
                rotate_left
                · (intro w _; go_simp; (try with_reducible rfl))
                clear hDn; have hDn := hDn'; clear hDn'
                simp only [Act.put, List.setIfInBounds_toArray, List.set_cons_zero, List.set_cons_succ]
                refine wpT_takeW (i := 9) (t := 50) (v := ?_) rfl rfl rfl (by kernel_rfl) (by kernel_rfl) (by kernel_rfl) (fun _ _ _ h => h) (Or.inl ⟨by rfl, ?_⟩) hHeld hDn (fun hDn' => ?_)
                rotate_left
                · (intro w _; go_simp; (try with_reducible rfl))
                clear hDn; have hDn := hDn'; clear hDn'
                simp only [Act.put, List.setIfInBounds_toArray, List.set_cons_zero, List.set_cons_succ]
                refine wpT_takeU (i := 10) (t := 51) (v := ?_) rfl rfl rfl (by kernel_rfl) (by kernel_rfl) (by kernel_rfl) (by kernel_rfl) (fun _ _ _ h => h) (Or.inl ⟨by rfl, ?_⟩) hHeld hDn (fun hDn' => ?_)
                rotate_left
                · (intro w hSw; (try dsimp only at hSw); go_simp; (try with_reducible rfl))
                clear hDn; have hDn := hDn'; clear hDn'
                simp only [Act.put, List.setIfInBounds_toArray, List.set_cons_zero, List.set_cons_succ]
                refine wpT_takeW (i := 12) (t := 53) (v := ?_) rfl rfl rfl (by kernel_rfl) (by kernel_rfl) (by kernel_rfl) (fun _ _ _ h => h) (Or.inl ⟨by rfl, ?_⟩) hHeld hDn (fun hDn' => ?_)
                rotate_left
                · (intro w _; go_simp; (try with_reducible rfl))
                clear hDn; have hDn := hDn'; clear hDn'
                simp only [Act.put, List.setIfInBounds_toArray, List.set_cons_zero, List.set_cons_succ]
                refine wpT_takeW (i := 13) (t := 54) (v := ?_) rfl rfl rfl (by kernel_rfl) (by kernel_rfl) (by kernel_rfl) (fun _ _ _ h => h) (Or.inl ⟨by rfl, ?_⟩) hHeld hDn (fun hDn' => ?_)
                rotate_left
                · (intro w _; go_simp; (try with_reducible rfl))
                clear hDn; have hDn := hDn'; clear hDn'
                simp only [Act.put, List.setIfInBounds_toArray, List.set_cons_zero, List.set_cons_succ]
                refine wpT_takeU (i := 14) (t := 55) (v := ?_) rfl rfl rfl (by kernel_rfl) (by kernel_rfl) (by kernel_rfl) (by kernel_rfl) (fun _ _ _ h => h) (Or.inl ⟨by rfl, ?_⟩) hHeld hDn (fun hDn' => ?_)
                rotate_left
                · (intro w hSw; (try dsimp only at hSw); go_simp; (try with_reducible rfl))
                clear hDn; have hDn := hDn'; clear hDn'
                simp only [Act.put, List.setIfInBounds_toArray, List.set_cons_zero, List.set_cons_succ]
                refine wpT_one (i := 11) rfl (by kernel_rfl) hDn (fun K' hK => ?_)
                go_simp
                with_reducible refine (HN.out _ K.out).mono ?_
                rintro e w1 ⟨⟨v, L, rfl, hL, hLn, ho⟩, k4⟩
                obtain ⟨a5, l5, c5, rfl, hl5, hn5, ha5, hc5⟩ := OwnE.rd ho
                have HL := Lib.hid hL
                have HLM := Lib.hid hLn
                clear ho hL hLn hn5 hc5
                have K2 := Lib.hid (K.out.trans k4)
                clear K k4
                have K := K2
                clear K2
                refine hK.out _ _ ?_ (fun hHeld2 hDn2 => ?_)
                · exact QX.out _ K.out
                clear hK K' hHeld hDn
                have hHeld := hHeld2; have hDn := hDn2
                clear hHeld2 hDn2
                as_aux_lemma =>
                  refine wpT_one (i := 15) rfl (by kernel_rfl) hDn (fun K' hK => ?_)
                  go_simp
                  with_reducible refine (RN.out _ K.out).mono ?_
                  rintro e w2 ⟨⟨a6, l6, c6, L6, rfl, hL6, hl6, -, ha6⟩, k5⟩
                  obtain rfl : L = L6 := HL.out.one hL6
                  obtain rfl : l5 = l6 := by have := hl5.out; omega
                  have SM := Lib.hid (rf_same a5 a6 l5 c5 c6 L hl5.out (by have := hl5.out; have := HLM.out; omega) w2 (ha5.out.same k5) ha6)
                  clear ha6 ha5 hL6 hl6 HL HLM
                  have K2 := Lib.hid (K.out.trans k5)
                  clear K k5
                  have K := K2
                  clear K2
                  refine hK.out _ _ ?_ (fun hHeld2 hDn2 => ?_)
                  · exact QX.out _ K.out
                  clear hK K' hHeld hDn
                  have hHeld := hHeld2; have hDn := hDn2
                  clear hHeld2 hDn2
                  as_aux_lemma =>
                    refine wpT_one (i := 16) rfl (by kernel_rfl) hDn (fun K' hK => ?_)
                    go_simp
                    with_reducible refine SM.out.mono ?_
                    rintro e w3 ⟨rfl, k6⟩
                    clear SM
                    have K2 := Lib.hid (K.out.trans k6)
                    clear K k6
                    have K := K2
                    clear K2
                    refine hK.out _ _ ?_ (fun hHeld2 hDn2 => ?_)
                    · exact QX.out _ K.out
                    clear hK K' hHeld hDn
                    have hHeld := hHeld2; have hDn := hDn2
                    clear hHeld2 hDn2
                    as_aux_lemma =>
                      refine wpT_takeW (i := 17) (t := 58) (v := ?_) rfl rfl rfl (by kernel_rfl) (by kernel_rfl) (by kernel_rfl) (fun _ _ _ h => h) (Or.inl ⟨by rfl, ?_⟩) hHeld hDn (fun hDn' => ?_)
                      rotate_left
                      · (intro w _; go_simp; (try with_reducible rfl))
                      clear hDn; have hDn := hDn'; clear hDn'
                      simp only [Act.put, List.setIfInBounds_toArray, List.set_cons_zero, List.set_cons_succ]
                      refine wpT_takeW (i := 18) (t := 59) (v := ?_) rfl rfl rfl (by kernel_rfl) (by kernel_rfl) (by kernel_rfl) (fun _ _ _ h => h) (Or.inl ⟨by rfl, ?_⟩) hHeld hDn (fun hDn' => ?_)
                      rotate_left
                      · (intro w _; go_simp; (try with_reducible rfl))
                      clear hDn; have hDn := hDn'; clear hDn'
                      simp only [Act.put, List.setIfInBounds_toArray, List.set_cons_zero, List.set_cons_succ]
                      refine wpT_takeW (i := 19) (t := 60) (v := ?_) rfl rfl rfl (by kernel_rfl) (by kernel_rfl) (by kernel_rfl) (fun _ _ _ h => h) (Or.inl ⟨by rfl, ?_⟩) hHeld hDn (fun hDn' => ?_)
                      rotate_left
                      · (intro w _; go_simp; (try with_reducible rfl))
                      clear hDn; have hDn := hDn'; clear hDn'
                      simp only [Act.put, List.setIfInBounds_toArray, List.set_cons_zero, List.set_cons_succ]
                      refine wpT_takeW (i := 20) (t := 61) (v := ?_) rfl rfl rfl (by kernel_rfl) (by kernel_rfl) (by kernel_rfl) (fun _ _ _ h => h) (Or.inl ⟨by rfl, ?_⟩) hHeld hDn (fun hDn' => ?_)
                      rotate_left
                      · (intro w _; go_simp; (try with_reducible rfl))
                      clear hDn; have hDn := hDn'; clear hDn'
                      simp only [Act.put, List.setIfInBounds_toArray, List.set_cons_zero, List.set_cons_succ]
                      refine wpT_takeU (i := 21) (t := 62) (v := ?_) rfl rfl rfl (by kernel_rfl) (by kernel_rfl) (by kernel_rfl) (by kernel_rfl) (fun _ _ _ h => h) (Or.inl ⟨by rfl, ?_⟩) hHeld hDn (fun hDn' => ?_)
                      rotate_left
                      · (intro w hSw; (try dsimp only at hSw); go_simp; (try with_reducible rfl))
                      clear hDn; have hDn := hDn'; clear hDn'
                      simp only [Act.put, List.setIfInBounds_toArray, List.set_cons_zero, List.set_cons_succ]
                      refine wpT_takeW (i := 22) (t := 63) (v := ?_) rfl rfl rfl (by kernel_rfl) (by kernel_rfl) (by kernel_rfl) (fun _ _ _ h => h) (Or.inl ⟨by rfl, ?_⟩) hHeld hDn (fun hDn' => ?_)
                      rotate_left
                      · (intro w _; go_simp; (try with_reducible rfl))
                      clear hDn; have hDn := hDn'; clear hDn'
                      simp only [Act.put, List.setIfInBounds_toArray, List.set_cons_zero, List.set_cons_succ]
                      refine wpT_takeU (i := 23) (t := 64) (v := ?_) rfl rfl rfl (by kernel_rfl) (by kernel_rfl) (by kernel_rfl) (by kernel_rfl) (fun _ _ _ h => h) (Or.inl ⟨by rfl, ?_⟩) hHeld hDn (fun hDn' => ?_)
                      rotate_left
                      · (intro w hSw; (try dsimp only at hSw); go_simp; (try with_reducible rfl))
                      clear hDn; have hDn := hDn'; clear hDn'
                      simp only [Act.put, List.setIfInBounds_toArray, List.set_cons_zero, List.set_cons_succ]
                      refine wpT_takeW (i := 25) (t := 66) (v := ?_) rfl rfl rfl (by kernel_rfl) (by kernel_rfl) (by kernel_rfl) (fun _ _ _ h => h) (Or.inl ⟨by rfl, ?_⟩) hHeld hDn (fun hDn' => ?_)
                      rotate_left
                      · (intro w _; go_simp; (try with_reducible rfl))
                      clear hDn; have hDn := hDn'; clear hDn'
                      simp only [Act.put, List.setIfInBounds_toArray, List.set_cons_zero, List.set_cons_succ]
                      refine wpT_takeW (i := 26) (t := 67) (v := ?_) rfl rfl rfl (by kernel_rfl) (by kernel_rfl) (by kernel_rfl) (fun _ _ _ h => h) (Or.inl ⟨by rfl, ?_⟩) hHeld hDn (fun hDn' => ?_)
                      rotate_left
                      · (intro w _; go_simp; (try with_reducible rfl))
                      clear hDn; have hDn := hDn'; clear hDn'
                      simp only [Act.put, List.setIfInBounds_toArray, List.set_cons_zero, List.set_cons_succ]
                      refine wpT_takeU (i := 27) (t := 68) (v := ?_) rfl rfl rfl (by kernel_rfl) (by kernel_rfl) (by kernel_rfl) (by kernel_rfl) (fun _ _ _ h => h) (Or.inl ⟨by rfl, ?_⟩) hHeld hDn (fun hDn' => ?_)
                      rotate_left
                      · (intro w hSw; (try dsimp only at hSw); go_simp; (try with_reducible rfl))
                      clear hDn; have hDn := hDn'; clear hDn'
                      simp only [Act.put, List.setIfInBounds_toArray, List.set_cons_zero, List.set_cons_succ]
                      refine wpT_takeW (i := 28) (t := 69) (v := ?_) rfl rfl rfl (by kernel_rfl) (by kernel_rfl) (by kernel_rfl) (fun _ _ _ h => h) (Or.inl ⟨by rfl, ?_⟩) hHeld hDn (fun hDn' => ?_)
                      rotate_left
                      · (intro w _; go_simp; (try with_reducible rfl))
                      clear hDn; have hDn := hDn'; clear hDn'
                      simp only [Act.put, List.setIfInBounds_toArray, List.set_cons_zero, List.set_cons_succ]
                      refine wpT_takeU (i := 29) (t := 70) (v := ?_) rfl rfl rfl (by kernel_rfl) (by kernel_rfl) (by kernel_rfl) (by kernel_rfl) (fun _ _ _ h => h) (Or.inl ⟨by rfl, ?_⟩) hHeld hDn (fun hDn' => ?_)
                      rotate_left
                      · (intro w hSw; (try dsimp only at hSw); go_simp; (try with_reducible rfl))
                      clear hDn; have hDn := hDn'; clear hDn'
                      simp only [Act.put, List.setIfInBounds_toArray, List.set_cons_zero, List.set_cons_succ]
                      refine wpT_one (i := 24) rfl (by kernel_rfl) hDn (fun K' hK => ?_)
                      go_simp
                      with_reducible refine (HO.out _ K.out).mono ?_
                      rintro e w3 ⟨rfl, k7⟩
                      have K2 := Lib.hid (K.out.trans k7)
                      clear K k7
                      have K := K2
                      clear K2
                      refine hK.out _ _ ?_ (fun hHeld2 hDn2 => ?_)
                      · exact QX.out _ K.out
                      clear hK K' hHeld hDn
                      have hHeld := hHeld2; have hDn := hDn2
                      clear hHeld2 hDn2
                      as_aux_lemma =>
                        refine wpT_one (i := 30) rfl (by kernel_rfl) hDn (fun K' hK => ?_)
                        go_simp
                        with_reducible refine (RO.out _ K.out).mono ?_
                        rintro e w3 ⟨rfl, k8⟩
                        have K2 := Lib.hid (K.out.trans k8)
                        clear K k8
                        have K := K2
                        clear K2
                        refine hK.out _ _ ?_ (fun hHeld2 hDn2 => ?_)
                        · exact QX.out _ K.out
                        clear hK K' hHeld hDn
                        have hHeld := hHeld2; have hDn := hDn2
                        clear hHeld2 hDn2
                        as_aux_lemma =>
                          refine wpT_takeW (i := 31) (t := 72) (v := ?_) rfl rfl rfl (by kernel_rfl) (by kernel_rfl) (by kernel_rfl) (fun _ _ _ h => h) (Or.inl ⟨by rfl, ?_⟩) hHeld hDn (fun hDn' => ?_)
                          rotate_left
                          · (intro w _; go_simp; (try with_reducible rfl))
                          clear hDn; have hDn := hDn'; clear hDn'
                          simp only [Act.put, List.setIfInBounds_toArray, List.set_cons_zero, List.set_cons_succ]
                          refine wpT_takeW (i := 32) (t := 73) (v := ?_) rfl rfl rfl (by kernel_rfl) (by kernel_rfl) (by kernel_rfl) (fun _ _ _ h => h) (Or.inl ⟨by rfl, ?_⟩) hHeld hDn (fun hDn' => ?_)
                          rotate_left
                          · (intro w _; go_simp; (try with_reducible rfl))
                          clear hDn; have hDn := hDn'; clear hDn'
                          simp only [Act.put, List.setIfInBounds_toArray, List.set_cons_zero, List.set_cons_succ]
                          refine wpT_takeW (i := 33) (t := 74) (v := ?_) rfl rfl rfl (by kernel_rfl) (by kernel_rfl) (by kernel_rfl) (fun _ _ _ h => h) (Or.inl ⟨by rfl, ?_⟩) hHeld hDn (fun hDn' => ?_)
                          rotate_left
                          · (intro w _; go_simp; (try with_reducible rfl))
                          clear hDn; have hDn := hDn'; clear hDn'
                          simp only [Act.put, List.setIfInBounds_toArray, List.set_cons_zero, List.set_cons_succ]
                          refine wpT_one (i := 34) rfl (by kernel_rfl) hDn (fun K' hK => ?_)
                          go_simp
                          with_reducible refine (aw.at _).mono ?_
                          rintro e w3 ⟨rfl, k9⟩
                          have K2 := Lib.hid (K.out.trans k9)
                          clear K k9
                          have K := K2
                          clear K2
                          refine hK.out _ _ ?_ (fun hHeld2 hDn2 => ?_)
                          · exact QX.out _ K.out
                          clear hK K' hHeld hDn
                          have hHeld := hHeld2; have hDn := hDn2
                          clear hHeld2 hDn2
                          as_aux_lemma =>
                            refine wpT_takeW (i := 35) (t := 76) (v := ?_) rfl rfl rfl (by kernel_rfl) (by kernel_rfl) (by kernel_rfl) (fun _ _ _ h => h) (Or.inl ⟨by rfl, ?_⟩) hHeld hDn (fun hDn' => ?_)
                            rotate_left
                            · (intro w _; go_simp; (try with_reducible rfl))
                            clear hDn; have hDn := hDn'; clear hDn'
                            simp only [Act.put, List.setIfInBounds_toArray, List.set_cons_zero, List.set_cons_succ]
                            refine wpT_last rfl (by kernel_rfl) hDn (fun K hK => ?_)
                            go_simp
                            refine hK.out _ _ (fun hDn' => ?_)
                            clear hK K hDn hHeld; have hDn := hDn'; clear hDn'
                            refine wpT_done (by kernel_rfl) ?_ _
                            go_wp2_with fail
                            go_ret
                            exact ⟨rfl, KX.out.trans K.out⟩
end Go.Proofs.Ytaeiajodbpgbbaa
