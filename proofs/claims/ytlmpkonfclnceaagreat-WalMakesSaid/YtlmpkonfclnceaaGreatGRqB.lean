/- GRqB: Rq3, Rq4, Rq5. -/
import Derived.Test.YtlmpkonfclnceaaGreatGRqA
import Derived.Deep.RegionHeld3
import Derived.Deep.AppendLies
import Derived.Lib.MinMax
import Derived.Lib.QuietBelow
import Derived.Deep.QuietTactic
import Derived.BigQuiet
namespace Go.Proofs.YtlmpkonfclnceaaGreat
open Go.RowKit Go.Sort

section
variable {P : Program} {md : Region.Mode} {ops : Array Oper} {Q : Exit → Act → World → Prop} {S : World → Prop}
/-- A take at a known slot. -/
theorem take_atR {i t : Nat} {oi : Oper} {v : Value} {fuel : Nat} {listed : Array Bool} {a : Act} {w : World} (hi : ops[i]? = some oi) (hd : oi.dst = some t)
    (hs : Region.noSelect ops = true) (hf : Region.free md ops listed i = true) (hr : (Region.ready md ops listed).contains i = true)
    (hQ : ∀ c a w, Q (.panic c) (a.put (some t) v) w → Q (.panic c) a w) (hy : YieldsIf P ops S oi v a) (hS : S w)
    (h : wpAnyH P md ops Q S fuel (listed.setIfInBounds i true) (a.put (some t) v) w) : wpAnyH P md ops Q S (fuel + 1) listed a w :=
  wpAnyH_take hi hs hf hr (by rw [hd]; exact hQ) hy hS (by rw [hd]; exact h)
end
theorem Calls.quiet_sameR {P : Program} {f : FuncId} {args : Array Value} {w : World} {d : Nat} {os : Array Obj} {v : Value}
    (h : Calls P f args (grow (redrawn w d) os) fun e w' => e = .returned v ∧ Same (grow (redrawn w d) os) w') : Calls P f args (grow (redrawn w d) os) fun e w'' => e = .returned v ∧ ∃ p : Regrown, w'' = grow (redrawn w p.d) p.os :=
  Calls.regrown_of (h.mono fun _ _ ⟨h1, h2⟩ => ⟨h1, h2.below (Nat.le_refl _) (fun _ _ h => h)⟩)
section
attribute [local go_sem ↓] exec_app semAt_app
attribute [local go_sem] isApp_lit appA appX
set_option maxRecDepth 100000 in
set_option maxHeartbeats 1600000 in
theorem rq_read (g o c : Nat) (xs : List Nat) (hx : xs.length = 256) (hc : 256 ≤ c) (hb : Bts xs) (e_ t_ : Nat) (he : 1 ≤ e_ ∧ e_ ≤ 1099511627776) (ht : t_ < 256) (w : World) (hat : NatsAt w .u8 (some ⟨g, o, none⟩) xs) :
    Calls Tryz.prog 84 #[.slice (some ⟨g, o, none⟩) 256 c, .int .i64 (e_ : Nat), .int .i64 (t_ : Nat)] w (ReadPost w (readS xs (e_ : Nat) (t_ : Nat))) := by
  have hd := readS_doc (b := xs) (e := (e_ : Nat)) (a := (t_ : Nat)) (by unfold okE; simp; omega)
  rw [Int.toNat_natCast, Int.toNat_natCast] at hd
  rw [hd]
  have HAT := Lib.hid hat; have HX := Lib.hid hx; have HB := Lib.hid hb; have HE := Lib.hid he
  have c8 := nats_get hat (i := 8) (by omega)
  obtain ⟨x8, hx8⟩ : ∃ x, xs.getD 8 0 = x := ⟨_, rfl⟩
  have hx8l : x8 < 256 := by rw [← hx8]; exact getD_bts hb 8
  rw [hx8] at c8
  obtain ⟨m, hm⟩ : ∃ m, min x8 239 = m := ⟨_, rfl⟩
  have hml : m ≤ 239 := by omega
  have hmi : min (x8 : Int) 239 = (m : Int) := by omega
  obtain ⟨M, hM⟩ : ∃ M, 9 + m = M := ⟨_, rfl⟩
  have hMi : (9 : Int) + (m : Int) = (M : Int) := by omega
  have HD : Hid (docL xs = dps 256 xs 9 M) := by show docL xs = _; unfold docL; rw [hx8, hm, hM]
  have w1 : IntKind.i64.wrap ((9 : Int) + (m : Int)) = (M : Int) := by rw [hMi]; exact IntWalk.i64_in _ (by omega)
  have e1 := he.1
  have e2 := he.2
  have q1 : ¬ (e_ : Int) < 1 := by omega
  have q2 : ¬ (1099511627776 : Int) < (e_ : Int) := by omega
  have q3 : (0 : Int) ≤ (t_ : Int) := by omega
  have q4 : ¬ (256 : Int) ≤ (t_ : Int) := by omega
  obtain ⟨DL, hDL⟩ : ∃ DL, docL xs = DL := ⟨_, rfl⟩
  rw [hDL] at HD ⊢
  have DS : Hid (∀ s ∈ DL, s.length ≤ 238) := by rw [HD.out]; exact dps_short _ _ _ _ (Nat.le_refl _)
  have DB : Hid (TBts DL) := by rw [HD.out]; exact dps_bts _ _ _ _ hb
  have DN : Hid (DL.length ≤ 239) := by have := dps_len 256 xs 9 M; rw [← HD.out] at this; show _ ≤ _; omega
  have hMl : M ≤ 248 := by omega
  obtain ⟨R, hR⟩ : ∃ R, (if DL ≠ [] ∧ prt DL = 1 ∧ layS e_ t_ DL = xs then some DL else none) = R := ⟨_, rfl⟩
  rw [hR]
  have HR := Lib.hid hR
  clear hR
  clear hd hat hx hb he hx8 hm hM hDL
  go_enter Tryz.func84, Tryz.ntmps84
  go_wp2_with fail
  clear q1 q2 q3 q4 c8
  go_loopw [8, 10] (fun v t wr => ∃ (i : Nat) (acc : List (List Nat)), t = .int .i64 i ∧ 9 ≤ i ∧ i ≤ 600 ∧ OwnT wr w.heap.size v acc ∧ acc.length ≤ i ∧ DL = acc ++ dps 256 xs i M ∧ Same w wr) (fun _ t _ => M - (intOf t).toNat)
  case atStart => exact ⟨9, [], rfl, Nat.le_refl _, by omega, OwnE.nil _ _ _, Nat.zero_le _, HD.out, Kept.refl _ _⟩
  case round =>
    obtain ⟨i, acc, rfl, h9, hi6, hown, hal, hdl, hk⟩ := hrel
    have OWN := Lib.hid hown; have K := Lib.hid hk; have HDL := Lib.hid hdl
    have hks := hk.size
    clear hown hk hdl
    by_cases hgo : i < M
    · have ci := nats_get (HAT.out.same K.out) (i := i) (by have := HX.out; omega)
      obtain ⟨x, hx⟩ : ∃ x, xs.getD i 0 = x := ⟨_, rfl⟩
      have hxl : x < 256 := by rw [← hx]; exact getD_bts HB.out i
      rw [hx] at ci
      have hst := dps_step (f := 256) (b := xs) (i := i) (e := M) (by omega) hgo
      rw [hx] at hst
      obtain ⟨k, hk⟩ : ∃ k, min 248 (i + 1 + x) = k := ⟨_, rfl⟩
      rw [hk] at hst
      obtain ⟨s, hs⟩ : ∃ s, (xs.drop (i + 1)).take (k - (i + 1)) = s := ⟨_, rfl⟩
      rw [hs] at hst
      have hki : min (248 : Int) ((i : Int) + 1 + (x : Int)) = (k : Int) := by omega
      have hkl : i + 1 ≤ k ∧ k ≤ 248 := by omega
      have w2 : IntKind.i64.wrap ((i : Int) + 1) = (i : Int) + 1 := IntWalk.i64_in _ (by omega)
      have w3 : IntKind.i64.wrap ((i : Int) + 1 + (x : Int)) = (i : Int) + 1 + (x : Int) := IntWalk.i64_in _ (by omega)
      have w4 : IntKind.i64.wrap (1 + (x : Int)) = 1 + (x : Int) := IntWalk.i64_in _ (by omega)
      have w5 : IntKind.i64.wrap ((i : Int) + (1 + (x : Int))) = (i : Int) + (1 + (x : Int)) := IntWalk.i64_in _ (by omega)
      have g1 : (i : Int) < (M : Int) := by omega
      have g0 : (0 : Int) ≤ (i : Int) := by omega
      have g2 : (i : Int) < 256 := by omega
      have g3 : (0 : Int) ≤ (i : Int) + 1 := by omega
      have g4 : (i : Int) + 1 ≤ (k : Int) := by omega
      have g5 : (k : Int) ≤ (c : Int) := by omega
      have g6 : ((i : Int) + 1).toNat = i + 1 := by omega
      have g7 : ¬ c = i + 1 := by omega
      have hsl : s.length = k - (i + 1) := by rw [← hs, List.length_take, List.length_drop]; have := HX.out; omega
      have HST := Lib.hid hst
      have hv := conv_str (some ⟨g, o + (i + 1), none⟩) (k - (i + 1)) (c - (i + 1)) s wr hsl.symm (by rw [← hs]; exact ((HAT.out.same K.out).drop (i + 1)).take _)
      obtain ⟨v5, w5', hrun, ow5, k5⟩ := txt_append OWN.out hks (by omega) s
      obtain ⟨aok, aV, aW⟩ := app_of hrun
      have OW5 := Lib.hid ow5
      have K5 := Lib.hid (K.out.step k5 (fun j hj q => by omega))
      have ci5 := nats_get (HAT.out.same K5.out) (i := i) (by have := HX.out; omega)
      rw [hx] at ci5
      clear hrun ow5 k5 hst hsl hs hk hx
      go_wp2_with fail
      go_roundw
      case rel => exact ⟨i + 1 + x, acc ++ [s], by go_num, by omega, by omega, OW5.out, by simp; omega, by rw [HDL.out, HST.out]; simp, K5.out⟩
      case measure => simp [intOf]; omega
    · have e3 : dps 256 xs i M = [] := dps_end _ _ _ _ (by omega)
      have g1 : ¬ (i : Int) < (M : Int) := by omega
      have hacc : DL = acc := by rw [HDL.out, e3, List.append_nil]
      subst hacc
      obtain ⟨a0, l0, c0, rfl, hl0, hn0, ha0, hc0⟩ := OWN.out.rd
      by_cases hz : l0 = 0
      · subst hz
        have hnil : DL = [] := List.eq_nil_of_length_eq_zero hl0.out.symm
        have HRN : Hid (R = none) := by show _ = _; rw [← HR.out, if_neg (fun h => h.1 hnil)]
        clear hnil e3 ha0 hl0
        go_wp2_with fail
        refine wp_region_quiet_below (by kernel_rfl) (by kernel_rfl) ?_
        repeat (first | go_big_quiet_step (fail) | quiet_step (fail))
        refine wpQuiet_nil ?_
        intro _ hw'
        obtain ⟨⟨dq, osq⟩, hw''⟩ := hw'
        subst hw''
        have kq := Lib.hid (show Same wr _ from Kept.of_below (below_regrown wr dq osq))
        go_wp2_with fail
        go_ret2
        rw [HRN.out]
        exact readPost_none _ _ (K.out.trans kq.out)
      · have gz : ¬ (l0 : Int) = 0 := by omega
        have gz1 : ((l0 : Int) == 0) = false := by simpa using gz
        have hne : DL ≠ [] := by intro q; have := hl0.out; rw [q] at this; exact hz this
        have PT := Lib.hid fun w' (kk : Same wr w') => rp_parts a0 l0 c0 DL hl0.out (by have := hl0.out; have := DN.out; omega) w' (ha0.out.same kk)
        by_cases hp : prt DL = 1
        · have hbd := one_bdy hp DS.out
          have LY := Lib.hid fun w' (kk : Same wr w') => rq_lay e_ t_ HE.out.2 ht a0 l0 c0 DL hl0.out DS.out hbd DB.out w' (ha0.out.same kk)
          have QC : Hid (∀ w', Same wr w' → (convert 29 9 (.slice (some ⟨g, o, none⟩) 256 c)).run Tryz.prog w' = .ok (.string (strN xs)) w') := fun w' kk => conv_str _ _ _ xs w' HX.out.symm (HAT.out.same (K.out.trans kk))
          have LB : Hid (Bts (layS e_ t_ DL)) := layS_bts _ _ DB.out hbd
          obtain ⟨Y, hY⟩ : ∃ Y, layS e_ t_ DL = Y := ⟨_, rfl⟩
          rw [hY] at LB
          have SB := Lib.hid (str_beq LB.out HB.out)
          have HRY : Hid (R = if Y = xs then some DL else none) := by
            show _ = _
            rw [← HR.out, hY]
            by_cases q : Y = xs
            · rw [if_pos ⟨hne, hp, q⟩, if_pos q]
            · rw [if_neg (fun h => q h.2.2), if_neg q]
          simp only [hY] at LY
          rw [hp] at PT
          have KN := Lib.hid (Kept.refl (fun _ => False) wr)
          clear hne hp hbd hY ha0 hl0 e3
          go_wp2_with fail
          refine wp_region_held_drew (S := fun w' => (convert 29 9 (.slice (some ⟨g, o, none⟩) 256 c)).run Tryz.prog w' = .ok (.string (strN xs)) w') (by kernel_rfl) (QC.out _ (Kept.refl _ _).drew) (fun hHeld => ?_)
          refine take_atR (i := 0) (t := 64) (v := ?_) rfl rfl (by kernel_rfl) (by kernel_rfl) (by kernel_rfl) (fun _ _ _ h => h) (Or.inl ⟨by rfl, ?_⟩) (by assumption) ?_
          rotate_left
          · (intro w hSw; (try dsimp only at hSw); go_simp; (try with_reducible rfl))
          simp only [Act.put, List.setIfInBounds_toArray, List.set_cons_zero, List.set_cons_succ]
          refine take_atR (i := 1) (t := 65) (v := ?_) rfl rfl (by kernel_rfl) (by kernel_rfl) (by kernel_rfl) (fun _ _ _ h => h) (Or.inl ⟨by rfl, ?_⟩) (by assumption) ?_
          rotate_left
          · (intro w hSw; (try dsimp only at hSw); go_simp; (try with_reducible rfl))
          simp only [Act.put, List.setIfInBounds_toArray, List.set_cons_zero, List.set_cons_succ]
          refine take_atR (i := 2) (t := 66) (v := ?_) rfl rfl (by kernel_rfl) (by kernel_rfl) (by kernel_rfl) (fun _ _ _ h => h) (Or.inl ⟨by rfl, ?_⟩) (by assumption) ?_
          rotate_left
          · (intro w hSw; (try dsimp only at hSw); go_simp; (try with_reducible rfl))
          simp only [Act.put, List.setIfInBounds_toArray, List.set_cons_zero, List.set_cons_succ]
          refine take_atR (i := 3) (t := 67) (v := ?_) rfl rfl (by kernel_rfl) (by kernel_rfl) (by kernel_rfl) (fun _ _ _ h => h) (Or.inl ⟨by rfl, ?_⟩) (by assumption) ?_
          rotate_left
          · (intro w hSw; (try dsimp only at hSw); go_simp; (try with_reducible rfl))
          simp only [Act.put, List.setIfInBounds_toArray, List.set_cons_zero, List.set_cons_succ]
          refine take_atR (i := 4) (t := 68) (v := ?_) rfl rfl (by kernel_rfl) (by kernel_rfl) (by kernel_rfl) (fun _ _ _ h => h) (Or.inl ⟨by rfl, ?_⟩) (by assumption) ?_
          rotate_left
          · (intro w hSw; (try dsimp only at hSw); go_simp; (try with_reducible rfl))
          simp only [Act.put, List.setIfInBounds_toArray, List.set_cons_zero, List.set_cons_succ]
          refine wpAnyH_ready (rs := [5]) (by kernel_rfl) (by simp) ?_
          refine AllReadyH.cons rfl (fun K hK => ?_) AllReadyH.nil
          go_simp
          with_reducible refine (PT.out _ (by first | with_reducible exact KN.out | with_reducible exact KN.out.drew)).mono ?_
          rintro e w6 ⟨rfl, k6⟩
          have KN' := Lib.hid (show Same wr w6 from Kept.trans (by first | with_reducible exact KN.out | with_reducible exact KN.out.drew) k6); clear KN k6; have KN := KN'; clear KN'
          dsimp only
          refine hK.out _ _ ?_ (fun hHeld2 => ?_)
          · exact QC.out _ KN.out
          clear hK K hHeld
          refine take_atR (i := 6) (t := 70) (v := ?_) rfl rfl (by kernel_rfl) (by kernel_rfl) (by kernel_rfl) (fun _ _ _ h => h) (Or.inl ⟨by rfl, ?_⟩) (by assumption) ?_
          rotate_left
          · (intro w hSw; (try dsimp only at hSw); go_simp; (try with_reducible rfl))
          simp only [Act.put, List.setIfInBounds_toArray, List.set_cons_zero, List.set_cons_succ]
          refine take_atR (i := 7) (t := 71) (v := ?_) rfl rfl (by kernel_rfl) (by kernel_rfl) (by kernel_rfl) (fun _ _ _ h => h) (Or.inl ⟨by rfl, ?_⟩) (by assumption) ?_
          rotate_left
          · (intro w hSw; (try dsimp only at hSw); go_simp; (try with_reducible rfl))
          simp only [Act.put, List.setIfInBounds_toArray, List.set_cons_zero, List.set_cons_succ]
          refine take_atR (i := 8) (t := 72) (v := ?_) rfl rfl (by kernel_rfl) (by kernel_rfl) (by kernel_rfl) (fun _ _ _ h => h) (Or.inl ⟨by rfl, ?_⟩) (by assumption) ?_
          rotate_left
          · (intro w hSw; (try dsimp only at hSw); go_simp; (try with_reducible rfl))
          simp only [Act.put, List.setIfInBounds_toArray, List.set_cons_zero, List.set_cons_succ]
          refine take_atR (i := 9) (t := 73) (v := ?_) rfl rfl (by kernel_rfl) (by kernel_rfl) (by kernel_rfl) (fun _ _ _ h => h) (Or.inl ⟨by rfl, ?_⟩) (by assumption) ?_
          rotate_left
          · (intro w hSw; (try dsimp only at hSw); go_simp; (try with_reducible rfl))
          simp only [Act.put, List.setIfInBounds_toArray, List.set_cons_zero, List.set_cons_succ]
          refine take_atR (i := 10) (t := 74) (v := ?_) rfl rfl (by kernel_rfl) (by kernel_rfl) (by kernel_rfl) (fun _ _ _ h => h) (Or.inl ⟨by rfl, ?_⟩) (by assumption) ?_
          rotate_left
          · (intro w hSw; (try dsimp only at hSw); go_simp; (try with_reducible rfl))
          simp only [Act.put, List.setIfInBounds_toArray, List.set_cons_zero, List.set_cons_succ]
          refine take_atR (i := 11) (t := 75) (v := ?_) rfl rfl (by kernel_rfl) (by kernel_rfl) (by kernel_rfl) (fun _ _ _ h => h) (Or.inl ⟨by rfl, ?_⟩) (by assumption) ?_
          rotate_left
          · (intro w hSw; (try dsimp only at hSw); go_simp; (try with_reducible rfl))
          simp only [Act.put, List.setIfInBounds_toArray, List.set_cons_zero, List.set_cons_succ]
          refine take_atR (i := 14) (t := 78) (v := ?_) rfl rfl (by kernel_rfl) (by kernel_rfl) (by kernel_rfl) (fun _ _ _ h => h) (Or.inl ⟨by rfl, ?_⟩) (by assumption) ?_
          rotate_left
          · (intro w hSw; (try dsimp only at hSw); go_simp; (try with_reducible rfl))
          simp only [Act.put, List.setIfInBounds_toArray, List.set_cons_zero, List.set_cons_succ]
          refine take_atR (i := 15) (t := 79) (v := ?_) rfl rfl (by kernel_rfl) (by kernel_rfl) (by kernel_rfl) (fun _ _ _ h => h) (Or.inl ⟨by rfl, ?_⟩) (by assumption) ?_
          rotate_left
          · (intro w hSw; (try dsimp only at hSw); go_simp; (try with_reducible rfl))
          simp only [Act.put, List.setIfInBounds_toArray, List.set_cons_zero, List.set_cons_succ]
          refine wpAnyH_ready (rs := [12]) (by kernel_rfl) (by simp) ?_
          refine AllReadyH.cons rfl (fun K hK => ?_) AllReadyH.nil
          go_simp
          with_reducible refine (LY.out _ (by first | with_reducible exact KN.out | with_reducible exact KN.out.drew)).mono ?_
          rintro e w8 ⟨⟨v8, rfl, o8⟩, k8⟩
          obtain ⟨a8, l8, c8, rfl, hl8, -, n8, -⟩ := o8.rd
          have hv8 := conv_str a8 l8 c8 Y w8 hl8.out n8.out
          clear o8 n8 hl8
          have KN' := Lib.hid (show Same wr w8 from Kept.trans (by first | with_reducible exact KN.out | with_reducible exact KN.out.drew) k8); clear KN k8; have KN := KN'; clear KN'
          dsimp only
          refine hK.out _ _ ?_ (fun hHeld3 => ?_)
          · exact QC.out _ KN.out
          clear hK K hHeld2
          refine wpAnyH_ready (rs := [13]) (by kernel_rfl) (by simp) ?_
          refine AllReadyH.cons rfl (fun K hK => ?_) AllReadyH.nil
          go_simp
          refine hK.out _ _ ?_ (fun hHeld4 => ?_)
          · exact QC.out _ KN.out
          clear hK K hHeld3
          refine take_atR (i := 16) (t := 80) (v := ?_) rfl rfl (by kernel_rfl) (by kernel_rfl) (by kernel_rfl) (fun _ _ _ h => h) (Or.inl ⟨by rfl, ?_⟩) (by assumption) ?_
          rotate_left
          · (intro w hSw; (try dsimp only at hSw); go_simp; (try with_reducible rfl))
          simp only [Act.put, List.setIfInBounds_toArray, List.set_cons_zero, List.set_cons_succ]
          refine take_atR (i := 17) (t := 81) (v := ?_) rfl rfl (by kernel_rfl) (by kernel_rfl) (by kernel_rfl) (fun _ _ _ h => h) (Or.inl ⟨by rfl, ?_⟩) (by assumption) ?_
          rotate_left
          · (intro w hSw; (try dsimp only at hSw); go_simp; (try with_reducible rfl))
          simp only [Act.put, List.setIfInBounds_toArray, List.set_cons_zero, List.set_cons_succ]
          refine wpAnyH_done (by kernel_rfl) ?_ _
          have K8 := Lib.hid (K.out.trans KN.out)
          have O8 := Lib.hid (OWN.out.same KN.out)
          by_cases heq : Y = xs
          · have sb : ((strN Y).toList == (strN xs).toList) = true := by rw [SB.out]; exact decide_eq_true heq
            have sn : (!((strN Y).toList == (strN xs).toList)) = false := by rw [sb]; rfl
            have HRN : Hid (R = some DL) := by show _ = _; rw [HRY.out, if_pos heq]
            clear heq hv8 hHeld4
            go_wp2_with fail
            all_goals first
              | (rename_i hbad; exact absurd (sn.symm.trans hbad) (by decide))
              | (go_ret2; rw [HRN.out]; exact ⟨⟨_, rfl, O8.out⟩, K8.out⟩)
          · have sb : ((strN Y).toList == (strN xs).toList) = false := by rw [SB.out]; exact decide_eq_false heq
            have sn : (!((strN Y).toList == (strN xs).toList)) = true := by rw [sb]; rfl
            have HRN : Hid (R = none) := by show _ = _; rw [HRY.out, if_neg heq]
            clear heq hv8 hHeld4
            go_wp2_with fail
            all_goals first
              | (rename_i hbad; exact absurd (sn.symm.trans hbad) (by decide))
              | (go_ret2; rw [HRN.out]; exact readPost_none _ _ K8.out)
        · have hpi : ¬ ((prt DL : Nat) : Int) = 1 := by omega
          have hpb : (((prt DL : Nat) : Int) == 1) = false := by simpa using hpi
          have hpc : (((prt DL : Nat) : Int) != 1) = true := by simpa using hpi
          have HRN : Hid (R = none) := by show _ = _; rw [← HR.out, if_neg (fun h => hp h.2.1)]
          have C1 : Hid (∀ dq os, Calls Tryz.prog 67 #[.slice a0 l0 c0] (grow (redrawn wr dq) os) fun e w'' => e = .returned (.int .i64 ((prt DL : Nat) : Int)) ∧ ∃ p : Regrown, w'' = grow (redrawn wr p.d) p.os) := fun dq os => Calls.quiet_sameR (PT.out _ (Kept.of_below (below_regrown wr dq os)))
          generalize prt DL = Z at *
          clear hp PT hne e3 ha0 hl0
          go_wp2_with fail
          refine wp_region_quiet_below (by kernel_rfl) (by kernel_rfl) ?_
          repeat (first | go_big_quiet_step (exact C1.out _ _) | quiet_step (exact C1.out _ _))
          refine wpQuiet_nil ?_
          intro _ hw'
          obtain ⟨⟨dq, osq⟩, hw''⟩ := hw'
          subst hw''
          have kq := Lib.hid (show Same wr _ from Kept.of_below (below_regrown wr dq osq))
          go_wp2_with fail
          go_ret2
          rw [HRN.out]
          exact readPost_none _ _ (K.out.trans kq.out)
end
end Go.Proofs.YtlmpkonfclnceaaGreat

namespace Go.Proofs.YtlmpkonfclnceaaGreat
open Go.RowKit Go.Sort

section
attribute [local go_sem ↓] exec_app semAt_app
attribute [local go_sem] isApp_lit appA appX
set_option maxRecDepth 100000 in
set_option maxHeartbeats 1600000 in
theorem rq_scan (a : Option Addr) (n c : Nat) (bs : List (List Nat)) (hn : n = bs.length) (hl : n ≤ 256) (hb : ∀ b ∈ bs, Bts b ∧ b.length = 256) (e : Nat) (he : 1 ≤ e ∧ e ≤ 1099511627776) (w : World) (hat : RowsAt w a bs) :
    Calls Tryz.prog 66 #[.slice a n c, .int .i64 (e : Nat)] w fun r w' => (∃ v, r = .returned (.tuple #[v, .int .i64 ((scanS (e : Nat) 0 bs).2 : Nat)]) ∧ OwnT w' w.heap.size v (scanS (e : Nat) 0 bs).1) ∧ Same w w' := by
  have HAT := Lib.hid hat
  have HB := Lib.hid hb
  have HN := Lib.hid hn
  clear hat hb hn
  go_enter Tryz.func66, Tryz.ntmps66
  go_wp2_with fail
  go_loopw [6, 7] (fun v t wr => ∃ (i : Nat) (acc : List (List Nat)), t = .int .i64 i ∧ i ≤ n ∧ OwnT wr w.heap.size v acc ∧ acc.length ≤ 239 * i ∧ (scanS (e : Nat) 0 bs).1 = acc ++ (scanS (e : Nat) i (bs.drop i)).1 ∧ (scanS (e : Nat) 0 bs).2 = (scanS (e : Nat) i (bs.drop i)).2 ∧ Same w wr) (fun _ t _ => n - (intOf t).toNat)
  case atStart => exact ⟨0, [], rfl, by omega, OwnE.nil _ _ _, Nat.le_refl _, rfl, rfl, Kept.refl _ _⟩
  case round =>
    obtain ⟨i, acc, rfl, hi, hown, hal, hs1, hs2, hk⟩ := hrel
    have OWN := Lib.hid hown; have S1 := Lib.hid hs1; have S2 := Lib.hid hs2; have K := Lib.hid hk; have HAL := Lib.hid hal
    clear hown hs1 hs2 hk hal
    by_cases hgo : i < n
    · obtain ⟨rs, r1, r2, r3⟩ := HAT.out
      have hib : i < bs.length := by have := HN.out; omega
      have hbi : bs[i]? = some bs[i] := List.getElem?_eq_getElem hib
      have hri : rs[i]? = some (rs[i]'(by omega)) := List.getElem?_eq_getElem (by omega)
      obtain ⟨x, hx⟩ : ∃ x, bs[i] = x := ⟨_, rfl⟩
      obtain ⟨rr, hrr⟩ : ∃ rr, rs[i]'(by omega) = rr := ⟨_, rfl⟩
      rw [hx] at hbi
      rw [hrr] at hri
      have hR := r3 i rr x hri hbi
      obtain ⟨b, off, rfl, hbl⟩ := r1.there (fun q => by rw [q] at hri; simp at hri)
      have hc0 := r1.get hri 0 (u := .slice rr.1 rr.2.1 rr.2.2) rfl
      have hc1 := (K.out.cell (p := ⟨b, off + i, none⟩) hbl (fun h => h)).trans (by simpa [rowE] using hc0)
      obtain ⟨ra, rn, rc⟩ := rr
      dsimp only at hc1 hR
      have hd : bs.drop i = x :: bs.drop (i + 1) := by rw [List.drop_eq_getElem_cons hib, hx]
      obtain ⟨xb, xl⟩ := HB.out x (List.mem_of_getElem? hbi)
      have hrn : rn = 256 := by rw [show rn = x.length from hR.len, xl]
      have hrc : 256 ≤ rc := by have : rn ≤ rc := hR.cap; omega
      obtain ⟨rg, ro, rfl⟩ : ∃ rg ro, ra = some ⟨rg, ro, none⟩ := by
        rcases (show NatsAt w .u8 ra x from hR.at_) with q | ⟨rg, ro, q, _⟩
        · rw [q] at xl; cases xl
        · exact ⟨rg, ro, q⟩
      subst hrn
      have RD := Lib.hid (rq_read rg ro rc x xl hrc xb e i he (by omega) wr ((show NatsAt w .u8 (some ⟨rg, ro, none⟩) x from hR.at_).same K.out))
      have hsc : scanS (e : Nat) i (bs.drop i) = match readS x (e : Nat) (i : Nat) with
        | some y => (y ++ (scanS (e : Nat) (i + 1) (bs.drop (i + 1))).1, (scanS (e : Nat) (i + 1) (bs.drop (i + 1))).2)
        | none => ([], i) := by rw [hd]; rfl
      have g1 : (i : Int) < (n : Int) := by omega
      have g0 : (0 : Int) ≤ (i : Int) := by omega
      cases ho : readS x (e : Nat) (i : Nat) with
      | none =>
        rw [ho] at hsc RD
        have T1 : Hid ((scanS (e : Nat) 0 bs).1 = acc) := by show _ = _; rw [S1.out, hsc]; simp
        have T2 : Hid ((scanS (e : Nat) 0 bs).2 = i) := by show _ = _; rw [S2.out, hsc]
        clear hsc ho hd hR hc0 r1 r2 r3 hri hbi hx hrr
        go_wp2_with fail
        with_reducible refine RD.out.mono ?_
        rintro r w2 ⟨⟨v2, rfl, -⟩, k2⟩
        have K2 := Lib.hid (K.out.trans k2)
        have O2 := Lib.hid (OWN.out.same k2)
        clear k2
        go_wp2_with fail
        go_ret2
        rw [T1.out, T2.out]
        exact ⟨⟨_, rfl, O2.out⟩, K2.out⟩
      | some y =>
        rw [ho] at hsc RD
        have hy := readS_some ho
        have hyl : y.length ≤ 239 := Nat.le_trans (bdy_count y) hy.2.2.1
        have T1 : Hid ((scanS (e : Nat) 0 bs).1 = (acc ++ y) ++ (scanS (e : Nat) (i + 1) (bs.drop (i + 1))).1) := by show _ = _; rw [S1.out, hsc, List.append_assoc]
        have T2 : Hid ((scanS (e : Nat) 0 bs).2 = (scanS (e : Nat) (i + 1) (bs.drop (i + 1))).2) := by show _ = _; rw [S2.out, hsc]
        clear hsc ho hd hR hc0 r1 r2 r3 hri hbi hx hrr hy
        go_wp2_with fail
        with_reducible refine RD.out.mono ?_
        rintro r w2 ⟨⟨v2, rfl, o2⟩, k2⟩
        obtain ⟨a2, l2, c2, rfl, hl2, hn2, ha2, -⟩ := OwnE.rd o2
        have K2 := Lib.hid (K.out.trans k2)
        obtain ⟨v5, w5, hrun, ow5, k5⟩ := txts_append (OWN.out.same k2) (Nat.le_trans K.out.size k2.size) a2 l2 c2 y hl2.out ha2.out hn2.out (by have := HAL.out; omega)
        obtain ⟨aok, aV, aW⟩ := app_of hrun
        have O5 := Lib.hid ow5
        have K5 := Lib.hid (K2.out.step k5 (fun j hj q => by have := (World.ownsRow.lt OWN.out j q).1; omega))
        clear hrun ow5 k5 o2 k2 hn2 ha2 hl2
        go_wp2_with fail
        go_roundw
        case rel => exact ⟨i + 1, acc ++ y, by go_num, by omega, O5.out, by have := HAL.out; simp; omega, T1.out, T2.out, K5.out⟩
        case measure => simp [intOf]; omega
    · have e1 : bs.drop i = [] := List.drop_eq_nil_of_le (by have := HN.out; omega)
      have g1 : ¬ (i : Int) < (n : Int) := by omega
      have T1 : Hid ((scanS (e : Nat) 0 bs).1 = acc) := by show _ = _; rw [S1.out, e1]; simp [scanS]
      have T2 : Hid ((scanS (e : Nat) 0 bs).2 = n) := by show _ = _; rw [S2.out, e1]; simp [scanS]; omega
      clear e1
      go_wp2_with fail
      go_ret2
      rw [T1.out, T2.out]
      exact ⟨⟨_, rfl, OWN.out⟩, K.out⟩
end
end Go.Proofs.YtlmpkonfclnceaaGreat

namespace Go.Proofs.YtlmpkonfclnceaaGreat
open Go.RowKit Go.Sort

theorem packL_snoc (e : Nat) (g : List (List Nat)) : ∀ (G : List (List (List Nat))) (f : Nat), packL e f (G ++ [g]) = packL e f G ++ [layS e (f + G.length) g]
  | [], f => rfl
  | x :: G, f => by
    simp only [List.cons_append, packL]
    rw [packL_snoc e g G (f + 1), List.length_cons, show f + 1 + G.length = f + (G.length + 1) from by omega]
/-- Bytes of one's own that are some lie in a block. -/
theorem own_slice {w : World} {base : Nat} {v : Value} {xs : List Nat} (h : OwnN w base 5 .u8 v xs) (hx : xs ≠ []) :
    ∃ g cap, v = .slice (some ⟨g, 0, none⟩) xs.length cap ∧ base ≤ g ∧ g < w.heap.size ∧ xs.length ≤ cap ∧ NatsAt w .u8 (some ⟨g, 0, none⟩) xs := by
  have h0 := h
  rcases h.2 with ⟨_, q⟩ | ⟨g, cap, cur, rfl, h1, h2, h3, _⟩
  · exact absurd (List.eq_nil_of_length_eq_zero q) hx
  · exact ⟨g, cap, rfl, h1, lt_of_block h2, h3, OwnN.nats h0⟩
section
attribute [local go_sem ↓] exec_app semAt_app
attribute [local go_sem] isApp_lit appA appX
set_option maxRecDepth 100000 in
set_option maxHeartbeats 1600000 in
theorem rq_pack (e_ f : Nat) (he : 1 ≤ e_ ∧ e_ ≤ 1099511627776) (a : Option Addr) (n c : Nat) (l : List (List Nat)) (hn : n = l.length) (hl : n ≤ 61184) (hs : ∀ s ∈ l, s.length ≤ 238) (hb : TBts l) (hf : f + prt l ≤ 256) (w : World) (hat : TxtsAt w a l) :
    Calls Tryz.prog 55 #[.int .i64 (e_ : Nat), .int .i64 (f : Nat), .slice a n c] w fun r w' => (∃ v, r = .returned (.tuple #[v, .int .i64 0]) ∧ RowsOwn w' w.heap.size v (packS e_ f l)) ∧ Same w w' := by
  have HN := Lib.hid hn; have HS := Lib.hid hs; have HB := Lib.hid hb; have HAT := Lib.hid hat; have HE := Lib.hid he
  have PT := Lib.hid (rp_parts a n c l hn (by omega) w hat)
  have RG := Lib.hid fun w' (kk : Same w w') => rp_groups a n c l hn (by omega) w' (hat.same kk)
  have GOK := Lib.hid (gs_ok hs hb)
  have HP : Hid (packS e_ f l = packL e_ f (gs l)) := rfl
  obtain ⟨G, hG⟩ : ∃ G, gs l = G := ⟨_, rfl⟩
  have hpG : prt l = G.length := by rw [← hG]; rfl
  rw [hG] at GOK HP
  simp only [hG] at RG
  rw [hpG] at hf PT
  have q1 : ¬ (e_ : Int) < 1 := by omega
  have q2 : ¬ (1099511627776 : Int) < (e_ : Int) := by omega
  have q3 : ¬ (f : Int) < 0 := by omega
  have q4 : ¬ (256 : Int) - (G.length : Int) < (f : Int) := by omega
  have w1 : IntKind.i64.wrap ((256 : Int) - (G.length : Int)) = (256 : Int) - (G.length : Int) := IntWalk.i64_in _ (by omega)
  clear hn hs hb hat hG hpG he
  go_enter Tryz.func55, Tryz.ntmps55
  go_wp2_with fail
  with_reducible refine PT.out.mono ?_
  rintro r w2 ⟨rfl, k2⟩
  have K2 := Lib.hid k2
  go_wp2_with fail
  with_reducible refine (RG.out _ k2).mono ?_
  rintro r w3 ⟨⟨v, rs, rfl, hg⟩, k3⟩
  have K3 := Lib.hid (K2.out.trans k3)
  have GA := Lib.hid hg
  obtain ⟨ga, gl, gc, rfl, hgl, hgn, hga, hgc⟩ := OwnE.rd hg.own
  have hgl' : gl = G.length := by rw [hgl.out, hg.len]
  have hks3 := K3.out.size
  obtain ⟨GL, hGL⟩ : ∃ GL, G.length = GL := ⟨_, rfl⟩
  rw [hGL] at hgl' hf q4 w1
  have HGL := Lib.hid hGL
  subst hgl'
  clear hg k2 k3 PT RG K2 q1 q2 q3 q4 w1 hGL hgl
  go_wp2_with fail
  go_loopw [10] (fun t wr => ∃ i : Nat, t = .int .i64 i ∧ i ≤ n ∧ wr = w3) (fun t _ => n - (intOf t).toNat)
  case atStart => exact ⟨0, rfl, Nat.zero_le _, rfl⟩
  case round =>
    obtain ⟨i, rfl, hi, rfl⟩ := hrel
    by_cases hgo : i < n
    · obtain ⟨b, off, s, rfl, hbl, hs, hc⟩ := TxtsAt.at (HAT.out.same K3.out) (i := i) (by rw [← HN.out]; exact hgo)
      have hz := strN_len s
      have hs8 := HS.out s (List.mem_of_getElem? hs)
      have g1 : (i : Int) < (n : Int) := by omega
      have g0 : (0 : Int) ≤ (i : Int) := by omega
      have g2 : ¬ (238 : Int) < (s.length : Int) := by omega
      clear hs
      go_wp2_with fail
      go_roundw
      case rel => exact ⟨i + 1, by go_num, by omega, trivial⟩
      case measure => simp [intOf]; omega
    · have g1 : ¬ (i : Int) < (n : Int) := by omega
      have hin : i = n := by omega
      subst hin
      clear hgo hi
      generalize wr = wm at *
      go_wp2_with fail
      go_loopw [9, 11] (fun ov t wr => ∃ j : Nat, t = .int .i64 j ∧ j ≤ gl ∧ RowsOwn wr wm.heap.size ov (packL e_ f (G.take j)) ∧ Same wm wr) (fun _ t _ => gl - (intOf t).toNat)
      case atStart => exact ⟨0, rfl, Nat.zero_le _, RowsOwn.nil _ _, Kept.refl _ _⟩
      case round =>
        obtain ⟨j, rfl, hj, hro, hk⟩ := hrel
        have RO := Lib.hid hro; have KS := Lib.hid hk
        have hks := hk.size
        obtain ⟨av, cv, rfl, hcv⟩ := hro.len
        clear hro hk
        by_cases hgo : j < gl
        · have hgG : G[j]? = some (G[j]'(by rw [HGL.out]; exact hgo)) := List.getElem?_eq_getElem _
          obtain ⟨g, hge⟩ : ∃ g, G[j]'(by rw [HGL.out]; exact hgo) = g := ⟨_, rfl⟩
          rw [hge] at hgG
          have hrl : j < rs.length := by rw [GA.out.len, HGL.out]; exact hgo
          have hrR : rs[j]? = some rs[j] := List.getElem?_eq_getElem hrl
          obtain ⟨⟨ra, rn, rc⟩, hre⟩ : ∃ r, rs[j] = r := ⟨_, rfl⟩
          rw [hre] at hrR
          have row := (GA.out.row j _ g hrR hgG).same KS.out
          obtain ⟨gb, go_, rfl, hgb⟩ := hga.out.there (fun q => by rw [q] at hrR; simp at hrR)
          have hc0 := hga.out.get hrR 0 (u := .slice ra rn rc) rfl
          have hc1 := (KS.out.cell (p := ⟨gb, go_ + j, none⟩) hgb (fun h => h)).trans (by simpa [rowE] using hc0)
          obtain ⟨gT, gL⟩ := GOK.out g (List.mem_of_getElem? hgG)
          have gS : ∀ s ∈ g, s.length ≤ 238 := fun s hs => by have := bdy_len_ge g s hs; omega
          have LY := Lib.hid (rq_lay e_ (f + j) HE.out.2 (by omega) ra rn rc g row.at.2 gS gL gT wr row.at.1)
          rw [Int.natCast_add] at LY
          have HPK : Hid (packL e_ f (G.take (j + 1)) = packL e_ f (G.take j) ++ [layS e_ (f + j) g]) := by
            show _ = _
            rw [List.take_add_one, hgG, Option.toList_some, packL_snoc, List.length_take, Nat.min_eq_left (by rw [HGL.out]; exact hj)]
          have LL := Lib.hid (layS_len e_ (f + j) gL)
          obtain ⟨Y, hY⟩ : ∃ Y, layS e_ (f + j) g = Y := ⟨_, rfl⟩
          rw [hY] at LY HPK LL
          have w2 : IntKind.i64.wrap ((f : Int) + (j : Int)) = (f : Int) + (j : Int) := IntWalk.i64_in _ (by omega)
          have g1 : (j : Int) < (gl : Int) := by omega
          have g0 : (0 : Int) ≤ (j : Int) := by omega
          obtain ⟨PL, hPL⟩ : ∃ PL, (packL e_ f (G.take j)).length = PL := ⟨_, rfl⟩
          have hPLl : PL ≤ 256 := by rw [← hPL, packL_len, List.length_take]; omega
          rw [hPL]
          have HPL := Lib.hid hPL
          clear row hc0 gT gL gS hgG hrR hre hge hY hPL
          go_wp2_with fail
          with_reducible refine LY.out.mono ?_
          rintro r w8 ⟨⟨v8, rfl, o8⟩, k8⟩
          obtain ⟨g8, c8, rfl, hg8, hg8l, hc8, n8⟩ := own_slice o8 (by intro q; have := LL.out; rw [q] at this; cases this)
          rw [LL.out] at hc8 ⊢
          have hvg : (Value.slice av (packL e_ f (G.take j)).length cv).ownBlock ≠ some g8 := by
            intro q
            obtain ⟨rs', h1, -, -⟩ := RO.out
            have := (h1.far g8 q).2
            omega
          obtain ⟨v9, w9, hrun, ro9, k9⟩ := rows_append (RO.out.same k8) (Nat.le_trans hks k8.size) (by rw [HPL.out]; omega) g8 256 c8 Y LL.out.symm hc8 (Nat.le_trans hks hg8) hg8l hvg n8
          rw [HPL.out] at hrun
          obtain ⟨aok, aV, aW⟩ := app_of hrun
          have RO9 := Lib.hid ro9
          have K9 := Lib.hid ((KS.out.trans k8).step k9 (fun q hq z => by omega))
          clear hrun ro9 k9 k8 o8 n8 hvg LY
          go_wp2_with fail
          go_roundw
          case rel => exact ⟨j + 1, by go_num, by omega, by rw [HPK.out]; exact RO9.out, K9.out⟩
          case measure => simp [intOf]; omega
        · have g2 : ¬ (j : Int) < (gl : Int) := by omega
          have hRO := RO.out
          have eT : G.take j = G := List.take_of_length_le (by rw [HGL.out]; omega)
          rw [eT] at hRO ⊢
          have hRO2 : RowsOwn wr w.heap.size (.slice av (packL e_ f G).length cv) (packS e_ f l) := by
            rw [HP.out]
            obtain ⟨rs', h1, h2, h3⟩ := hRO
            exact ⟨rs', h1.rebase hks3, h2, fun i r b hr hb => ⟨(h3 i r b hr hb).1, fun y hy => ⟨Nat.le_trans hks3 ((h3 i r b hr hb).2 y hy).1, ((h3 i r b hr hb).2 y hy).2⟩⟩⟩
          have RO2 := Lib.hid hRO2
          clear hRO hRO2 eT
          go_wp2_with fail
          go_ret2
          exact ⟨⟨_, rfl, RO2.out⟩, K3.out.trans KS.out⟩
end
end Go.Proofs.YtlmpkonfclnceaaGreat
