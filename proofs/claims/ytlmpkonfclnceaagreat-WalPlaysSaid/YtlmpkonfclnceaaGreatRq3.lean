/- The document's sector of texts: Read. -/
import Derived.Test.YtlmpkonfclnceaaGreatRq2
import Derived.Deep.RegionHeld3
import Derived.Deep.AppendLies
import Derived.Lib.MinMax
import Derived.Lib.QuietBelow
import Derived.Deep.QuietTactic
import Derived.BigQuiet
namespace Go.Proofs.YtlmpkonfclnceaaGreat
open Go.RowKit Go.Sort

section
variable {P : Program} {md : Region.Mode} {ops : Array Oper} {Q : Exit → Act → World → Prop} {S : World → Prop}
/-- A take at a known slot. -/
theorem take_atR {i t : Nat} {oi : Oper} {v : Value} {fuel : Nat} {listed : Array Bool} {a : Act} {w : World} (hi : ops[i]? = some oi) (hd : oi.dst = some t)
    (hs : Region.noSelect ops = true) (hf : Region.free md ops listed i = true) (hr : (Region.ready md ops listed).contains i = true)
    (hQ : ∀ c a w, Q (.panic c) (a.put (some t) v) w → Q (.panic c) a w) (hy : YieldsIf P ops S oi v a) (hS : S w)
    (h : wpAnyH P md ops Q S fuel (listed.setIfInBounds i true) (a.put (some t) v) w) : wpAnyH P md ops Q S (fuel + 1) listed a w :=
  wpAnyH_take hi hs hf hr (by rw [hd]; exact hQ) hy hS (by rw [hd]; exact h)
end
theorem Calls.quiet_sameR {P : Program} {f : FuncId} {args : Array Value} {w : World} {d : Nat} {os : Array Obj} {v : Value}
    (h : Calls P f args (grow (redrawn w d) os) fun e w' => e = .returned v ∧ Same (grow (redrawn w d) os) w') : Calls P f args (grow (redrawn w d) os) fun e w'' => e = .returned v ∧ ∃ p : Regrown, w'' = grow (redrawn w p.d) p.os :=
  Calls.regrown_of (h.mono fun _ _ ⟨h1, h2⟩ => ⟨h1, h2.below (Nat.le_refl _) (fun _ _ h => h)⟩)
section
attribute [local go_sem ↓] exec_app semAt_app
attribute [local go_sem] isApp_lit appA appX
set_option maxRecDepth 100000 in
set_option maxHeartbeats 1600000 in
theorem rq_read (g o c : Nat) (xs : List Nat) (hx : xs.length = 256) (hc : 256 ≤ c) (hb : Bts xs) (e_ t_ : Nat) (he : 1 ≤ e_ ∧ e_ ≤ 1099511627776) (ht : t_ < 256) (w : World) (hat : NatsAt w .u8 (some ⟨g, o, none⟩) xs) :
    Calls Tryz.prog 84 #[.slice (some ⟨g, o, none⟩) 256 c, .int .i64 (e_ : Nat), .int .i64 (t_ : Nat)] w (ReadPost w (readS xs (e_ : Nat) (t_ : Nat))) := by
  have hd := readS_doc (b := xs) (e := (e_ : Nat)) (a := (t_ : Nat)) (by unfold okE; simp; omega)
  rw [Int.toNat_natCast, Int.toNat_natCast] at hd
  rw [hd]
  have HAT := Lib.hid hat; have HX := Lib.hid hx; have HB := Lib.hid hb; have HE := Lib.hid he
  have c8 := nats_get hat (i := 8) (by omega)
  obtain ⟨x8, hx8⟩ : ∃ x, xs.getD 8 0 = x := ⟨_, rfl⟩
  have hx8l : x8 < 256 := by rw [← hx8]; exact getD_bts hb 8
  rw [hx8] at c8
  obtain ⟨m, hm⟩ : ∃ m, min x8 239 = m := ⟨_, rfl⟩
  have hml : m ≤ 239 := by omega
  have hmi : min (x8 : Int) 239 = (m : Int) := by omega
  obtain ⟨M, hM⟩ : ∃ M, 9 + m = M := ⟨_, rfl⟩
  have hMi : (9 : Int) + (m : Int) = (M : Int) := by omega
  have HD : Hid (docL xs = dps 256 xs 9 M) := by show docL xs = _; unfold docL; rw [hx8, hm, hM]
  have w1 : IntKind.i64.wrap ((9 : Int) + (m : Int)) = (M : Int) := by rw [hMi]; exact IntWalk.i64_in _ (by omega)
  have e1 := he.1
  have e2 := he.2
  have q1 : ¬ (e_ : Int) < 1 := by omega
  have q2 : ¬ (1099511627776 : Int) < (e_ : Int) := by omega
  have q3 : (0 : Int) ≤ (t_ : Int) := by omega
  have q4 : ¬ (256 : Int) ≤ (t_ : Int) := by omega
  obtain ⟨DL, hDL⟩ : ∃ DL, docL xs = DL := ⟨_, rfl⟩
  rw [hDL] at HD ⊢
  have DS : Hid (∀ s ∈ DL, s.length ≤ 238) := by rw [HD.out]; exact dps_short _ _ _ _ (Nat.le_refl _)
  have DB : Hid (TBts DL) := by rw [HD.out]; exact dps_bts _ _ _ _ hb
  have DN : Hid (DL.length ≤ 239) := by have := dps_len 256 xs 9 M; rw [← HD.out] at this; show _ ≤ _; omega
  have hMl : M ≤ 248 := by omega
  obtain ⟨R, hR⟩ : ∃ R, (if DL ≠ [] ∧ prt DL = 1 ∧ layS e_ t_ DL = xs then some DL else none) = R := ⟨_, rfl⟩
  rw [hR]
  have HR := Lib.hid hR
  clear hR
  clear hd hat hx hb he hx8 hm hM hDL
  go_enter Tryz.func84, Tryz.ntmps84
  go_wp2_with fail
  clear q1 q2 q3 q4 c8
  go_loopw [8, 10] (fun v t wr => ∃ (i : Nat) (acc : List (List Nat)), t = .int .i64 i ∧ 9 ≤ i ∧ i ≤ 600 ∧ OwnT wr w.heap.size v acc ∧ acc.length ≤ i ∧ DL = acc ++ dps 256 xs i M ∧ Same w wr) (fun _ t _ => M - (intOf t).toNat)
  case atStart => exact ⟨9, [], rfl, Nat.le_refl _, by omega, OwnE.nil _ _ _, Nat.zero_le _, HD.out, Kept.refl _ _⟩
  case round =>
    obtain ⟨i, acc, rfl, h9, hi6, hown, hal, hdl, hk⟩ := hrel
    have OWN := Lib.hid hown; have K := Lib.hid hk; have HDL := Lib.hid hdl
    have hks := hk.size
    clear hown hk hdl
    by_cases hgo : i < M
    · have ci := nats_get (HAT.out.same K.out) (i := i) (by have := HX.out; omega)
      obtain ⟨x, hx⟩ : ∃ x, xs.getD i 0 = x := ⟨_, rfl⟩
      have hxl : x < 256 := by rw [← hx]; exact getD_bts HB.out i
      rw [hx] at ci
      have hst := dps_step (f := 256) (b := xs) (i := i) (e := M) (by omega) hgo
      rw [hx] at hst
      obtain ⟨k, hk⟩ : ∃ k, min 248 (i + 1 + x) = k := ⟨_, rfl⟩
      rw [hk] at hst
      obtain ⟨s, hs⟩ : ∃ s, (xs.drop (i + 1)).take (k - (i + 1)) = s := ⟨_, rfl⟩
      rw [hs] at hst
      have hki : min (248 : Int) ((i : Int) + 1 + (x : Int)) = (k : Int) := by omega
      have hkl : i + 1 ≤ k ∧ k ≤ 248 := by omega
      have w2 : IntKind.i64.wrap ((i : Int) + 1) = (i : Int) + 1 := IntWalk.i64_in _ (by omega)
      have w3 : IntKind.i64.wrap ((i : Int) + 1 + (x : Int)) = (i : Int) + 1 + (x : Int) := IntWalk.i64_in _ (by omega)
      have w4 : IntKind.i64.wrap (1 + (x : Int)) = 1 + (x : Int) := IntWalk.i64_in _ (by omega)
      have w5 : IntKind.i64.wrap ((i : Int) + (1 + (x : Int))) = (i : Int) + (1 + (x : Int)) := IntWalk.i64_in _ (by omega)
      have g1 : (i : Int) < (M : Int) := by omega
      have g0 : (0 : Int) ≤ (i : Int) := by omega
      have g2 : (i : Int) < 256 := by omega
      have g3 : (0 : Int) ≤ (i : Int) + 1 := by omega
      have g4 : (i : Int) + 1 ≤ (k : Int) := by omega
      have g5 : (k : Int) ≤ (c : Int) := by omega
      have g6 : ((i : Int) + 1).toNat = i + 1 := by omega
      have g7 : ¬ c = i + 1 := by omega
      have hsl : s.length = k - (i + 1) := by rw [← hs, List.length_take, List.length_drop]; have := HX.out; omega
      have HST := Lib.hid hst
      have hv := conv_str (some ⟨g, o + (i + 1), none⟩) (k - (i + 1)) (c - (i + 1)) s wr hsl.symm (by rw [← hs]; exact ((HAT.out.same K.out).drop (i + 1)).take _)
      obtain ⟨v5, w5', hrun, ow5, k5⟩ := txt_append OWN.out hks (by omega) s
      obtain ⟨aok, aV, aW⟩ := app_of hrun
      have OW5 := Lib.hid ow5
      have K5 := Lib.hid (K.out.step k5 (fun j hj q => by omega))
      have ci5 := nats_get (HAT.out.same K5.out) (i := i) (by have := HX.out; omega)
      rw [hx] at ci5
      clear hrun ow5 k5 hst hsl hs hk hx
      go_wp2_with fail
      go_roundw
      case rel => exact ⟨i + 1 + x, acc ++ [s], by go_num, by omega, by omega, OW5.out, by simp; omega, by rw [HDL.out, HST.out]; simp, K5.out⟩
      case measure => simp [intOf]; omega
    · have e3 : dps 256 xs i M = [] := dps_end _ _ _ _ (by omega)
      have g1 : ¬ (i : Int) < (M : Int) := by omega
      have hacc : DL = acc := by rw [HDL.out, e3, List.append_nil]
      subst hacc
      obtain ⟨a0, l0, c0, rfl, hl0, hn0, ha0, hc0⟩ := OWN.out.rd
      by_cases hz : l0 = 0
      · subst hz
        have hnil : DL = [] := List.eq_nil_of_length_eq_zero hl0.out.symm
        have HRN : Hid (R = none) := by show _ = _; rw [← HR.out, if_neg (fun h => h.1 hnil)]
        clear hnil e3 ha0 hl0
        go_wp2_with fail
        refine wp_region_quiet_below (by kernel_rfl) (by kernel_rfl) ?_
        repeat (first | go_big_quiet_step (fail) | quiet_step (fail))
        refine wpQuiet_nil ?_
        intro _ hw'
        obtain ⟨⟨dq, osq⟩, hw''⟩ := hw'
        subst hw''
        have kq := Lib.hid (show Same wr _ from Kept.of_below (below_regrown wr dq osq))
        go_wp2_with fail
        go_ret2
        rw [HRN.out]
        exact readPost_none _ _ (K.out.trans kq.out)
      · have gz : ¬ (l0 : Int) = 0 := by omega
        have gz1 : ((l0 : Int) == 0) = false := by simpa using gz
        have hne : DL ≠ [] := by intro q; have := hl0.out; rw [q] at this; exact hz this
        have PT := Lib.hid fun w' (kk : Same wr w') => rp_parts a0 l0 c0 DL hl0.out (by have := hl0.out; have := DN.out; omega) w' (ha0.out.same kk)
        by_cases hp : prt DL = 1
        · have hbd := one_bdy hp DS.out
          have LY := Lib.hid fun w' (kk : Same wr w') => rq_lay e_ t_ HE.out.2 ht a0 l0 c0 DL hl0.out DS.out hbd DB.out w' (ha0.out.same kk)
          have QC : Hid (∀ w', Same wr w' → (convert 29 9 (.slice (some ⟨g, o, none⟩) 256 c)).run Tryz.prog w' = .ok (.string (strN xs)) w') := fun w' kk => conv_str _ _ _ xs w' HX.out.symm (HAT.out.same (K.out.trans kk))
          have LB : Hid (Bts (layS e_ t_ DL)) := layS_bts _ _ DB.out hbd
          obtain ⟨Y, hY⟩ : ∃ Y, layS e_ t_ DL = Y := ⟨_, rfl⟩
          rw [hY] at LB
          have SB := Lib.hid (str_beq LB.out HB.out)
          have HRY : Hid (R = if Y = xs then some DL else none) := by
            show _ = _
            rw [← HR.out, hY]
            by_cases q : Y = xs
            · rw [if_pos ⟨hne, hp, q⟩, if_pos q]
            · rw [if_neg (fun h => q h.2.2), if_neg q]
          simp only [hY] at LY
          rw [hp] at PT
          have KN := Lib.hid (Kept.refl (fun _ => False) wr)
          clear hne hp hbd hY ha0 hl0 e3
          go_wp2_with fail
          refine wp_region_held_drew (S := fun w' => (convert 29 9 (.slice (some ⟨g, o, none⟩) 256 c)).run Tryz.prog w' = .ok (.string (strN xs)) w') (by kernel_rfl) (QC.out _ (Kept.refl _ _).drew) (fun hHeld => ?_)
          refine take_atR (i := 0) (t := 64) (v := ?_) rfl rfl (by kernel_rfl) (by kernel_rfl) (by kernel_rfl) (fun _ _ _ h => h) (Or.inl ⟨by rfl, ?_⟩) (by assumption) ?_
          rotate_left
          · (intro w hSw; (try dsimp only at hSw); go_simp; (try with_reducible rfl))
          simp only [Act.put, List.setIfInBounds_toArray, List.set_cons_zero, List.set_cons_succ]
          refine take_atR (i := 1) (t := 65) (v := ?_) rfl rfl (by kernel_rfl) (by kernel_rfl) (by kernel_rfl) (fun _ _ _ h => h) (Or.inl ⟨by rfl, ?_⟩) (by assumption) ?_
          rotate_left
          · (intro w hSw; (try dsimp only at hSw); go_simp; (try with_reducible rfl))
          simp only [Act.put, List.setIfInBounds_toArray, List.set_cons_zero, List.set_cons_succ]
          refine take_atR (i := 2) (t := 66) (v := ?_) rfl rfl (by kernel_rfl) (by kernel_rfl) (by kernel_rfl) (fun _ _ _ h => h) (Or.inl ⟨by rfl, ?_⟩) (by assumption) ?_
          rotate_left
          · (intro w hSw; (try dsimp only at hSw); go_simp; (try with_reducible rfl))
          simp only [Act.put, List.setIfInBounds_toArray, List.set_cons_zero, List.set_cons_succ]
          refine take_atR (i := 3) (t := 67) (v := ?_) rfl rfl (by kernel_rfl) (by kernel_rfl) (by kernel_rfl) (fun _ _ _ h => h) (Or.inl ⟨by rfl, ?_⟩) (by assumption) ?_
          rotate_left
          · (intro w hSw; (try dsimp only at hSw); go_simp; (try with_reducible rfl))
          simp only [Act.put, List.setIfInBounds_toArray, List.set_cons_zero, List.set_cons_succ]
          refine take_atR (i := 4) (t := 68) (v := ?_) rfl rfl (by kernel_rfl) (by kernel_rfl) (by kernel_rfl) (fun _ _ _ h => h) (Or.inl ⟨by rfl, ?_⟩) (by assumption) ?_
          rotate_left
          · (intro w hSw; (try dsimp only at hSw); go_simp; (try with_reducible rfl))
          simp only [Act.put, List.setIfInBounds_toArray, List.set_cons_zero, List.set_cons_succ]
          refine wpAnyH_ready (rs := [5]) (by kernel_rfl) (by simp) ?_
          refine AllReadyH.cons rfl (fun K hK => ?_) AllReadyH.nil
          go_simp
          with_reducible refine (PT.out _ (by first | with_reducible exact KN.out | with_reducible exact KN.out.drew)).mono ?_
          rintro e w6 ⟨rfl, k6⟩
          have KN' := Lib.hid (show Same wr w6 from Kept.trans (by first | with_reducible exact KN.out | with_reducible exact KN.out.drew) k6); clear KN k6; have KN := KN'; clear KN'
          dsimp only
          refine hK.out _ _ ?_ (fun hHeld2 => ?_)
          · exact QC.out _ KN.out
          clear hK K hHeld
          refine take_atR (i := 6) (t := 70) (v := ?_) rfl rfl (by kernel_rfl) (by kernel_rfl) (by kernel_rfl) (fun _ _ _ h => h) (Or.inl ⟨by rfl, ?_⟩) (by assumption) ?_
          rotate_left
          · (intro w hSw; (try dsimp only at hSw); go_simp; (try with_reducible rfl))
          simp only [Act.put, List.setIfInBounds_toArray, List.set_cons_zero, List.set_cons_succ]
          refine take_atR (i := 7) (t := 71) (v := ?_) rfl rfl (by kernel_rfl) (by kernel_rfl) (by kernel_rfl) (fun _ _ _ h => h) (Or.inl ⟨by rfl, ?_⟩) (by assumption) ?_
          rotate_left
          · (intro w hSw; (try dsimp only at hSw); go_simp; (try with_reducible rfl))
          simp only [Act.put, List.setIfInBounds_toArray, List.set_cons_zero, List.set_cons_succ]
          refine take_atR (i := 8) (t := 72) (v := ?_) rfl rfl (by kernel_rfl) (by kernel_rfl) (by kernel_rfl) (fun _ _ _ h => h) (Or.inl ⟨by rfl, ?_⟩) (by assumption) ?_
          rotate_left
          · (intro w hSw; (try dsimp only at hSw); go_simp; (try with_reducible rfl))
          simp only [Act.put, List.setIfInBounds_toArray, List.set_cons_zero, List.set_cons_succ]
          refine take_atR (i := 9) (t := 73) (v := ?_) rfl rfl (by kernel_rfl) (by kernel_rfl) (by kernel_rfl) (fun _ _ _ h => h) (Or.inl ⟨by rfl, ?_⟩) (by assumption) ?_
          rotate_left
          · (intro w hSw; (try dsimp only at hSw); go_simp; (try with_reducible rfl))
          simp only [Act.put, List.setIfInBounds_toArray, List.set_cons_zero, List.set_cons_succ]
          refine take_atR (i := 10) (t := 74) (v := ?_) rfl rfl (by kernel_rfl) (by kernel_rfl) (by kernel_rfl) (fun _ _ _ h => h) (Or.inl ⟨by rfl, ?_⟩) (by assumption) ?_
          rotate_left
          · (intro w hSw; (try dsimp only at hSw); go_simp; (try with_reducible rfl))
          simp only [Act.put, List.setIfInBounds_toArray, List.set_cons_zero, List.set_cons_succ]
          refine take_atR (i := 11) (t := 75) (v := ?_) rfl rfl (by kernel_rfl) (by kernel_rfl) (by kernel_rfl) (fun _ _ _ h => h) (Or.inl ⟨by rfl, ?_⟩) (by assumption) ?_
          rotate_left
          · (intro w hSw; (try dsimp only at hSw); go_simp; (try with_reducible rfl))
          simp only [Act.put, List.setIfInBounds_toArray, List.set_cons_zero, List.set_cons_succ]
          refine take_atR (i := 14) (t := 78) (v := ?_) rfl rfl (by kernel_rfl) (by kernel_rfl) (by kernel_rfl) (fun _ _ _ h => h) (Or.inl ⟨by rfl, ?_⟩) (by assumption) ?_
          rotate_left
          · (intro w hSw; (try dsimp only at hSw); go_simp; (try with_reducible rfl))
          simp only [Act.put, List.setIfInBounds_toArray, List.set_cons_zero, List.set_cons_succ]
          refine take_atR (i := 15) (t := 79) (v := ?_) rfl rfl (by kernel_rfl) (by kernel_rfl) (by kernel_rfl) (fun _ _ _ h => h) (Or.inl ⟨by rfl, ?_⟩) (by assumption) ?_
          rotate_left
          · (intro w hSw; (try dsimp only at hSw); go_simp; (try with_reducible rfl))
          simp only [Act.put, List.setIfInBounds_toArray, List.set_cons_zero, List.set_cons_succ]
          refine wpAnyH_ready (rs := [12]) (by kernel_rfl) (by simp) ?_
          refine AllReadyH.cons rfl (fun K hK => ?_) AllReadyH.nil
          go_simp
          with_reducible refine (LY.out _ (by first | with_reducible exact KN.out | with_reducible exact KN.out.drew)).mono ?_
          rintro e w8 ⟨⟨v8, rfl, o8⟩, k8⟩
          obtain ⟨a8, l8, c8, rfl, hl8, -, n8, -⟩ := o8.rd
          have hv8 := conv_str a8 l8 c8 Y w8 hl8.out n8.out
          clear o8 n8 hl8
          have KN' := Lib.hid (show Same wr w8 from Kept.trans (by first | with_reducible exact KN.out | with_reducible exact KN.out.drew) k8); clear KN k8; have KN := KN'; clear KN'
          dsimp only
          refine hK.out _ _ ?_ (fun hHeld3 => ?_)
          · exact QC.out _ KN.out
          clear hK K hHeld2
          refine wpAnyH_ready (rs := [13]) (by kernel_rfl) (by simp) ?_
          refine AllReadyH.cons rfl (fun K hK => ?_) AllReadyH.nil
          go_simp
          refine hK.out _ _ ?_ (fun hHeld4 => ?_)
          · exact QC.out _ KN.out
          clear hK K hHeld3
          refine take_atR (i := 16) (t := 80) (v := ?_) rfl rfl (by kernel_rfl) (by kernel_rfl) (by kernel_rfl) (fun _ _ _ h => h) (Or.inl ⟨by rfl, ?_⟩) (by assumption) ?_
          rotate_left
          · (intro w hSw; (try dsimp only at hSw); go_simp; (try with_reducible rfl))
          simp only [Act.put, List.setIfInBounds_toArray, List.set_cons_zero, List.set_cons_succ]
          refine take_atR (i := 17) (t := 81) (v := ?_) rfl rfl (by kernel_rfl) (by kernel_rfl) (by kernel_rfl) (fun _ _ _ h => h) (Or.inl ⟨by rfl, ?_⟩) (by assumption) ?_
          rotate_left
          · (intro w hSw; (try dsimp only at hSw); go_simp; (try with_reducible rfl))
          simp only [Act.put, List.setIfInBounds_toArray, List.set_cons_zero, List.set_cons_succ]
          refine wpAnyH_done (by kernel_rfl) ?_ _
          have K8 := Lib.hid (K.out.trans KN.out)
          have O8 := Lib.hid (OWN.out.same KN.out)
          by_cases heq : Y = xs
          · have sb : ((strN Y).toList == (strN xs).toList) = true := by rw [SB.out]; exact decide_eq_true heq
            have sn : (!((strN Y).toList == (strN xs).toList)) = false := by rw [sb]; rfl
            have HRN : Hid (R = some DL) := by show _ = _; rw [HRY.out, if_pos heq]
            clear heq hv8 hHeld4
            go_wp2_with fail
            all_goals first
              | (rename_i hbad; exact absurd (sn.symm.trans hbad) (by decide))
              | (go_ret2; rw [HRN.out]; exact ⟨⟨_, rfl, O8.out⟩, K8.out⟩)
          · have sb : ((strN Y).toList == (strN xs).toList) = false := by rw [SB.out]; exact decide_eq_false heq
            have sn : (!((strN Y).toList == (strN xs).toList)) = true := by rw [sb]; rfl
            have HRN : Hid (R = none) := by show _ = _; rw [HRY.out, if_neg heq]
            clear heq hv8 hHeld4
            go_wp2_with fail
            all_goals first
              | (rename_i hbad; exact absurd (sn.symm.trans hbad) (by decide))
              | (go_ret2; rw [HRN.out]; exact readPost_none _ _ K8.out)
        · have hpi : ¬ ((prt DL : Nat) : Int) = 1 := by omega
          have hpb : (((prt DL : Nat) : Int) == 1) = false := by simpa using hpi
          have hpc : (((prt DL : Nat) : Int) != 1) = true := by simpa using hpi
          have HRN : Hid (R = none) := by show _ = _; rw [← HR.out, if_neg (fun h => hp h.2.1)]
          have C1 : Hid (∀ dq os, Calls Tryz.prog 67 #[.slice a0 l0 c0] (grow (redrawn wr dq) os) fun e w'' => e = .returned (.int .i64 ((prt DL : Nat) : Int)) ∧ ∃ p : Regrown, w'' = grow (redrawn wr p.d) p.os) := fun dq os => Calls.quiet_sameR (PT.out _ (Kept.of_below (below_regrown wr dq os)))
          generalize prt DL = Z at *
          clear hp PT hne e3 ha0 hl0
          go_wp2_with fail
          refine wp_region_quiet_below (by kernel_rfl) (by kernel_rfl) ?_
          repeat (first | go_big_quiet_step (exact C1.out _ _) | quiet_step (exact C1.out _ _))
          refine wpQuiet_nil ?_
          intro _ hw'
          obtain ⟨⟨dq, osq⟩, hw''⟩ := hw'
          subst hw''
          have kq := Lib.hid (show Same wr _ from Kept.of_below (below_regrown wr dq osq))
          go_wp2_with fail
          go_ret2
          rw [HRN.out]
          exact readPost_none _ _ (K.out.trans kq.out)
end
end Go.Proofs.YtlmpkonfclnceaaGreat
