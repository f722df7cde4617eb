/- What was committed at a time. -/
import Derived.Test.YtaeiajodbpgbbaaHv4
import Derived.Test.YtaeiajodbpgbbaaSrt4
namespace Go.Proofs.Ytaeiajodbpgbbaa
open Go.RowKit Go.Sort Go.Shelf

/-- Is an event a commit up to a time? -/
def cmf (at_ : Int) (e : HEv) : Bool := e.k == 3 && decide (e.t ≤ at_)
theorem cmf_snoc (at_ : Int) (l : List HEv) (x : HEv) : (l ++ [x]).filter (cmf at_) = if x.k = 3 ∧ x.t ≤ at_ then l.filter (cmf at_) ++ [x] else l.filter (cmf at_) := by
  rw [List.filter_append]
  by_cases h : x.k = 3 ∧ x.t ≤ at_
  · rw [if_pos h]; simp [cmf, h.1, h.2]
  · rw [if_neg h]
    have : cmf at_ x = false := by
      unfold cmf
      by_cases h1 : x.k = 3
      · have h2 : ¬ x.t ≤ at_ := fun q => h ⟨h1, q⟩
        simp [h1, h2]
      · simp [h1]
    simp [this]
/-- What was committed at a time. -/
def stF (l : List HEv) (at_ : Int) : SMap := (stb ltT (l.filter (cmf at_))).foldl (fun g e => ovF g l e.x) (fun _ => none)
set_option maxRecDepth 100000 in
theorem sr_nil (w : World) : Calls Try.prog 29 #[.slice none 0 0, .func (.func 30) #[] #[]] w fun e w' => e = .returned (.tuple #[]) ∧ w' = w := by
  have ins : Calls Try.prog 55 #[.slice none 0 0, .int .i64 0, .int .i64 0, .func (.func 30) #[] #[]] w fun e w' => e = .returned (.tuple #[]) ∧ w' = w := by
    go_enter Try.func55, Try.ntmps55
    go_wp2_with fail
    go_loopw [8] (fun t wr => t = .int .i64 1 ∧ wr = w) (fun _ _ => 0)
    case atStart => exact ⟨rfl, rfl⟩
    case round =>
      obtain ⟨rfl, rfl⟩ := hrel
      go_wp2_with fail
      go_end0
      exact ⟨rfl, rfl⟩
  have st : Calls Try.prog 43 #[.slice none 0 0, .int .i64 0, .func (.func 30) #[] #[]] w fun e w' => e = .returned (.tuple #[]) ∧ w' = w := by
    have INS := Lib.hid ins
    clear ins
    go_enter Try.func43, Try.ntmps43
    go_wp2_with fail
    go_loopw [7, 8] (fun t u wr => t = .int .i64 0 ∧ u = .int .i64 20 ∧ wr = w) (fun _ _ _ => 0)
    case atStart => exact ⟨rfl, rfl, rfl⟩
    case round =>
      obtain ⟨rfl, rfl, rfl⟩ := hrel
      go_wp2_with fail
      with_reducible refine INS.out.mono ?_
      rintro e w1 ⟨rfl, hw1⟩
      subst hw1
      clear INS
      go_wp2_with fail
      obtain ⟨wm, hwm⟩ : ∃ wm, w1 = wm := ⟨_, rfl⟩
      rw [hwm]
      have HWM := Lib.hid hwm
      clear hwm
      go_loopw [6] (fun t wr => t = .int .i64 20 ∧ wr = wm) (fun _ _ => 0)
      case atStart => exact ⟨rfl, rfl⟩
      case round =>
        obtain ⟨rfl, rfl⟩ := hrel
        go_wp2_with fail
        go_end0
        exact ⟨rfl, HWM.out.symm⟩
  have ST := Lib.hid st
  clear st ins
  go_enter Try.func29, Try.ntmps29
  go_wp2_with fail
  with_reducible refine ST.out.mono ?_
  rintro e w1 ⟨rfl, rfl⟩
  go_wp2_with fail
  go_end0
  exact ⟨rfl, rfl⟩
/-- A sort of a slice of one's own. -/
theorem sr_own {w : World} {base : Nat} {v : Value} {l : List HEv} (h : OwnE evE w base 42 v l) (hl : l.length ≤ 40) :
    Calls Try.prog 29 #[v, .func (.func 30) #[] #[]] w fun e w' => e = .returned (.tuple #[]) ∧ Kept (fun j => base ≤ j) w w' ∧ ∃ a c, v = .slice a l.length c ∧ ElsAt evE w' a (stb ltT l) := by
  by_cases hs : l = []
  · subst hs
    obtain ⟨a, cap, rfl, hat, hnil, _, _⟩ := h.els
    rcases h.2 with ⟨h0, _⟩ | ⟨g, cap', cur, q, h1, h2, h3, h4, h5, h6⟩
    · simp at h0
      obtain ⟨rfl, rfl⟩ := h0
      exact (sr_nil w).mono (fun e w' ⟨h1, h2⟩ => ⟨h1, h2 ▸ Kept.refl _ _, none, 0, rfl, .inl rfl⟩)
    · simp at q
      obtain ⟨rfl, rfl⟩ := q
      have R := rowK_own (l := []) h2 (by simp [Enc.all])
      refine (sr_SortStable (cap := cap) R rfl (by simp) [] rfl).mono ?_
      rintro e w' ⟨h1', dk, hs, hd, hw⟩
      have hw' : SWK encH k6 w g 0 dk w' := hw
      exact ⟨h1', (SWK.keptJ hw').mono (fun j _ q => by omega), _, _, rfl, .inl rfl⟩
  · obtain ⟨g, cap, cur, rfl, h1, h2, h3, h4, h5, h6⟩ := h.read hs
    have R := rowK_own h2 h6
    refine (sr_SortStable (cap := cap) R (by simp) hl l (by simp)).mono ?_
    rintro e w' ⟨h1', dk, hs, hd, hw⟩
    have hw' : SWK encH k6 w g 0 dk w' := hw
    refine ⟨h1', (SWK.keptJ hw').mono (fun j _ q => by omega), _, _, rfl, ?_⟩
    rw [← hd]
    exact SWK.els R hw' (by rw [hs]; simp)
/-- What state tells. -/
def StPost (w : World) (g : SMap) (e : Ending) (w' : World) : Prop := (∃ m, e = .returned (.map (some m)) ∧ MapT w' m g ∧ w.heap.size ≤ m) ∧ Same w w'
section
attribute [local go_sem ↓] exec_app semAt_app
attribute [local go_sem] isApp_lit appA appX
set_option maxRecDepth 100000 in
set_option maxHeartbeats 800000 in
theorem hv_state (a : Option Addr) (n c : Nat) (l : List HEv) (hn : n = l.length) (hl : n ≤ 40) (at_ : Int) (w : World) (hat : ElsAt evE w a l) :
    Calls Try.prog 19 #[.slice a n c, .int .i64 at_] w (StPost w (stF l at_)) := by
  have HN := Lib.hid hn; have HAT := Lib.hid hat
  have hmm := @run_makeMap Try.prog
  clear hn hat
  go_enter Try.func19, Try.ntmps19
  go_wp2_with fail
  go_loopw [5, 13] (fun v t wr => ∃ (i : Nat), t = .int .i64 i ∧ i ≤ n ∧ OwnE evE wr w.heap.size 42 v ((l.take i).filter (cmf at_)) ∧ Same w wr) (fun _ t _ => n - (intOf t).toNat)
  case atStart => exact ⟨0, rfl, by omega, OwnE.nil _ _ _, Kept.refl _ _⟩
  case round =>
    obtain ⟨i, rfl, hi, hg, hk⟩ := hrel
    have K := Lib.hid hk; have HG := Lib.hid hg
    clear hk hg
    by_cases hgo : i < n
    · have hil : i < l.length := by have := HN.out; omega
      obtain ⟨b, off, rfl, hbl, hc⟩ := ev_at HAT.out hil
      obtain ⟨c0, c1, c2, c3, c4, c5⟩ := hc _ K.out
      obtain ⟨x, hx⟩ : ∃ x, l[i] = x := ⟨_, rfl⟩
      have TK := Lib.hid (show l.take (i + 1) = l.take i ++ [x] by rw [← hx, List.take_append_getElem])
      rw [hx] at c0 c1 c2 c3 c4 c5
      have g1 : (i : Int) < (n : Int) := by omega
      have g0 : (0 : Int) ≤ (i : Int) := by omega
      have CM := Lib.hid (cmf_snoc at_ (l.take i) x)
      have LN := Lib.hid (show ((l.take i).filter (cmf at_)).length ≤ 100000 from Nat.le_trans (List.length_filter_le _ _) (by rw [List.length_take]; omega))
      go_upto_region 5 with fail
      refine cutWl (fun wn => Fr wn [(wr.heap.size, #[.int .u8 (x.k : Nat), .int .i64 x.x, .int .i64 x.t, encStr x.key, encStr x.val, .bool x.is], 42)] ∧ Same wr wn) ⟨⟨Blk.new _ _ _, trivial⟩, (Kept.refl _ _).alloc _⟩ ?_
      rintro w4 ⟨hf4, k4⟩
      have F4 := Lib.hid hf4
      have K4 := Lib.hid (K.out.trans k4)
      have KR := Lib.hid k4
      obtain ⟨p0, f0, -⟩ := F4.out.rules
      have z0 := F4.out.1.lt
      clear hf4 k4 c0 c1 c2 c3 c4 c5 hc
      by_cases hw : x.k = 3 ∧ x.t ≤ at_
      · have gk : ((x.k : Nat) : Int) = 3 := by omega
        have gt : x.t ≤ at_ := hw.2
        obtain ⟨v', w', hrun, ho, k5⟩ := ev_push (HG.out.same KR.out) K4.out.size LN.out x
        have K5 := Lib.hid (K4.out.step k5 (fun j hj q => by omega))
        have HO := Lib.hid ho
        rw [gk] at hrun
        obtain ⟨aok, aV, aW⟩ := app_of hrun
        have HW := Lib.hid hw
        clear hrun ho k5 hx hw
        go_wp2_with fail
        refine ⟨⟨i + 1, by go_num, by omega, by rw [TK.out, CM.out, if_pos HW.out]; exact HO.out, K5.out⟩, by simp [intOf]; omega⟩
      · have HW := Lib.hid hw
        by_cases h3 : x.k = 3
        · have gk : ((x.k : Nat) : Int) = 3 := by omega
          have gt : ¬ x.t ≤ at_ := fun q => hw ⟨h3, q⟩
          clear hx hw h3
          go_wp2_with fail
          refine ⟨⟨i + 1, by go_num, by omega, by rw [TK.out, CM.out, if_neg HW.out]; exact HG.out.same KR.out, K4.out⟩, by simp [intOf]; omega⟩
        · have gk : ¬ ((x.k : Nat) : Int) = 3 := by omega
          clear hx hw h3
          go_wp2_with fail
          refine ⟨⟨i + 1, by go_num, by omega, by rw [TK.out, CM.out, if_neg HW.out]; exact HG.out.same KR.out, K4.out⟩, by simp [intOf]; omega⟩
    · have hin : i = n := by omega
      have g1 : ¬ (i : Int) < (n : Int) := by omega
      have e1 : l.take i = l := List.take_of_length_le (by have := HN.out; omega)
      rw [e1] at HG
      have hsz := K.out.size
      obtain ⟨M, hM⟩ : ∃ M, l.filter (cmf at_) = M := ⟨_, rfl⟩
      have ML := Lib.hid (show M.length ≤ 40 from by rw [← hM]; exact Nat.le_trans (List.length_filter_le _ _) (by have := HN.out; omega))
      have MS := Lib.hid (show ∀ x ∈ M, x ∈ l from fun x hx => (List.mem_filter.1 (hM ▸ hx)).1)
      have HMM := Lib.hid hM
      rw [hM] at HG
      clear hM e1 hin hgo
      go_wp2_with fail
      with_reducible refine (sr_own HG.out ML.out).mono ?_
      rintro e w5 ⟨rfl, k5, a5, c5, rfl, hat5⟩
      have K5 := Lib.hid (K.out.step k5 (fun j hj q => by omega))
      have HAT5 := Lib.hid hat5
      clear k5 hat5 HG K
      obtain ⟨N5, hN5⟩ : ∃ N5, M.length = N5 := ⟨_, rfl⟩
      rw [hN5]
      have HN5 := Lib.hid hN5
      have hN5l : N5 ≤ 40 := by rw [← hN5]; exact ML.out
      have hsz5 := K5.out.size
      clear hN5
      go_upto_region 10 with fail
      obtain ⟨m, hm⟩ : ∃ m, w5.heap.size = m := ⟨_, rfl⟩
      rw [hm]
      refine cutWl (fun wn => MapT wn m (fun _ => none) ∧ Same w5 wn) ⟨(hm ▸ MapK.new keyE_enc w5 : MapS _ m (fun _ => none)).congr (fun _ => rfl), (Kept.refl _ _).alloc _⟩ ?_
      rintro w6 ⟨hm6, k6'⟩
      have HM6 := Lib.hid hm6
      have K6 := Lib.hid (K5.out.trans k6')
      have HMZ := Lib.hid hm
      obtain ⟨S, hS⟩ : ∃ S, stb ltT M = S := ⟨_, rfl⟩
      have HAT6 := Lib.hid (show ElsAt evE w6 a5 S ∧ (S ≠ [] → ∀ x, a5 = some x → x.block ≠ m) from by
        rw [← hS]
        refine ⟨HAT5.out.same k6', fun hne x hx => ?_⟩
        obtain ⟨b, off, e, hb⟩ := HAT5.out.there hne
        rw [e] at hx; cases hx
        show b ≠ m
        omega)
      have HATL := Lib.hid (show ElsAt evE w6 a l ∧ (l ≠ [] → ∀ x, a = some x → x.block ≠ m) from by
        refine ⟨HAT.out.same K6.out, fun hne x hx => ?_⟩
        obtain ⟨b, off, e, hb⟩ := HAT.out.there hne
        rw [e] at hx; cases hx
        show b ≠ m
        omega)
      have HSM := Lib.hid (show ∀ x ∈ S, x ∈ l from fun x hx => MS.out x ((mem_stb x M).1 (hS ▸ hx)))
      have HSN := Lib.hid (show N5 = S.length from by rw [← hS, len_stb]; exact HN5.out.symm)
      have HSF := Lib.hid (show stF l at_ = S.foldl (fun g e => ovF g l e.x) (fun _ => none) from by unfold stF; rw [HMM.out, hS])
      have hmw : w.heap.size ≤ m := by omega
      clear hm6 k6' hm hS HAT5 HAT MS HMM HN5 ML hsz5 hsz hmm K5
      go_wp2_with fail
      generalize wr = wm at *
      go_loopw [36] (fun t wr => ∃ (i : Nat), t = .int .i64 i ∧ i ≤ N5 ∧ MapT wr m ((S.take i).foldl (fun g e => ovF g l e.x) (fun _ => none)) ∧ Kept (fun j => j = m) w6 wr) (fun t _ => N5 - (intOf t).toNat)
      case atStart => exact ⟨0, rfl, by omega, HM6.out, Kept.refl _ _⟩
      case round =>
        clear HM6
        obtain ⟨i', rfl, hi', hg, hk⟩ := hrel
        have KW := Lib.hid hk; have HG := Lib.hid hg
        clear hk hg
        by_cases hgo : i' < N5
        · have hil : i' < S.length := by have := HSN.out; omega
          have hSne : S ≠ [] := fun e => by rw [e] at hil; simp at hil
          have hATr : ElsAt evE wr a5 S := HAT6.out.1.kept KW.out (HAT6.out.2 hSne)
          obtain ⟨b, off, rfl, hbl, hc⟩ := ev_at hATr hil
          have K := Lib.hid (Kept.refl (fun _ => False) wr)
          obtain ⟨c0, c1, c2, c3, c4, c5⟩ := hc _ K.out
          obtain ⟨x, hx⟩ : ∃ x, S[i'] = x := ⟨_, rfl⟩
          have hxl : x ∈ l := HSM.out x (hx ▸ List.getElem_mem hil)
          have hlne : l ≠ [] := fun e => by rw [e] at hxl; cases hxl
          have TK := Lib.hid (show (S.take (i' + 1)).foldl (fun g e => ovF g l e.x) (fun _ => none) = ovF ((S.take i').foldl (fun g e => ovF g l e.x) (fun _ => none)) l x.x by rw [← List.take_append_getElem hil, List.foldl_append, hx]; rfl)
          rw [hx] at c0 c1 c2 c3 c4 c5
          have g1 : (i' : Int) < (N5 : Int) := by omega
          have g0 : (0 : Int) ≤ (i' : Int) := by omega
          have HLW := Lib.hid (show ElsAt evE wr a l from HATL.out.1.kept KW.out (HATL.out.2 hlne))
          have HLN := Lib.hid (HATL.out.2 hlne)
          obtain ⟨G, hG⟩ : ∃ G, (S.take i').foldl (fun g e => ovF g l e.x) (fun _ => none) = G := ⟨_, rfl⟩
          rw [hG] at TK HG
          clear hG hATr hxl hlne hx hSne
          go_upto_region 13 with fail
          refine cutWl (fun wn => Fr wn [(wr.heap.size, #[.int .u8 (x.k : Nat), .int .i64 x.x, .int .i64 x.t, encStr x.key, encStr x.val, .bool x.is], 42)] ∧ Same wr wn) ⟨⟨Blk.new _ _ _, trivial⟩, (Kept.refl _ _).alloc _⟩ ?_
          rintro w4 ⟨hf4, k4⟩
          have F4 := Lib.hid hf4
          have K4 := Lib.hid (K.out.trans k4)
          have KR := Lib.hid k4
          obtain ⟨p0, f0, -⟩ := F4.out.rules
          have z0 := F4.out.1.lt
          clear hf4 k4 c0 c1 c2 c3 c4 c5 hc
          go_wp2_with fail
          with_reducible refine (hv_over a n c l HN.out (by omega) x.x m G w4 (HLW.out.same KR.out) HLN.out (HG.out.same KR.out)).mono ?_
          rintro e w7 ⟨rfl, hm7, k7⟩
          have M7 := Lib.hid hm7
          have K7 := Lib.hid ((KW.out.trans (KR.out.mono (fun _ _ q => q.elim))).trans k7)
          clear hm7 k7
          go_wp2_with fail
          refine ⟨⟨i' + 1, by go_num, by omega, by rw [TK.out]; exact M7.out, K7.out⟩, by simp [intOf]; omega⟩
        · have hin : i' = N5 := by omega
          have g1 : ¬ (i' : Int) < (N5 : Int) := by omega
          have e1 : S.take i' = S := List.take_of_length_le (by have := HSN.out; omega)
          rw [e1, ← HSF.out] at HG
          go_wp2_with fail
          go_ret
          exact ⟨⟨m, rfl, HG.out, hmw⟩, K6.out.step KW.out (fun j hj q => by omega)⟩
end
end Go.Proofs.Ytaeiajodbpgbbaa
