/- The document's texts in sectors: groups, Parts. -/
import Derived.Test.YtlmpkonfclnceaaGreatRp2
namespace Go.Proofs.YtlmpkonfclnceaaGreat
open Go.RowKit Go.Sort

theorem usd_le : ∀ (l : List (List Nat)) (u : Nat), u ≤ 239 → usd u l ≤ 239
  | [], u, h => h
  | s :: l, u, h => by
    have := need_le s
    simp only [usd]
    split
    · exact usd_le l _ (by omega)
    · exact usd_le l _ (by omega)
theorem gs_last (l : List (List Nat)) (s : List Nat) (h : usd 239 l + need s ≤ 239) : ∃ G0 g, gs l = G0 ++ [g] ∧ gs (l ++ [s]) = G0 ++ [g ++ [s]] := by
  have h2 := usd_ne l s h
  have e := (List.dropLast_concat_getLast h2).symm
  generalize (gs l).dropLast = G0 at e
  generalize (gs l).getLast h2 = g at e
  refine ⟨G0, g, e, ?_⟩
  rw [gs_snoc, if_pos h, e]
  unfold addG
  simp
theorem gsp_mem : ∀ (l : List (List Nat)) (u : Nat), (gsp u l).1.length ≤ l.length ∧ ∀ g ∈ (gsp u l).2, g.length ≤ l.length
  | [], u => ⟨Nat.le_refl _, fun g hg => by cases hg⟩
  | s :: l, u => by
    simp only [gsp]
    split
    · have p := gsp_mem l (u + need s)
      exact ⟨by simpa using p.1, fun g hg => by have := p.2 g hg; simp; omega⟩
    · have p := gsp_mem l (need s)
      refine ⟨by simp, fun g hg => ?_⟩
      rcases List.mem_cons.1 hg with rfl | hg
      · simpa using p.1
      · have := p.2 g hg; simp; omega
theorem gs_mem {l : List (List Nat)} {g : List (List Nat)} (h : g ∈ gs l) : g.length ≤ l.length := (gsp_mem l 239).2 g h
/-- Rows that are some lie in a block. -/
theorem GrpAt.there {w : World} {base : Nat} {v : Value} {G : List (List (List Nat))} {rs : List (Option Addr × Nat × Nat)} (h : GrpAt w base v G rs) (hne : G ≠ []) : ∃ gb cap, v = .slice (some ⟨gb, 0, none⟩) G.length cap ∧ base ≤ gb ∧ gb < w.heap.size := by
  have h2 : rs ≠ [] := fun q => hne (List.eq_nil_of_length_eq_zero (by rw [← h.len, q]; rfl))
  obtain ⟨g, cap, cur, rfl, hb, hbl, -⟩ := h.own.read h2
  exact ⟨g, cap, by rw [h.len], hb, hbl.lt⟩
section
attribute [local go_sem ↓] exec_app semAt_app
attribute [local go_sem] isApp_lit appA appX
set_option maxRecDepth 100000 in
set_option maxHeartbeats 1600000 in
theorem rp_groups (a : Option Addr) (n c : Nat) (l : List (List Nat)) (hn : n = l.length) (hl : n ≤ 100000) (w : World) (hat : TxtsAt w a l) :
    Calls Tryz.prog 78 #[.slice a n c] w fun e w' => (∃ v rs, e = .returned v ∧ GrpAt w' w.heap.size v (gs l) rs) ∧ Same w w' := by
  have HN := Lib.hid hn; have HAT := Lib.hid hat
  clear hn hat
  go_enter Tryz.func78, Tryz.ntmps78
  go_wp2_with fail
  go_loopw [3, 4, 5] (fun v u t wr => ∃ (i : Nat) (rs : List (Option Addr × Nat × Nat)), t = .int .i64 i ∧ u = .int .i64 (usd 239 (l.take i) : Nat) ∧ i ≤ n ∧ GrpAt wr w.heap.size v (gs (l.take i)) rs ∧ Same w wr) (fun _ _ t _ => n - (intOf t).toNat)
  case atStart => exact ⟨0, [], rfl, rfl, by omega, GrpAt.nil _ _, Kept.refl _ _⟩
  case round =>
    obtain ⟨i, rs, rfl, rfl, hi, hg, hk⟩ := hrel
    have K := Lib.hid hk; have HG := Lib.hid hg
    have hks := hk.size
    clear hk hg
    by_cases hgo : i < n
    · obtain ⟨b, off, s, rfl, hbl, hs, hc⟩ := TxtsAt.at (HAT.out.same K.out) (i := i) (by rw [← HN.out]; exact hgo)
      have HC : Hid (∀ w', Same w w' → w'.cell? ⟨b, off + i, none⟩ = some (.string (strN s))) := by
        intro w' kk
        have := ElsAt.get (HAT.out.same kk) hs 0 (u := .string (strN s)) rfl
        simpa [strE] using this
      have htk : l.take (i + 1) = l.take i ++ [s] := take_succ_chunk hs
      have TK := Lib.hid htk
      have hz := strN_len s
      have g1 : (i : Int) < (n : Int) := by omega
      have g0 : (0 : Int) ≤ (i : Int) := by omega
      have hul := usd_le (l.take i) 239 (by omega)
      have US := Lib.hid (usd_snoc 239 (l.take i) s)
      have GS := Lib.hid (gs_last (l.take i) s)
      have GN := Lib.hid (gs_snoc (l.take i) s)
      obtain ⟨m, hm, e, hm8⟩ := min_need s
      rw [e] at US GS GN
      have hgl : (gs (l.take i)).length ≤ 100000 := Nat.le_trans (prt_le _) (by rw [List.length_take]; omega)
      obtain ⟨U, hU⟩ : ∃ U, usd 239 (l.take i) = U := ⟨_, rfl⟩
      rw [hU] at hul US GS GN
      clear htk hs e
      rw [hU]
      clear hU
      by_cases hfit : U + (1 + m) ≤ 239
      · have US' := US.out; have GS' := GS.out hfit
        rw [if_pos hfit] at US'
        obtain ⟨G0, g, hG0, hG1⟩ := GS'
        have US1 := Lib.hid US'; have HG1 := Lib.hid hG1; have HG0 := Lib.hid hG0
        have hG := HG.out
        rw [hG0] at hG hgl
        have hgll : g.length ≤ 100000 := Nat.le_trans (gs_mem (l := l.take i) (by rw [hG0]; simp)) (by rw [List.length_take]; omega)
        obtain ⟨gb, cap, rfl, hb1, hb2⟩ := hG.there (by simp)
        obtain ⟨N, hN⟩ : ∃ N, G0.length = N := ⟨_, rfl⟩
        rw [show (G0 ++ [g]).length = N + 1 by simp [hN]] at hG hgl ⊢
        have hNl : N ≤ 100000 := by omega
        have HNN := Lib.hid hN
        have gt : ¬ (239 : Int) < (U : Int) + (1 + (m : Int)) := by omega
        have w1 : IntKind.i64.wrap ((U : Int) + (1 + (m : Int))) = (U : Int) + (1 + (m : Int)) := IntWalk.i64_in _ (by omega)
        have w2 : IntKind.i64.wrap (1 + (m : Int)) = 1 + (m : Int) := IntWalk.i64_in _ (by omega)
        clear US GS GN US' hG0 hG1 HG hN
        obtain ⟨ra, rn, rc, a5, l5, c5, w5, cl1, fr1, hrun, cl5, fr5, ⟨rs5, hg5⟩, k5⟩ := grp_add (hG.same ((Kept.refl (fun _ => False) wr).drew)) (show w.heap.size ≤ wr.drew.heap.size from K.out.size) hgll s
        rw [HNN.out] at cl1 fr1 cl5 fr5 hg5 k5
        change wr.cell? _ = _ at cl1
        change wr.frozen? _ = _ at fr1
        rw [show wr.drew.heap.size = wr.heap.size from rfl, show wr.drew.alloc (.cells #[.string (strN s)] 9) = (wr.alloc (.cells #[.string (strN s)] 9)).drew from rfl] at hrun
        have gNN : (N : Int) < (N : Int) + 1 := by omega
        obtain ⟨aok, aV, aW⟩ := app_of hrun
        have G5 := Lib.hid hg5; have K5 := Lib.hid ((K.out.drew).step k5 (fun j hj q => by omega))
        clear hrun hg5 k5
        go_wp2_with fail
        go_region_with (fail)
        all_goals
          go_wp2_with fail
          go_roundw
          case rel => exact ⟨i + 1, rs5, by go_num, by rw [TK.out, US1.out]; go_num, by omega, by rw [TK.out, HG1.out]; exact G5.out, K5.out⟩
          case measure => simp [intOf]; omega
      · have US' := US.out; have GN' := GN.out
        rw [if_neg hfit] at US' GN'
        have US1 := Lib.hid US'; have HG1 := Lib.hid GN'
        obtain ⟨v4, w4, hrun4, hG, k4⟩ := grp_push HG.out K.out.size hgl
        have K4 := Lib.hid (K.out.step k4 (fun j hj q => by omega))
        have hgll : ([] : List (List Nat)).length ≤ 100000 := by decide
        obtain ⟨gb, cap, rfl, hb1, hb2⟩ := hG.there (by simp)
        obtain ⟨N, hN⟩ : ∃ N, (gs (l.take i)).length = N := ⟨_, rfl⟩
        rw [show (gs (l.take i) ++ [([] : List (List Nat))]).length = N + 1 by simp [hN]] at hG hrun4
        have hNl : N ≤ 100000 := by omega
        have HNN := Lib.hid hN
        obtain ⟨aok4, aV4, aW4⟩ := app_of hrun4
        have hc4 := HC.out w4 K4.out
        have gt : (239 : Int) < (U : Int) + (1 + (m : Int)) := by omega
        have w1 : IntKind.i64.wrap ((U : Int) + (1 + (m : Int))) = (U : Int) + (1 + (m : Int)) := IntWalk.i64_in _ (by omega)
        have w2 : IntKind.i64.wrap (1 + (m : Int)) = 1 + (m : Int) := IntWalk.i64_in _ (by omega)
        clear US GS GN US' GN' HG hN hrun4 k4
        obtain ⟨ra, rn, rc, a5, l5, c5, w5, cl1, fr1, hrun, cl5, fr5, ⟨rs5, hg5⟩, k5⟩ := grp_add (hG.same ((Kept.refl (fun _ => False) w4).drew)) (show w.heap.size ≤ w4.drew.heap.size from K4.out.size) hgll s
        rw [HNN.out] at cl1 fr1 cl5 fr5 hg5 k5
        change w4.cell? _ = _ at cl1
        change w4.frozen? _ = _ at fr1
        rw [show w4.drew.heap.size = w4.heap.size from rfl, show w4.drew.alloc (.cells #[.string (strN s)] 9) = (w4.alloc (.cells #[.string (strN s)] 9)).drew from rfl] at hrun
        have gNN : (N : Int) < (N : Int) + 1 := by omega
        obtain ⟨aok, aV, aW⟩ := app_of hrun
        have G5 := Lib.hid hg5; have K5 := Lib.hid ((K4.out.drew).step k5 (fun j hj q => by omega))
        clear hrun hg5 k5
        go_wp2_with fail
        go_region_with (fail)
        all_goals
          go_wp2_with fail
          go_roundw
          case rel => exact ⟨i + 1, rs5, by go_num, by rw [TK.out, US1.out]; go_num, by omega, by rw [TK.out, HG1.out]; exact G5.out, K5.out⟩
          case measure => simp [intOf]; omega
    · have hin : i = n := by omega
      have g1 : ¬ (i : Int) < (n : Int) := by omega
      have e1 : l.take i = l := List.take_of_length_le (by rw [← HN.out]; omega)
      rw [e1] at HG
      go_wp2_with fail
      go_ret
      exact ⟨⟨_, rfl, rs, HG.out⟩, K.out⟩
end
set_option maxRecDepth 100000 in
theorem rp_parts (a : Option Addr) (n c : Nat) (l : List (List Nat)) (hn : n = l.length) (hl : n ≤ 100000) (w : World) (hat : TxtsAt w a l) :
    Calls Tryz.prog 67 #[.slice a n c] w fun e w' => e = .returned (.int .i64 (prt l : Nat)) ∧ Same w w' := by
  have RG := Lib.hid (rp_groups a n c l hn hl w hat)
  clear hn hl hat
  go_enter Tryz.func67, Tryz.ntmps67
  go_wp2_with fail
  with_reducible refine RG.out.mono ?_
  rintro r w2 ⟨⟨v, rs, rfl, hg⟩, k2⟩
  obtain ⟨a2, l2, c2, rfl, hl2, -, -, -⟩ := OwnE.rd hg.own
  have HL := Lib.hid (show l2 = prt l from hl2.out.trans hg.len)
  clear hg hl2
  go_wp2_with fail
  go_ret
  exact ⟨by rw [HL.out]; rfl, k2⟩
end Go.Proofs.YtlmpkonfclnceaaGreat
