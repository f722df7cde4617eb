/- The document's sectors of texts: Pack. -/
import Derived.Test.YtlmpkonfclnceaaGreatRq4
namespace Go.Proofs.YtlmpkonfclnceaaGreat
open Go.RowKit Go.Sort

theorem packL_snoc (e : Nat) (g : List (List Nat)) : ∀ (G : List (List (List Nat))) (f : Nat), packL e f (G ++ [g]) = packL e f G ++ [layS e (f + G.length) g]
  | [], f => rfl
  | x :: G, f => by
    simp only [List.cons_append, packL]
    rw [packL_snoc e g G (f + 1), List.length_cons, show f + 1 + G.length = f + (G.length + 1) from by omega]
/-- Bytes of one's own that are some lie in a block. -/
theorem own_slice {w : World} {base : Nat} {v : Value} {xs : List Nat} (h : OwnN w base 5 .u8 v xs) (hx : xs ≠ []) :
    ∃ g cap, v = .slice (some ⟨g, 0, none⟩) xs.length cap ∧ base ≤ g ∧ g < w.heap.size ∧ xs.length ≤ cap ∧ NatsAt w .u8 (some ⟨g, 0, none⟩) xs := by
  have h0 := h
  rcases h.2 with ⟨_, q⟩ | ⟨g, cap, cur, rfl, h1, h2, h3, _⟩
  · exact absurd (List.eq_nil_of_length_eq_zero q) hx
  · exact ⟨g, cap, rfl, h1, lt_of_block h2, h3, OwnN.nats h0⟩
section
attribute [local go_sem ↓] exec_app semAt_app
attribute [local go_sem] isApp_lit appA appX
set_option maxRecDepth 100000 in
set_option maxHeartbeats 1600000 in
theorem rq_pack (e_ f : Nat) (he : 1 ≤ e_ ∧ e_ ≤ 1099511627776) (a : Option Addr) (n c : Nat) (l : List (List Nat)) (hn : n = l.length) (hl : n ≤ 61184) (hs : ∀ s ∈ l, s.length ≤ 238) (hb : TBts l) (hf : f + prt l ≤ 256) (w : World) (hat : TxtsAt w a l) :
    Calls Tryz.prog 55 #[.int .i64 (e_ : Nat), .int .i64 (f : Nat), .slice a n c] w fun r w' => (∃ v, r = .returned (.tuple #[v, .int .i64 0]) ∧ RowsOwn w' w.heap.size v (packS e_ f l)) ∧ Same w w' := by
  have HN := Lib.hid hn; have HS := Lib.hid hs; have HB := Lib.hid hb; have HAT := Lib.hid hat; have HE := Lib.hid he
  have PT := Lib.hid (rp_parts a n c l hn (by omega) w hat)
  have RG := Lib.hid fun w' (kk : Same w w') => rp_groups a n c l hn (by omega) w' (hat.same kk)
  have GOK := Lib.hid (gs_ok hs hb)
  have HP : Hid (packS e_ f l = packL e_ f (gs l)) := rfl
  obtain ⟨G, hG⟩ : ∃ G, gs l = G := ⟨_, rfl⟩
  have hpG : prt l = G.length := by rw [← hG]; rfl
  rw [hG] at GOK HP
  simp only [hG] at RG
  rw [hpG] at hf PT
  have q1 : ¬ (e_ : Int) < 1 := by omega
  have q2 : ¬ (1099511627776 : Int) < (e_ : Int) := by omega
  have q3 : ¬ (f : Int) < 0 := by omega
  have q4 : ¬ (256 : Int) - (G.length : Int) < (f : Int) := by omega
  have w1 : IntKind.i64.wrap ((256 : Int) - (G.length : Int)) = (256 : Int) - (G.length : Int) := IntWalk.i64_in _ (by omega)
  clear hn hs hb hat hG hpG he
  go_enter Tryz.func55, Tryz.ntmps55
  go_wp2_with fail
  with_reducible refine PT.out.mono ?_
  rintro r w2 ⟨rfl, k2⟩
  have K2 := Lib.hid k2
  go_wp2_with fail
  with_reducible refine (RG.out _ k2).mono ?_
  rintro r w3 ⟨⟨v, rs, rfl, hg⟩, k3⟩
  have K3 := Lib.hid (K2.out.trans k3)
  have GA := Lib.hid hg
  obtain ⟨ga, gl, gc, rfl, hgl, hgn, hga, hgc⟩ := OwnE.rd hg.own
  have hgl' : gl = G.length := by rw [hgl.out, hg.len]
  have hks3 := K3.out.size
  obtain ⟨GL, hGL⟩ : ∃ GL, G.length = GL := ⟨_, rfl⟩
  rw [hGL] at hgl' hf q4 w1
  have HGL := Lib.hid hGL
  subst hgl'
  clear hg k2 k3 PT RG K2 q1 q2 q3 q4 w1 hGL hgl
  go_wp2_with fail
  go_loopw [10] (fun t wr => ∃ i : Nat, t = .int .i64 i ∧ i ≤ n ∧ wr = w3) (fun t _ => n - (intOf t).toNat)
  case atStart => exact ⟨0, rfl, Nat.zero_le _, rfl⟩
  case round =>
    obtain ⟨i, rfl, hi, rfl⟩ := hrel
    by_cases hgo : i < n
    · obtain ⟨b, off, s, rfl, hbl, hs, hc⟩ := TxtsAt.at (HAT.out.same K3.out) (i := i) (by rw [← HN.out]; exact hgo)
      have hz := strN_len s
      have hs8 := HS.out s (List.mem_of_getElem? hs)
      have g1 : (i : Int) < (n : Int) := by omega
      have g0 : (0 : Int) ≤ (i : Int) := by omega
      have g2 : ¬ (238 : Int) < (s.length : Int) := by omega
      clear hs
      go_wp2_with fail
      go_roundw
      case rel => exact ⟨i + 1, by go_num, by omega, trivial⟩
      case measure => simp [intOf]; omega
    · have g1 : ¬ (i : Int) < (n : Int) := by omega
      have hin : i = n := by omega
      subst hin
      clear hgo hi
      generalize wr = wm at *
      go_wp2_with fail
      go_loopw [9, 11] (fun ov t wr => ∃ j : Nat, t = .int .i64 j ∧ j ≤ gl ∧ RowsOwn wr wm.heap.size ov (packL e_ f (G.take j)) ∧ Same wm wr) (fun _ t _ => gl - (intOf t).toNat)
      case atStart => exact ⟨0, rfl, Nat.zero_le _, RowsOwn.nil _ _, Kept.refl _ _⟩
      case round =>
        obtain ⟨j, rfl, hj, hro, hk⟩ := hrel
        have RO := Lib.hid hro; have KS := Lib.hid hk
        have hks := hk.size
        obtain ⟨av, cv, rfl, hcv⟩ := hro.len
        clear hro hk
        by_cases hgo : j < gl
        · have hgG : G[j]? = some (G[j]'(by rw [HGL.out]; exact hgo)) := List.getElem?_eq_getElem _
          obtain ⟨g, hge⟩ : ∃ g, G[j]'(by rw [HGL.out]; exact hgo) = g := ⟨_, rfl⟩
          rw [hge] at hgG
          have hrl : j < rs.length := by rw [GA.out.len, HGL.out]; exact hgo
          have hrR : rs[j]? = some rs[j] := List.getElem?_eq_getElem hrl
          obtain ⟨⟨ra, rn, rc⟩, hre⟩ : ∃ r, rs[j] = r := ⟨_, rfl⟩
          rw [hre] at hrR
          have row := (GA.out.row j _ g hrR hgG).same KS.out
          obtain ⟨gb, go_, rfl, hgb⟩ := hga.out.there (fun q => by rw [q] at hrR; simp at hrR)
          have hc0 := hga.out.get hrR 0 (u := .slice ra rn rc) rfl
          have hc1 := (KS.out.cell (p := ⟨gb, go_ + j, none⟩) hgb (fun h => h)).trans (by simpa [rowE] using hc0)
          obtain ⟨gT, gL⟩ := GOK.out g (List.mem_of_getElem? hgG)
          have gS : ∀ s ∈ g, s.length ≤ 238 := fun s hs => by have := bdy_len_ge g s hs; omega
          have LY := Lib.hid (rq_lay e_ (f + j) HE.out.2 (by omega) ra rn rc g row.at.2 gS gL gT wr row.at.1)
          rw [Int.natCast_add] at LY
          have HPK : Hid (packL e_ f (G.take (j + 1)) = packL e_ f (G.take j) ++ [layS e_ (f + j) g]) := by
            show _ = _
            rw [List.take_add_one, hgG, Option.toList_some, packL_snoc, List.length_take, Nat.min_eq_left (by rw [HGL.out]; exact hj)]
          have LL := Lib.hid (layS_len e_ (f + j) gL)
          obtain ⟨Y, hY⟩ : ∃ Y, layS e_ (f + j) g = Y := ⟨_, rfl⟩
          rw [hY] at LY HPK LL
          have w2 : IntKind.i64.wrap ((f : Int) + (j : Int)) = (f : Int) + (j : Int) := IntWalk.i64_in _ (by omega)
          have g1 : (j : Int) < (gl : Int) := by omega
          have g0 : (0 : Int) ≤ (j : Int) := by omega
          obtain ⟨PL, hPL⟩ : ∃ PL, (packL e_ f (G.take j)).length = PL := ⟨_, rfl⟩
          have hPLl : PL ≤ 256 := by rw [← hPL, packL_len, List.length_take]; omega
          rw [hPL]
          have HPL := Lib.hid hPL
          clear row hc0 gT gL gS hgG hrR hre hge hY hPL
          go_wp2_with fail
          with_reducible refine LY.out.mono ?_
          rintro r w8 ⟨⟨v8, rfl, o8⟩, k8⟩
          obtain ⟨g8, c8, rfl, hg8, hg8l, hc8, n8⟩ := own_slice o8 (by intro q; have := LL.out; rw [q] at this; cases this)
          rw [LL.out] at hc8 ⊢
          have hvg : (Value.slice av (packL e_ f (G.take j)).length cv).ownBlock ≠ some g8 := by
            intro q
            obtain ⟨rs', h1, -, -⟩ := RO.out
            have := (h1.far g8 q).2
            omega
          obtain ⟨v9, w9, hrun, ro9, k9⟩ := rows_append (RO.out.same k8) (Nat.le_trans hks k8.size) (by rw [HPL.out]; omega) g8 256 c8 Y LL.out.symm hc8 (Nat.le_trans hks hg8) hg8l hvg n8
          rw [HPL.out] at hrun
          obtain ⟨aok, aV, aW⟩ := app_of hrun
          have RO9 := Lib.hid ro9
          have K9 := Lib.hid ((KS.out.trans k8).step k9 (fun q hq z => by omega))
          clear hrun ro9 k9 k8 o8 n8 hvg LY
          go_wp2_with fail
          go_roundw
          case rel => exact ⟨j + 1, by go_num, by omega, by rw [HPK.out]; exact RO9.out, K9.out⟩
          case measure => simp [intOf]; omega
        · have g2 : ¬ (j : Int) < (gl : Int) := by omega
          have hRO := RO.out
          have eT : G.take j = G := List.take_of_length_le (by rw [HGL.out]; omega)
          rw [eT] at hRO ⊢
          have hRO2 : RowsOwn wr w.heap.size (.slice av (packL e_ f G).length cv) (packS e_ f l) := by
            rw [HP.out]
            obtain ⟨rs', h1, h2, h3⟩ := hRO
            exact ⟨rs', h1.rebase hks3, h2, fun i r b hr hb => ⟨(h3 i r b hr hb).1, fun y hy => ⟨Nat.le_trans hks3 ((h3 i r b hr hb).2 y hy).1, ((h3 i r b hr hb).2 y hy).2⟩⟩⟩
          have RO2 := Lib.hid hRO2
          clear hRO hRO2 eT
          go_wp2_with fail
          go_ret2
          exact ⟨⟨_, rfl, RO2.out⟩, K3.out.trans KS.out⟩
end
end Go.Proofs.YtlmpkonfclnceaaGreat
