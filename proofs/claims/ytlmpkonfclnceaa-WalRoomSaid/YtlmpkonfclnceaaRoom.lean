/- WalRoom: the walk. -/
import Derived.Test.YtlmpkonfclnceaaTxa
import Derived.Deep.RegionHeld3
import Derived.Deep.AppendLies
namespace Go.Proofs.Ytlmpkonfclnceaa
open Go.RowKit Go.Sort

theorem own_empty {W : World} {base e : Nat} (h : Blk W e #[] 9) (hb : base ≤ e) : OwnT W base (.slice (some ⟨e, 0, none⟩) 0 0) [] :=
  ⟨by simp [Enc.all], .inr ⟨e, 0, #[], rfl, hb, h, Nat.le_refl _, Nat.zero_le _, by simp, by simp [Enc.all]⟩⟩
theorem roomL_ok {N : Nat} {T : List (List Nat)} (hN : N ≤ 20) (hp : prt T ≤ N) (hs : ∀ s ∈ T, s.length ≤ 238) (hb : TBts T) (hl : T.length ≤ 61184) : LOK (roomL N T) 20 := by
  refine ⟨?_, ?_, ?_, fun _ => ?_, ?_, hs, hb, fun x hx => (by cases hx), Nat.zero_le _, hl⟩
  · show 0 + N ≤ 20; omega
  · show N ≤ 256; omega
  · show 1 ≤ 5 ∧ 5 ≤ 1099511627776
    omega
  · show 0 + prt _ ≤ N; rw [Nat.zero_add]; exact hp
  · exact Nat.zero_le _
section
attribute [local go_sem ↓] exec_app semAt_app
attribute [local go_sem] isApp_lit appA appX
set_option maxRecDepth 100000 in
set_option maxHeartbeats 1600000 in
theorem room_any (w : World) (q : Nat) (hq : q ≤ 255) (a : Option Addr) (n c : Nat) (l : List (List Nat)) (hn : n = l.length) (hlm : n ≤ 9223372036854775807) (hlb : TBts l) (hat : TxtsAt w a l) :
    Calls Try.prog 10 #[.int .u8 (q : Nat), .slice a n c] w fun e w' => e = .returned (.bool true) ∧ Same w w' := by
  have HN := Lib.hid hn; have HB := Lib.hid hlb; have HAT := Lib.hid hat
  clear hn hlb hat
  by_cases h60 : 60 < n
  · have g60 : (60 : Int) < (n : Int) := by omega
    go_enter Try.func10, Try.ntmps10
    go_wp2_with fail
    refine (aw10 _).mono ?_
    rintro e w' ⟨rfl, k⟩
    go_wp2_with fail
    go_ret
    exact ⟨rfl, k⟩
  · have g60 : ¬ (60 : Int) < (n : Int) := by omega
    obtain ⟨N, hN⟩ : ∃ N, q % 21 = N := ⟨_, rfl⟩
    have hN20 : N ≤ 20 := by omega
    have eN : ((q : Int)) % 21 = (N : Int) := by omega
    clear hN
    go_enter Try.func10, Try.ntmps10
    go_wp2_with fail
    refine (sd_new 20 w).mono ?_
    rintro e w1 ⟨d, bs, cap, m, rfl, h1, hd, hbs, hm, k1⟩
    have H1 := Lib.hid h1
    have K1 := Lib.hid k1
    have NW := Lib.hid (wl_new H1.out 0 (N : Nat) 5)
    rw [show newE (newD 20) 0 (N : Nat) 5 = 0 by unfold newE; rw [if_neg (by decide), if_neg (by rw [show (newD 20).s.length = 20 by kernel_rfl]; omega), if_neg (by decide)], roomL_new] at NW
    clear h1 k1
    go_wp2_with fail
    with_reducible refine NW.out.mono ?_
    rintro e w2 ⟨hp, k2⟩
    rw [if_pos rfl] at hp
    obtain ⟨g, rfl, hg, hgw⟩ := hp
    have hsz1 := K1.out.size
    have L0 := Lib.hid hg
    have H2 := Lib.hid (H1.out.same k2)
    have K2 := Lib.hid (K1.out.trans k2)
    have hgl := hg.blk
    have hog : ¬ dod d bs m g := by obtain ⟨_, _, _, _, h⟩ := L0.out; exact h.og
    have hdg : d ≠ g := fun q => hog (.inl q.symm)
    have hbg : bs ≠ g := fun q => hog (.inr (.inl q.symm))
    have hmg : m ≠ g := fun q => hog (.inr (.inr q.symm))
    have hs2 := K2.out.size
    have hd2 := H2.out.box.lt
    have hbs2 := H2.out.safe.lt
    have hm2 := H2.out.map.lt
    clear hg k2 NW H1 K1
    go_wp2_with fail
    go_loopw [9, 10] (fun v t wr => ∃ i : Nat, t = .int .i64 i ∧ i ≤ n ∧ (∀ s ∈ l.take i, s.length ≤ 238) ∧ OwnT wr w2.heap.size v (tks N (l.take i)) ∧ LogP wr g d bs m (roomL N (tks N (l.take i))) (fun j => ¬ v.ownBlock = some j) ∧ DiskIn wr d bs cap m (newD 20) ∧ w2.heap.size ≤ wr.heap.size ∧ Same w wr) (fun _ t _ => n - (intOf t).toNat)
    case atStart => exact ⟨0, rfl, by omega, by simp, OwnE.nil _ _ _, L0.out.p.mono (fun _ _ _ q => by cases q), H2.out, Nat.le_refl _, K2.out⟩
    case round =>
      clear L0 H2 K2
      obtain ⟨i, rfl, hi, hsh, how, hlg, hdi, hw2, hk⟩ := hrel
      have SH := Lib.hid hsh; have OW := Lib.hid how; have LG := Lib.hid hlg; have DI := Lib.hid hdi; have K := Lib.hid hk
      clear hsh how hlg hdi hk
      by_cases hgo : i < n
      · obtain ⟨b, off, s, rfl, hbl, hs, hc⟩ := TxtsAt.at (HAT.out.same K.out) (i := i) (by rw [← HN.out]; exact hgo)
        have htk : l.take (i + 1) = l.take i ++ [s] := take_succ_chunk hs
        have TK := Lib.hid htk
        have hz := strN_len s
        have g1 : (i : Int) < (n : Int) := by omega
        have g0 : (0 : Int) ≤ (i : Int) := by omega
        by_cases hlong : 238 < s.length
        · have gl : (238 : Int) < (s.length : Int) := by omega
          clear htk hs
          go_wp2_with fail
          refine (aw10 _).mono ?_
          rintro e w' ⟨rfl, k⟩
          go_wp2_with fail
          go_ret
          exact ⟨rfl, K.out.trans k⟩
        · have gl : ¬ (238 : Int) < (s.length : Int) := by omega
          clear htk hs
          have OK : Hid (LOK (roomL N (tks N (l.take i))) 20) := by
            have hle := tks_le N (l.take i)
            refine ⟨?_, ?_, ?_, fun _ => ?_, ?_, fun x hx => SH.out x (hle.2.2 x hx), fun x hx => HB.out x (List.mem_of_mem_take (hle.2.2 x hx)), fun x hx => (by cases hx), Nat.zero_le _, ?_⟩
            · show 0 + N ≤ 20; omega
            · show N ≤ 256; omega
            · show 1 ≤ 5 ∧ 5 ≤ 1099511627776
              omega
            · show 0 + prt _ ≤ N; rw [Nat.zero_add]; exact hle.1
            · exact Nat.zero_le _
            · show (tks N (l.take i)).length ≤ 61184
              have := hle.2.1
              rw [List.length_take] at this
              omega
          have AD := Lib.hid (wl_addP (fun j hj q => by have := (OW.out.far j q).2; omega) LG.out DI.out.box.lt DI.out.safe.lt DI.out.map.lt OK.out s (by omega))
          have hra := roomL_add N (tks N (l.take i)) s (by omega)
          obtain ⟨E, hE⟩ : ∃ E, (if prt (tks N (l.take i) ++ [s]) ≤ N then 0 else 7) = E := ⟨_, rfl⟩
          rw [hra.1, hra.2, hE] at AD
          have HE := Lib.hid hE
          clear hE
          have HC : Hid (∀ w', Same w w' → w'.cell? ⟨b, off + i, none⟩ = some (.string (strN s))) := by
            intro w' kk
            have := ElsAt.get (HAT.out.same kk) (show l[i]? = some s from by
              have := TK.out
              rw [List.take_add_one] at this
              cases hh : l[i]? with
              | none => rw [hh] at this; simp at this
              | some y => rw [hh] at this; simpa using this) 0 (u := .string (strN s)) rfl
            simpa [strE] using this
          clear hra
          go_wp2_with fail
          with_reducible refine AD.out.mono ?_
          rintro e w3 ⟨rfl, g3, k3⟩
          have L3 := Lib.hid g3
          have D3 := Lib.hid (DI.out.kept k3 hdg hbg hmg)
          have K3 := Lib.hid (K.out.step k3 (fun j hj q => by omega))
          have hc3 := HC.out w3 K3.out
          obtain ⟨a4, l4, c4, rfl, hl4, hn4, ha4, hc4⟩ := OwnE.rd OW.out
          clear g3 AD
          have hTL : (tks N (l.take i)).length ≤ 1000 := by
            have := (tks_le N (l.take i)).2.1
            rw [List.length_take] at this
            omega
          have TN : Hid (tks N (l.take (i + 1)) = tk N (tks N (l.take i)) s) := by show _ = _; rw [TK.out, tks_snoc]
          generalize tks N (l.take i) = T at *
          have ow3 : OwnT w3 w2.heap.size (.slice a4 l4 c4) T := OW.out.kept k3 (fun j hj q => by have := (World.ownsRow.lt OW.out j hj).1; omega)
          obtain ⟨v6, w6, hr6, o6, k6⟩ := txts_append (w := ((w3.alloc (.cells #[.string (strN s)] 9)).alloc (.cells #[] 9)).drew) (base := (w3.heap.size + 1)) (own_empty (e := (w3.heap.size + 1)) ((Blk.new' _ _ _ (by simp)).drew) (Nat.le_refl _)) (by simp <;> omega) a4 l4 c4 T hl4.out (ow3.at.1.same ((((Kept.refl _ w3).alloc _).alloc _).drew)) hn4.out (by simp; omega)
          obtain ⟨x6, y6, z6, rfl, hx6, -, -, -⟩ := OwnE.rd o6
          obtain ⟨aok6, aV6, aW6⟩ := app_of hr6
          have O6 := Lib.hid o6
          have KK6 := Lib.hid (show Same w3 w6 from Kept.step (a := w3) ((((Kept.refl _ w3).alloc _).alloc _).drew) k6 (fun j hj q => by simp [Value.ownBlock] at q; omega))
          have KO6 := Lib.hid k6
          have HX6 := hx6
          clear hr6 o6 k6 hx6
          obtain ⟨v7, w7, hr7, o7, k7⟩ := txts_append (w := ((w3.alloc (.cells #[] 9)).alloc (.cells #[.string (strN s)] 9)).drew) (base := w3.heap.size) (own_empty (e := w3.heap.size) (((Blk.new _ _ _).alloc _).drew) (Nat.le_refl _)) (by simp <;> omega) a4 l4 c4 T hl4.out (ow3.at.1.same ((((Kept.refl _ w3).alloc _).alloc _).drew)) hn4.out (by simp; omega)
          obtain ⟨x7, y7, z7, rfl, hx7, -, -, -⟩ := OwnE.rd o7
          obtain ⟨aok7, aV7, aW7⟩ := app_of hr7
          have O7 := Lib.hid o7
          have KK7 := Lib.hid (show Same w3 w7 from Kept.step (a := w3) ((((Kept.refl _ w3).alloc _).alloc _).drew) k7 (fun j hj q => by simp [Value.ownBlock] at q; omega))
          have KO7 := Lib.hid k7
          have HX7 := hx7
          clear hr7 o7 k7 hx7
          obtain ⟨v8, w8, hr8, o8, k8⟩ := txts_append (w := (w3.alloc (.cells #[] 9)).drew) (base := w3.heap.size) (own_empty (e := w3.heap.size) ((Blk.new _ _ _).drew) (Nat.le_refl _)) (by simp <;> omega) a4 l4 c4 T hl4.out (ow3.at.1.same (((Kept.refl _ w3).alloc _).drew)) hn4.out (by simp; omega)
          obtain ⟨x8, y8, z8, rfl, hx8, -, -, -⟩ := OwnE.rd o8
          obtain ⟨aok8, aV8, aW8⟩ := app_of hr8
          have O8 := Lib.hid o8
          have KK8 := Lib.hid (show Same w3 w8 from Kept.step (a := w3) (((Kept.refl _ w3).alloc _).drew) k8 (fun j hj q => by simp [Value.ownBlock] at q; omega))
          have KO8 := Lib.hid k8
          have HX8 := hx8
          clear hr8 o8 k8 hx8
          have E6 : TxtsAt w6 (some ⟨w3.heap.size, 0, none⟩) [s] := elsAt_one (E := strE) (x := s) ((((Blk.new w3 (t := 9) #[.string (strN s)]).alloc _).drew).kept KO6.out (by simp [Value.ownBlock])) rfl
          have hc8 := HC.out w8 (K3.out.trans KK8.out)
          have E7 : TxtsAt w7 (some ⟨w3.heap.size + 1, 0, none⟩) [s] := elsAt_one (E := strE) (x := s) (((Blk.new' (w3.alloc (.cells #[] 9)) #[.string (strN s)] 9 (by simp)).drew).kept KO7.out (by simp [Value.ownBlock])) rfl
          have E8 : TxtsAt (w8.alloc (.cells #[.string (strN s)] 9)) (some ⟨w8.heap.size, 0, none⟩) [s] := elsAt_one (E := strE) (x := s) (Blk.new w8 _ _) rfl
          obtain ⟨v16, w16, hr16, o16, k16⟩ := txts_append (w := w6) (O6.out.same (Kept.refl _ _)) (by have := KO6.out.size; simp at this ⊢; omega) (some ⟨w3.heap.size, 0, none⟩) 1 1 [s] rfl E6 (fun h => by cases h) (by simp; omega)
          obtain ⟨x16, y16, z16, rfl, hx16, -, hat16, -⟩ := OwnE.rd o16
          obtain ⟨aok16, aV16, aW16⟩ := app_of hr16
          have P16 := Lib.hid (rp_parts x16 y16 z16 (T ++ [s]) (by have := hx16.out; simpa using this) (by have := hx16.out; simp at this; omega) w16 (by have := hat16.out; simpa using this))
          have KK16 := Lib.hid (show Same w3 w16 from (KK6.out.trans (Kept.refl _ _)).step k16 (fun j hj q => by have := (World.ownsRow.lt O6.out j q).1; omega))
          clear hr16 o16 hx16 hat16 k16
          obtain ⟨v17, w17, hr17, o17, k17⟩ := txts_append (w := w7) (O7.out.same (Kept.refl _ _)) (by have := KO7.out.size; simp at this ⊢; omega) (some ⟨(w3.heap.size + 1), 0, none⟩) 1 1 [s] rfl E7 (fun h => by cases h) (by simp; omega)
          obtain ⟨x17, y17, z17, rfl, hx17, -, hat17, -⟩ := OwnE.rd o17
          obtain ⟨aok17, aV17, aW17⟩ := app_of hr17
          have P17 := Lib.hid (rp_parts x17 y17 z17 (T ++ [s]) (by have := hx17.out; simpa using this) (by have := hx17.out; simp at this; omega) w17 (by have := hat17.out; simpa using this))
          have KK17 := Lib.hid (show Same w3 w17 from (KK7.out.trans (Kept.refl _ _)).step k17 (fun j hj q => by have := (World.ownsRow.lt O7.out j q).1; omega))
          clear hr17 o17 hx17 hat17 k17
          obtain ⟨v18, w18, hr18, o18, k18⟩ := txts_append (w := (w8.alloc (.cells #[.string (strN s)] 9))) (O8.out.same ((Kept.refl _ _).alloc _)) (by have := KO8.out.size; simp at this ⊢; omega) (some ⟨w8.heap.size, 0, none⟩) 1 1 [s] rfl E8 (fun h => by cases h) (by simp; omega)
          obtain ⟨x18, y18, z18, rfl, hx18, -, hat18, -⟩ := OwnE.rd o18
          obtain ⟨aok18, aV18, aW18⟩ := app_of hr18
          have P18 := Lib.hid (rp_parts x18 y18 z18 (T ++ [s]) (by have := hx18.out; simpa using this) (by have := hx18.out; simp at this; omega) w18 (by have := hat18.out; simpa using this))
          have KK18 := Lib.hid (show Same w3 w18 from (KK8.out.trans ((Kept.refl _ _).alloc _)).step k18 (fun j hj q => by have := (World.ownsRow.lt O8.out j q).1; omega))
          clear hr18 o18 hx18 hat18 k18
          go_wp2_with fail
          go_region_held3 (fun w' => w'.cell? ⟨b, off + i, none⟩ = some (.string (strN s)))
            ((refine HC.out _ ?_; repeat (first | with_reducible exact K3.out | with_reducible exact K3.out.trans KK9.out | with_reducible exact K3.out.trans KK6.out | with_reducible exact K3.out.trans KK7.out | with_reducible exact K3.out.trans KK8.out | with_reducible exact K3.out.trans KK16.out | with_reducible exact K3.out.trans KK17.out | with_reducible exact K3.out.trans KK18.out | with_reducible refine Kept.drew ?_ | with_reducible refine Kept.alloc ?_ _)))
            ((go_at_call 44; (first | (with_reducible refine P16.out.mono ?_; rintro e w9 ⟨rfl, k9⟩; have KK9 := Lib.hid (KK16.out.trans k9)) | (with_reducible refine P17.out.mono ?_; rintro e w9 ⟨rfl, k9⟩; have KK9 := Lib.hid (KK17.out.trans k9)) | (with_reducible refine P18.out.mono ?_; rintro e w9 ⟨rfl, k9⟩; have KK9 := Lib.hid (KK18.out.trans k9))); clear k9))
          all_goals
            rename_i w9 KK9 _
            have K9 := Lib.hid (K3.out.trans KK9.out)
            have hc9 := HC.out w9 K9.out
            have D9 := Lib.hid (D3.out.same KK9.out)
            have L9 := Lib.hid (L3.out.same KK9.out)
            have ow9 : OwnT w9 w2.heap.size (.slice a4 l4 c4) T := ow3.same KK9.out
            have OW9 := Lib.hid ow9
            have hs9 : w2.heap.size ≤ w9.heap.size := by have := KK9.out.size; have := k3.size; omega
            obtain ⟨v5, w5, hrun5, o5, k5, b5⟩ := txts_push ow9 hs9 s hTL
            obtain ⟨aok5, aV5, aW5⟩ := app_of hrun5
            have hg9 : ¬ (Value.slice a4 l4 c4).ownBlock = some g := fun q => by have := (ow9.far g q).1; omega
            have D5 := Lib.hid (D9.out.kept k5 (fun q => by have := (ow9.far d q).1; omega) (fun q => by have := (ow9.far bs q).1; omega) (fun q => by have := (ow9.far m q).1; omega))
            have K5 := Lib.hid (K9.out.step k5 (fun j hj q => by have := (ow9.far j q).1; omega))
            have hs5 := k5.size
            have O5 := Lib.hid o5
            have G9 := Lib.hid hg9
            have Q5 := Lib.hid k5
            have B5 := Lib.hid b5
            clear ow3 aok6 aV6 aW6 O6 KK6 KO6 HX6 aok7 aV7 aW7 O7 KK7 KO7 HX7 aok8 aV8 aW8 O8 KK8 KO8 HX8 E6 E7 E8 hc8 aok16 aV16 aW16 P16 KK16 aok17 aV17 aW17 P17 KK17 aok18 aV18 aW18 P18 KK18 KK9 hrun5 o5 k5 b5 ow9 hg9 k3 D3 L3 LG OW DI K HC HAT hc3
            by_cases fit : prt (T ++ [s]) ≤ N
            · have hE := HE.out
              rw [if_pos fit] at hE
              subst hE
              have ft : tk N T s = T ++ [s] := if_pos fit
              have gd : decide (prt (T ++ [s]) ≤ N) = true := decide_eq_true fit
              have TN' := Lib.hid (TN.out.trans ft)
              rw [ft] at L9
              clear ft HE TN gd
              go_wp2_with fail
              go_roundw
              case rel =>
                refine ⟨i + 1, by go_num, by omega, ?_, ?_, ?_, D5.out, by omega, K5.out⟩
                · rw [TK.out]
                  intro x hx
                  rcases List.mem_append.1 hx with q | q
                  · exact SH.out x q
                  · simp at q; subst q; omega
                · rw [TN'.out]; exact O5.out
                · rw [TN'.out]; exact L9.out.push G9.out (by omega) B5.out Q5.out
              case measure => simp [intOf]; omega
            · have hE := HE.out
              rw [if_neg fit] at hE
              subst hE
              have ft : tk N T s = T := if_neg fit
              have gd : decide (prt (T ++ [s]) ≤ N) = false := decide_eq_false fit
              have TN' := Lib.hid (TN.out.trans ft)
              rw [ft] at L9
              clear ft HE TN gd aok5 aV5 aW5 D5 K5 hs5 O5 Q5 B5
              go_wp2_with fail
              go_roundw
              case rel =>
                refine ⟨i + 1, by go_num, by omega, ?_, ?_, ?_, D9.out, by omega, K9.out⟩
                · rw [TK.out]
                  intro x hx
                  rcases List.mem_append.1 hx with q | q
                  · exact SH.out x q
                  · simp at q; subst q; omega
                · rw [TN'.out]; exact OW9.out
                · rw [TN'.out]; exact L9.out
              case measure => simp [intOf]; omega
      · have hT : l.take i = l := by rw [List.take_of_length_le]; have := HN.out; omega
        have g1 : ¬ (i : Int) < (n : Int) := by omega
        rw [hT] at SH OW LG
        have PT := tks_le N l
        have hTb : TBts (tks N l) := fun x hx => HB.out x (PT.2.2 x hx)
        have hTs : ∀ x ∈ tks N l, x.length ≤ 238 := fun x hx => SH.out x (PT.2.2 x hx)
        have hTl : (tks N l).length ≤ 1000 := by have := HN.out; have := PT.2.1; omega
        have hp : prt (tks N l) ≤ N := PT.1
        have RS := roomL_sync (newD_live 20) (by rw [show (newD 20).s.length = 20 by kernel_rfl]; exact hN20) PT.1 hTs hTb
        have OKT := roomL_ok hN20 PT.1 hTs hTb (by omega)
        have SY := Lib.hid (wl_sync DI.out LG.out.i (by rw [show (newD 20).s.length = 20 by kernel_rfl]; exact OKT))
        generalize tks N l = T at *
        rw [RS.1, RS.2] at SY
        generalize (syncL (roomL N T) (newD 20)).2.1 = D' at *
        obtain ⟨a4, l4, c4, rfl, hl4, hn4, ha4, hc4⟩ := OwnE.rd OW.out
        have TB := Lib.hid hTb
        clear RS OKT hTs hTb PT hT SH HB HAT LG
        go_wp2_with fail
        with_reducible refine SY.out.mono ?_
        rintro e w4 ⟨rfl, h4, g4, k4⟩
        have L4 := Lib.hid g4
        have D4 := Lib.hid h4
        have K4 := Lib.hid (K.out.step k4 (fun j hj q => by rcases q with q | q | q | q <;> omega))
        have OW4 := Lib.hid (OW.out.kept k4 (fun j hj q => by have := (OW.out.far j hj).1; rcases q with q | q | q | q <;> omega))
        have RC := Lib.hid (wl_records L4.out (by show T.length ≤ 1000000; omega))
        clear SY h4 g4 k4 OW K DI ha4
        go_wp2_with fail
        with_reducible refine RC.out.mono ?_
        rintro e w5 ⟨⟨v5, rfl, o5⟩, k5⟩
        obtain ⟨a5, l5, c5, rfl, hl5, hn5, ha5, hc5⟩ := OwnE.rd o5
        have K5 := Lib.hid (K4.out.trans k5)
        have L5 := Lib.hid (L4.out.same k5)
        have OW5 := Lib.hid (OW4.out.same k5)
        have SM := Lib.hid (rp_same a5 a4 l5 l4 c5 c4 T T hl5.out hl4.out (by have := hl5.out; omega) (by have := hl4.out; omega) TB.out TB.out w5 ha5.out OW5.out.at.1)
        rw [show decide (T = T) = true from decide_eq_true rfl] at SM
        clear RC k5 o5 L4 K4 OW4 D4 ha5
        go_wp2_with fail
        with_reducible refine SM.out.mono ?_
        rintro e w6 ⟨rfl, k6⟩
        have K6 := Lib.hid (K5.out.trans k6)
        have L6 := Lib.hid (L5.out.same k6)
        have OW6 := Lib.hid (OW5.out.same k6)
        have LF := Lib.hid (wl_left L6.out hp (by show N ≤ 256; omega))
        rw [show (leftL ⟨0, N, 5, prt T, T, [], false, false⟩ : Nat) = N - prt T from rfl] at LF
        have RP := Lib.hid fun w' (kk : Same w6 w') => rp_parts a4 l4 c4 T hl4.out (by have := hl4.out; omega) w' (OW6.out.same kk).at.1
        generalize prt T = R at *
        rw [show ((N - R : Nat) : Int) = (N : Int) - (R : Int) from by omega] at LF
        have g2 : IntKind.i64.wrap ((N : Int) - (R : Int)) = (N : Int) - (R : Int) := IntWalk.i64_in _ (by omega)
        clear SM k6 L5 K5 OW5
        go_wp2_with fail
        with_reducible refine LF.out.mono ?_
        rintro e w7 ⟨rfl, k7⟩
        have PP := Lib.hid (RP.out w7 k7)
        have K7 := Lib.hid (K6.out.trans k7)
        have L7 := Lib.hid (L6.out.same k7)
        clear LF RP k7 L6 K6 OW6
        go_wp2_with fail
        with_reducible refine PP.out.mono ?_
        rintro e w8 ⟨rfl, k8⟩
        have K8 := Lib.hid (K7.out.trans k8)
        have L8 := Lib.hid (L7.out.same k8)
        have RS := Lib.hid (wl_restart L8.out 9)
        rw [show restartE ⟨0, N, 5, R, T, [], false, false⟩ 9 = 0 from rfl, show restartL ⟨0, N, 5, R, T, [], false, false⟩ 9 = ⟨0, N, 9, 0, [], [], false, false⟩ from rfl] at RS
        clear PP k8 L7 K7
        go_wp2_with fail
        with_reducible refine RS.out.mono ?_
        rintro e w10 ⟨rfl, g10, k10⟩
        have K10 := Lib.hid (K8.out.step k10 (fun j hj q => by omega))
        have L10 := Lib.hid g10
        have LF := Lib.hid (wl_left L10.out (Nat.zero_le _) (by show N ≤ 256; omega))
        rw [show (leftL ⟨0, N, 9, 0, [], [], false, false⟩ : Nat) = N from rfl] at LF
        clear RS g10 k10 L8 K8
        go_wp2_with fail
        with_reducible refine LF.out.mono ?_
        rintro e w11 ⟨rfl, k11⟩
        have K11 := Lib.hid (K10.out.trans k11)
        have L11 := Lib.hid (L10.out.same k11)
        have RC := Lib.hid (wl_records L11.out (Nat.zero_le _))
        clear LF k11 L10 K10
        go_wp2_with fail
        with_reducible refine RC.out.mono ?_
        rintro e w12 ⟨⟨v12, rfl, o12⟩, k12⟩
        obtain ⟨a12, l12, c12, rfl, hl12, hn12, ha12, hc12⟩ := OwnE.rd o12
        obtain rfl : l12 = 0 := hl12.out
        have K12 := Lib.hid (K11.out.trans k12)
        clear RC k12 o12 L11 K11 hl12
        go_wp2_with fail
        refine (aw10 _).mono ?_
        rintro e w13 ⟨rfl, k13⟩
        go_wp2_with fail
        go_ret
        exact ⟨rfl, K12.out.trans k13⟩
end
end Go.Proofs.Ytlmpkonfclnceaa
