/- GDp: Dd2, Dd3. -/
import Derived.Test.YtpgghajkpjhieaaGreatDoorGDl
import Derived.Lib.QuietBelow
import Derived.Deep.QuietTactic
import Derived.BigQuiet
namespace Go.Proofs.YtpgghajkpjhieaaGreatDoor
open Go.RowKit Go.Sort

theorem enc_toL (s : List UInt8) : (⟨s.toArray⟩ : ByteArray).toList = s := by rw [Lib.toList_data]
theorem bless_dec : ∀ (x y : List UInt8), Op.bytesLess x y = decide (x < y)
  | [], [] => by simp [Op.bytesLess]
  | _ :: _, [] => by simp [Op.bytesLess]
  | [], _ :: _ => by simp [Op.bytesLess]
  | a :: x, b :: y => by
    rw [Op.bytesLess, bless_dec x y]
    simp only [List.cons_lt_cons_iff]
    by_cases h1 : a < b <;> by_cases h2 : a = b <;> by_cases h3 : x < y <;> simp [h1, h2, h3]
/-- The keys rise, as far as this. -/
def OrdTo (L : List HPr) (k : Nat) : Prop := ∀ i, i < k → 1 ≤ i → (L.getD (i - 1) ([], [])).1 < (L.getD i ([], [])).1
theorem chk_ord {L : List HPr} {j : Nat} (h1 : j + 1 < L.length) (h : ¬ L[j].1 < L[j + 1].1) : chkD L = 12 := by
  unfold chkD
  rw [if_neg]
  intro q
  have := q (j + 1) h1 (by omega)
  rw [Nat.add_sub_cancel, List.getD_eq_getElem?_getD, List.getD_eq_getElem?_getD, List.getElem?_eq_getElem (by omega), List.getElem?_eq_getElem h1] at this
  exact h this
theorem ordTo_next {L : List HPr} {j : Nat} (h : OrdTo L (j + 1)) (h1 : j + 1 < L.length) (hl : L[j].1 < L[j + 1].1) : OrdTo L (j + 2) := by
  intro i hi h0
  by_cases e : i < j + 1
  · exact h i e h0
  · have e : i = j + 1 := by omega
    subst e
    rw [Nat.add_sub_cancel, List.getD_eq_getElem?_getD, List.getD_eq_getElem?_getD, List.getElem?_eq_getElem (by omega), List.getElem?_eq_getElem h1]
    exact hl
theorem chk_fit {L : List HPr} (ho : Ordd L) {i : Nat} (h : i < L.length) (hf : ¬ Fit1 L[i]) : chkD L = 5 := by
  unfold chkD
  rw [if_pos ho, if_neg (fun q => hf (q _ (List.getElem_mem h)))]
theorem chk_end {L : List HPr} (ho : Ordd L) (hf : Fits L) : chkD L = if 60000 < 8 + (layT L).length then 5 else 0 := by
  unfold chkD
  rw [if_pos ho, if_pos hf]
set_option maxRecDepth 100000 in
set_option maxHeartbeats 1600000 in
theorem rdump_check (a : Option Addr) (n c : Nat) (L : List HPr) (hn : n = L.length) (hl : n ≤ 3000) (w : World) (hat : ElsAt prE w a L) :
    Calls Tryz.prog 13 #[.slice a n c] w fun e w' => e = .returned (.int .i64 (chkD L : Nat)) ∧ Same w w' := by
  have HN := Lib.hid hn; have HAT := Lib.hid hat
  clear hn hat
  go_enter Tryz.func13, Tryz.ntmps13
  go_wp2_with fail
  go_loopw [3] (fun t wr => ∃ (j : Nat), t = .int .i64 ((j : Int) + 1) ∧ (j + 1 ≤ n ∨ (n = 0 ∧ j = 0)) ∧ OrdTo L (j + 1) ∧ Same w wr) (fun t _ => n - (intOf t).toNat)
  case atStart => exact ⟨0, rfl, by omega, fun i hi h0 => by omega, Kept.refl _ _⟩
  case round =>
    obtain ⟨j, rfl, hj, hor, hk⟩ := hrel
    have K := Lib.hid hk
    have HO := Lib.hid hor
    clear hk hor
    by_cases hgo : j + 1 < n
    · have hil : j < L.length := by have := HN.out; omega
      have hil1 : j + 1 < L.length := by have := HN.out; omega
      obtain ⟨b, off, rfl, hbl, hc⟩ := prq_at HAT.out hil
      obtain ⟨b', off', hbb, hbl', hc'⟩ := prq_at HAT.out hil1
      simp only [Option.some.injEq, Addr.mk.injEq, and_true] at hbb
      obtain ⟨rfl, rfl⟩ := hbb
      obtain ⟨c0, -⟩ := hc _ K.out
      obtain ⟨c1, -⟩ := hc' _ K.out
      have NO := Lib.hid (fun h => chk_ord hil1 h)
      have YES := Lib.hid (fun h => ordTo_next HO.out hil1 h)
      obtain ⟨x, hx⟩ : ∃ x, L[j].1 = x := ⟨_, rfl⟩
      obtain ⟨y, hy⟩ : ∃ y, L[j + 1].1 = y := ⟨_, rfl⟩
      rw [hx] at c0 NO YES
      rw [hy] at c1 NO YES
      have q0 := fun dq os => cell_regrown (w := wr) c0 dq os
      have q1 := fun dq os => cell_regrown (w := wr) c1 dq os
      have g1 : ((j : Int) + 1) < (n : Int) := by omega
      have g0 : (0 : Int) ≤ (j : Int) := by omega
      have g2 : (0 : Int) ≤ (j : Int) + 1 := by omega
      have g3 : (j : Int) < (n : Int) := by omega
      have g4 : ((j : Int) + 1).toNat = j + 1 := by omega
      have BL : Op.bytesLess x y = decide (x < y) := bless_dec x y
      obtain ⟨q, hq⟩ : ∃ q, decide (x < y) = q := ⟨_, rfl⟩
      rw [hq] at BL
      have HQ := Lib.hid hq
      clear hc hc' hx hy c0 c1 hq
      go_wp2_with fail
      refine wp_region_quiet_below (by kernel_rfl) (by kernel_rfl) ?_
      repeat (first | go_big_quiet_step (fail) | quiet_step (fail))
      refine wpQuiet_nil ?_
      intro _ hw'
      obtain ⟨⟨dq, osq⟩, hw''⟩ := hw'
      subst hw''
      have kq := Lib.hid (show Same wr _ from Kept.of_below (below_regrown wr dq osq))
      have KQ := Lib.hid (K.out.trans kq.out)
      clear kq
      cases q
      · have NE := Lib.hid (NO.out (of_decide_eq_false HQ.out))
        go_wp2_with fail
        go_ret
        exact ⟨by rw [NE.out]; rfl, KQ.out⟩
      · have ST := Lib.hid (YES.out (of_decide_eq_true HQ.out))
        go_wp2_with fail
        exact ⟨⟨j + 1, by go_num, by omega, ST.out, KQ.out⟩, by show n - ((j : Int) + 1 + 1).toNat < n - ((j : Int) + 1).toNat; omega⟩
    · have g1 : ¬ ((j : Int) + 1) < (n : Int) := by omega
      have OD : Hid (Ordd L) := fun i hi h1 => HO.out i (by have := HN.out; omega) h1
      clear HO
      go_wp2_with fail
      go_loopw [4] (fun t wq => ∃ (i : Nat), t = .int .i64 i ∧ i ≤ n ∧ Fits (L.take i) ∧ Same w wq) (fun t _ => n - (intOf t).toNat)
      case atStart => exact ⟨0, rfl, by omega, fun p hp => by simp at hp, K.out⟩
      case round =>
        obtain ⟨i, rfl, hi, hfi, hk⟩ := hrel
        have KR := Lib.hid hk
        have FI := Lib.hid hfi
        clear hk hfi
        by_cases hgo : i < n
        · have hil : i < L.length := by have := HN.out; omega
          obtain ⟨b, off, rfl, hbl, hc⟩ := prq_at HAT.out hil
          obtain ⟨c0, c1⟩ := hc _ KR.out
          have NO := Lib.hid (fun h => chk_fit OD.out hil h)
          have YES : Hid (Fit1 L[i] → Fits (L.take (i + 1))) := fun h p hp => by
            rw [← List.take_append_getElem hil, List.mem_append, List.mem_singleton] at hp
            rcases hp with hp | rfl
            · exact FI.out p hp
            · exact h
          obtain ⟨x, hx⟩ : ∃ x, L[i] = x := ⟨_, rfl⟩
          rw [hx] at c0 c1 NO YES
          have g1 : (i : Int) < (n : Int) := by omega
          have g0 : (0 : Int) ≤ (i : Int) := by omega
          clear hc hx
          by_cases h16 : x.1.length ≤ 16
          · have f16 : ¬ (16 : Int) < (x.1.length : Int) := by omega
            by_cases h24 : x.2.length ≤ 24
            · have f24 : ¬ (24 : Int) < (x.2.length : Int) := by omega
              have ST := Lib.hid (YES.out ⟨h16, h24⟩)
              clear NO YES h16 h24
              go_wp2_with fail
              exact ⟨⟨i + 1, by go_num, by omega, ST.out, KR.out⟩, by simp [intOf]; omega⟩
            · have f24 : (24 : Int) < (x.2.length : Int) := by omega
              have NE := Lib.hid (NO.out fun h => h24 h.2)
              clear NO YES h16 h24
              go_wp2_with fail
              go_ret
              exact ⟨by rw [NE.out]; rfl, KR.out⟩
          · have f16 : (16 : Int) < (x.1.length : Int) := by omega
            have NE := Lib.hid (NO.out fun h => h16 h.1)
            clear NO YES h16
            go_wp2_with fail
            go_ret
            exact ⟨by rw [NE.out]; rfl, KR.out⟩
        · have g2 : ¬ (i : Int) < (n : Int) := by omega
          have FT : Hid (Fits L) := by have := FI.out; rw [show i = L.length by have := HN.out; omega, List.take_length] at this; exact this
          have CE := Lib.hid (chk_end OD.out FT.out)
          have LL := Lib.hid (layT_len FT.out.sml)
          clear FI OD
          go_wp2_with fail
          refine (rdump_lay a n c L HN.out hl FT.out.sml wr (HAT.out.same KR.out)).mono ?_
          rintro e w5 ⟨v5, rfl, o5, k5⟩
          obtain ⟨a5, l5, c5, rfl, hl5, -, -, -⟩ := o5.rd
          have K5 := Lib.hid (KR.out.trans k5)
          have hb : l5 ≤ 20000000 := by have := LL.out; have := HN.out; rw [hl5.out]; omega
          rw [← hl5.out] at CE
          clear o5 k5 hl5 LL
          by_cases hbig : 60000 < 8 + l5
          · have f1 : (60000 : Int) < 8 + (l5 : Int) := by omega
            have CE' := Lib.hid (CE.out.trans (if_pos hbig))
            clear CE hbig
            go_wp2_with fail
            go_ret
            exact ⟨by rw [CE'.out]; rfl, K5.out⟩
          · have f1 : ¬ (60000 : Int) < 8 + (l5 : Int) := by omega
            have CE' := Lib.hid (CE.out.trans (if_neg hbig))
            clear CE hbig
            go_wp2_with fail
            go_ret
            exact ⟨by rw [CE'.out]; rfl, K5.out⟩
set_option maxRecDepth 100000 in
set_option maxHeartbeats 1600000 in
theorem dump_check (a : Option Addr) (n c : Nat) (L : List HPr) (hn : n = L.length) (hl : n ≤ 3000) (w : World) (hat : ElsAt prE w a L) :
    Calls Tryz.prog 12 #[.slice a n c] w fun e w' => e = .returned (.int .i64 (chkD L : Nat)) ∧ Same w w' := by
  have HN := Lib.hid hn; have HAT := Lib.hid hat
  clear hn hat
  go_enter Tryz.func12, Tryz.ntmps12
  go_wp2_with fail
  go_loopw [3] (fun t wr => ∃ (j : Nat), t = .int .i64 ((j : Int) + 1) ∧ (j + 1 ≤ n ∨ (n = 0 ∧ j = 0)) ∧ OrdTo L (j + 1) ∧ Same w wr) (fun t _ => n - (intOf t).toNat)
  case atStart => exact ⟨0, rfl, by omega, fun i hi h0 => by omega, Kept.refl _ _⟩
  case round =>
    obtain ⟨j, rfl, hj, hor, hk⟩ := hrel
    have K := Lib.hid hk
    have HO := Lib.hid hor
    clear hk hor
    by_cases hgo : j + 1 < n
    · have hil : j < L.length := by have := HN.out; omega
      have hil1 : j + 1 < L.length := by have := HN.out; omega
      obtain ⟨b, off, rfl, hbl, hc⟩ := prq_at HAT.out hil
      obtain ⟨b', off', hbb, hbl', hc'⟩ := prq_at HAT.out hil1
      simp only [Option.some.injEq, Addr.mk.injEq, and_true] at hbb
      obtain ⟨rfl, rfl⟩ := hbb
      obtain ⟨c0, -⟩ := hc _ K.out
      obtain ⟨c1, -⟩ := hc' _ K.out
      have NO := Lib.hid (fun h => chk_ord hil1 h)
      have YES := Lib.hid (fun h => ordTo_next HO.out hil1 h)
      obtain ⟨x, hx⟩ : ∃ x, L[j].1 = x := ⟨_, rfl⟩
      obtain ⟨y, hy⟩ : ∃ y, L[j + 1].1 = y := ⟨_, rfl⟩
      rw [hx] at c0 NO YES
      rw [hy] at c1 NO YES
      have q0 := fun dq os => cell_regrown (w := wr) c0 dq os
      have q1 := fun dq os => cell_regrown (w := wr) c1 dq os
      have g1 : ((j : Int) + 1) < (n : Int) := by omega
      have g0 : (0 : Int) ≤ (j : Int) := by omega
      have g2 : (0 : Int) ≤ (j : Int) + 1 := by omega
      have g3 : (j : Int) < (n : Int) := by omega
      have g4 : ((j : Int) + 1).toNat = j + 1 := by omega
      have BL : Op.bytesLess x y = decide (x < y) := bless_dec x y
      obtain ⟨q, hq⟩ : ∃ q, decide (x < y) = q := ⟨_, rfl⟩
      rw [hq] at BL
      have HQ := Lib.hid hq
      clear hc hc' hx hy c0 c1 hq
      go_wp2_with fail
      refine wp_region_quiet_below (by kernel_rfl) (by kernel_rfl) ?_
      repeat (first | go_big_quiet_step (fail) | quiet_step (fail))
      refine wpQuiet_nil ?_
      intro _ hw'
      obtain ⟨⟨dq, osq⟩, hw''⟩ := hw'
      subst hw''
      have kq := Lib.hid (show Same wr _ from Kept.of_below (below_regrown wr dq osq))
      have KQ := Lib.hid (K.out.trans kq.out)
      clear kq
      cases q
      · have NE := Lib.hid (NO.out (of_decide_eq_false HQ.out))
        go_wp2_with fail
        go_ret
        exact ⟨by rw [NE.out]; rfl, KQ.out⟩
      · have ST := Lib.hid (YES.out (of_decide_eq_true HQ.out))
        go_wp2_with fail
        exact ⟨⟨j + 1, by go_num, by omega, ST.out, KQ.out⟩, by show n - ((j : Int) + 1 + 1).toNat < n - ((j : Int) + 1).toNat; omega⟩
    · have g1 : ¬ ((j : Int) + 1) < (n : Int) := by omega
      have OD : Hid (Ordd L) := fun i hi h1 => HO.out i (by have := HN.out; omega) h1
      clear HO
      go_wp2_with fail
      refine (ord_putSmall n wr (by omega)).mono ?_
      rintro e w1 ⟨v1, rfl, ho1, hk1⟩
      obtain ⟨a1, l1, c1, rfl, hl1, -, -, -⟩ := ho1.rd
      have K1 := Lib.hid (K.out.trans hk1)
      have hps := putSmall_len n
      rw [← hl1.out] at hps
      have HL1 := Lib.hid hl1.out
      clear ho1 hk1 hl1 K
      go_wp2_with fail
      go_loopw [4, 33] (fun s t wq => ∃ (i : Nat), t = .int .i64 i ∧ i ≤ n ∧ Fits (L.take i) ∧ s = .int .i64 ((8 + l1 + (layP (L.take i)).length : Nat)) ∧ Same w wq) (fun _ t _ => n - (intOf t).toNat)
      case atStart => exact ⟨0, rfl, by omega, fun p hp => by simp at hp, by simp [layP], K1.out⟩
      case round =>
        obtain ⟨i, rfl, hi, hfi, rfl, hk⟩ := hrel
        have KR := Lib.hid hk
        have FI := Lib.hid hfi
        clear hk hfi
        by_cases hgo : i < n
        · have hil : i < L.length := by have := HN.out; omega
          obtain ⟨b, off, rfl, hbl, hc⟩ := prq_at HAT.out hil
          obtain ⟨c0, c1⟩ := hc _ KR.out
          have NO := Lib.hid (fun h => chk_fit OD.out hil h)
          have YES : Hid (Fit1 L[i] → Fits (L.take (i + 1))) := fun h p hp => by
            rw [← List.take_append_getElem hil, List.mem_append, List.mem_singleton] at hp
            rcases hp with hp | rfl
            · exact FI.out p hp
            · exact h
          have LT : Hid ((layP (L.take (i + 1))).length = (layP (L.take i)).length + (layQ L[i]).length) := by show _ = _; rw [← List.take_append_getElem hil, layP_snoc, List.length_append]
          have LL : (layP (L.take i)).length ≤ 4004 * i := by
            have := layP_len FI.out.sml
            rw [List.length_take] at this
            omega
          obtain ⟨x, hx⟩ : ∃ x, L[i] = x := ⟨_, rfl⟩
          rw [hx] at c0 c1 NO YES LT
          obtain ⟨s, hs⟩ : ∃ s, (layP (L.take i)).length = s := ⟨_, rfl⟩
          rw [hs] at LT LL ⊢
          have g1 : (i : Int) < (n : Int) := by omega
          have g0 : (0 : Int) ≤ (i : Int) := by omega
          clear hc hx hs
          by_cases h16 : x.1.length ≤ 16
          · have f16 : ¬ (16 : Int) < (x.1.length : Int) := by omega
            by_cases h24 : x.2.length ≤ 24
            · have f24 : ¬ (24 : Int) < (x.2.length : Int) := by omega
              have ST := Lib.hid (YES.out ⟨h16, h24⟩)
              have PA := Lib.hid (putText_U x.1 (by omega))
              have PB := Lib.hid (putText_U x.2 (by omega))
              have QL := layQ_len (p := x) ⟨by omega, by omega⟩
              have QE : Hid ((layQ x).length = (putT (natsU x.1)).length + (putT (natsU x.2)).length) := by show _ = _; rw [layQ, List.length_append]
              rw [strN_natsU] at PA PB
              clear NO YES h16 h24
              go_wp2_with fail
              refine cutWl (fun wn => Blk wn wr.heap.size #[.string ⟨x.1.toArray⟩, .string ⟨x.2.toArray⟩] 42 ∧ Same wr wn) ⟨Blk.new _ _ _, (Kept.refl _ _).alloc _⟩ ?_
              rintro w2 ⟨hb2, k2⟩
              have QX := Lib.hid (fun w' (k : Same w2 w') => cell_blk (hb2.kept k (fun h => h)))
              have K2 := Lib.hid (KR.out.trans k2)
              generalize (⟨x.1.toArray⟩ : ByteArray) = s0 at *
              generalize (⟨x.2.toArray⟩ : ByteArray) = s1 at *
              clear hb2 k2 c0 c1 KR f16 f24
              refine wp_region_T (S := fun w' => Same w2 w') 10 (by kernel_rfl) (Kept.refl _ _).drew (fun hHeld hDn => ?_)
              refine wpT_z 0 47 QX hHeld hDn fun hDn => ?_
              refine wpT_z 1 48 QX hHeld hDn fun hDn => ?_
              refine wpT_z 2 49 QX hHeld hDn fun hDn => ?_
              refine wpT_z 5 52 QX hHeld hDn fun hDn => ?_
              refine wpT_z 6 53 QX hHeld hDn fun hDn => ?_
              refine wpT_one (i := 3) rfl (by kernel_rfl) hDn (fun K' hK => ?_)
              go_simp
              refine (PA.out _).mono ?_
              rintro e w3 ⟨a3, l3, c3, rfl, e3, n3, k3⟩
              have K3 := Lib.hid (((Kept.refl (fun _ => False) w2).drew).trans k3)
              have E3 := Lib.hid e3
              clear k3 n3 e3 PA
              refine hK.out _ _ K3.out (fun hHeld2 hDn2 => ?_)
              clear hK K' hHeld hDn
              have hHeld := hHeld2; have hDn := hDn2
              clear hHeld2 hDn2
              refine wpT_z 4 51 QX hHeld hDn fun hDn => ?_
              refine wpT_one (i := 7) rfl (by kernel_rfl) hDn (fun K' hK => ?_)
              go_simp
              refine (PB.out _).mono ?_
              rintro e w4 ⟨a4, l4, c4, rfl, e4, n4, k4⟩
              have K4 := Lib.hid (K3.out.trans k4)
              have E4 := Lib.hid e4
              clear k4 n4 e4 PB K3
              refine hK.out _ _ K4.out (fun hHeld2 hDn2 => ?_)
              clear hK K' hHeld hDn
              have hHeld := hHeld2; have hDn := hDn2
              clear hHeld2 hDn2
              have w1' : IntKind.i64.wrap ((l3 : Int) + (l4 : Int)) = (l3 : Int) + (l4 : Int) := IntWalk.i64_in _ (by have := E3.out; have := E4.out; have := QE.out; omega)
              have w2' : IntKind.i64.wrap (8 + (l1 : Int) + (s : Int) + ((l3 : Int) + (l4 : Int))) = 8 + (l1 : Int) + (s : Int) + ((l3 : Int) + (l4 : Int)) := IntWalk.i64_in _ (by have := E3.out; have := E4.out; have := QE.out; omega)
              refine wpT_z 8 55 QX hHeld hDn fun hDn => ?_
              refine wpT_z 9 56 QX hHeld hDn fun hDn => ?_
              refine wpT_last rfl (by kernel_rfl) hDn (fun K hK => ?_)
              go_simp
              refine hK.out _ _ (fun hDn' => ?_)
              clear hK K hDn hHeld; have hDn := hDn'; clear hDn'
              refine wpT_ze 11 4 hDn fun hDn => ?_
              refine wpT_done (by kernel_rfl) ?_ _
              clear hDn QX
              go_wp2_with fail
              exact ⟨⟨i + 1, by go_num, by omega, ST.out, by rw [LT.out, QE.out, E3.out, E4.out]; go_num, K2.out.trans K4.out⟩, by simp [intOf]; omega⟩
            · have f24 : (24 : Int) < (x.2.length : Int) := by omega
              have NE := Lib.hid (NO.out fun h => h24 h.2)
              clear NO YES h16 h24
              go_wp2_with fail
              go_ret
              exact ⟨by rw [NE.out]; rfl, KR.out.alloc _⟩
          · have f16 : (16 : Int) < (x.1.length : Int) := by omega
            have NE := Lib.hid (NO.out fun h => h16 h.1)
            clear NO YES h16
            go_wp2_with fail
            go_ret
            exact ⟨by rw [NE.out]; rfl, KR.out.alloc _⟩
        · have g2 : ¬ (i : Int) < (n : Int) := by omega
          have FT : Hid (Fits L) := by have := FI.out; rw [show i = L.length by have := HN.out; omega, List.take_length] at this; exact this
          have CE := Lib.hid (chk_end OD.out FT.out)
          have EL : 8 + l1 + (layP (L.take i)).length = 8 + (layT L).length := by
            rw [show i = L.length by have := HN.out; omega, List.take_length, HL1.out, layT, List.length_append, ← HN.out]; omega
          rw [EL]
          have LL := layT_len FT.out.sml
          rw [← HN.out] at LL
          obtain ⟨q, hq⟩ : ∃ q, (layT L).length = q := ⟨_, rfl⟩
          rw [hq] at CE LL ⊢
          clear FI OD EL hq
          by_cases hbig : 60000 < 8 + q
          · have f1 : (60000 : Int) < 8 + (q : Int) := by omega
            have CE' := Lib.hid (CE.out.trans (if_pos hbig))
            clear CE hbig
            go_wp2_with fail
            go_ret
            exact ⟨by rw [CE'.out]; rfl, KR.out⟩
          · have f1 : ¬ (60000 : Int) < 8 + (q : Int) := by omega
            have CE' := Lib.hid (CE.out.trans (if_neg hbig))
            clear CE hbig
            go_wp2_with fail
            go_ret
            exact ⟨by rw [CE'.out]; rfl, KR.out⟩
end Go.Proofs.YtpgghajkpjhieaaGreatDoor

namespace Go.Proofs.YtpgghajkpjhieaaGreatDoor
open Go.RowKit Go.Sort

theorem put_bts (L : List HPr) : Bts (putL L).1 := by
  unfold putL
  split
  · rename_i h
    obtain ⟨-, hf, hl⟩ := chk_zero h
    exact sealS_bts (Nat.le_refl _) (by omega) (layT_bts L)
  · intro x hx; simp at hx
theorem put_len (L : List HPr) : (putL L).1.length ≤ 60000 := by
  unfold putL
  split
  · rename_i h
    obtain ⟨-, hf, hl⟩ := chk_zero h
    rw [sealS_len (Nat.le_refl _)]
    omega
  · simp
theorem layT_pos (L : List HPr) : 1 ≤ (layT L).length := by
  have := putSmall_pos L.length
  simp only [layT, List.length_append]
  omega
set_option maxRecDepth 100000 in
set_option maxHeartbeats 800000 in
theorem dump_put (a : Option Addr) (n c : Nat) (L : List HPr) (hn : n = L.length) (hl : n ≤ 3000) (w : World) (hat : ElsAt prE w a L) :
    Calls Tryz.prog 8 #[.slice a n c] w fun e w' => ∃ v, e = .returned (.tuple #[v, .int .i64 ((putL L).2 : Nat)]) ∧ OwnN w' w.heap.size 5 .u8 v (putL L).1 ∧ Same w w' := by
  have HN := Lib.hid hn; have HAT := Lib.hid hat
  have CK := Lib.hid (dump_check a n c L hn hl w hat)
  clear hn hat
  by_cases h0 : chkD L = 0
  · obtain ⟨-, hf, hlen⟩ := chk_zero h0
    have FT := Lib.hid hf
    have e1 : putL L = (sealS (layT L) (layT L).length, 0) := if_pos h0
    rw [h0] at CK
    rw [e1]
    have hp := layT_pos L
    obtain ⟨B, hB⟩ : ∃ B, layT L = B := ⟨_, rfl⟩
    have TB := Lib.hid (layT_bts L)
    have DL := Lib.hid (fun w' (k : Same w w') => dump_lay a n c L HN.out hl hf.sml w' (HAT.out.same k))
    rw [hB] at hlen hp TB DL ⊢
    clear hf h0 e1 hB
    go_enter Tryz.func8, Tryz.ntmps8
    go_wp2_with fail
    refine CK.out.mono ?_
    rintro e w1 ⟨rfl, k1⟩
    have K1 := Lib.hid k1
    clear k1
    simp only [Int.natCast_zero]
    go_wp2_with fail
    refine (DL.out _ K1.out).mono ?_
    rintro e w2 ⟨v2, rfl, o2, k2⟩
    obtain ⟨a2, l2, c2, rfl, hl2, hnil2, hat2, hc2⟩ := o2.rd
    have K2 := Lib.hid (K1.out.trans k2)
    have N2 := Lib.hid hat2.out
    have C2 := Lib.hid hc2.out.1
    have hl2' : l2 = B.length := hl2.out
    have HL2 := Lib.hid hl2'
    have g1 : (l2 : Int) ≤ 60000 := by omega
    clear o2 k2 hl2 hnil2 hat2 hc2 hl2' DL CK
    go_wp2_with fail
    have SE := cr_sealS a2 l2 c2 B.length (8 + l2) (by rw [HL2.out]) B HL2.out TB.out C2.out (Nat.le_refl _) hp (by omega) w2 N2.out
    rw [show ((8 + l2 : Nat) : Int) = 8 + (l2 : Int) by omega] at SE
    refine SE.mono ?_
    rintro e w3 ⟨v3, rfl, o3, k3⟩
    have K3 := Lib.hid (K2.out.trans k3)
    have O3 := Lib.hid (o3.base K2.out.size)
    clear k3 o3 SE
    go_wp2_with fail
    go_ret2
    exact ⟨_, rfl, O3.out, K3.out⟩
  · have e1 : putL L = ([], chkD L) := if_neg h0
    rw [e1]
    obtain ⟨q, hq⟩ : ∃ q, chkD L = q := ⟨_, rfl⟩
    rw [hq] at CK h0 ⊢
    have h1 : ((q : Int) != 0) = true := by simpa using h0
    clear e1 hq
    go_enter Tryz.func8, Tryz.ntmps8
    go_wp2_with fail
    refine CK.out.mono ?_
    rintro e w1 ⟨rfl, k1⟩
    have K1 := Lib.hid k1
    clear k1
    go_wp2_with fail
    go_ret2
    exact ⟨_, rfl, OwnN.none0 _ _ _ _, K1.out⟩
set_option maxRecDepth 100000 in
set_option maxHeartbeats 800000 in
theorem rdump_put (a : Option Addr) (n c : Nat) (L : List HPr) (hn : n = L.length) (hl : n ≤ 3000) (w : World) (hat : ElsAt prE w a L) :
    Calls Tryz.prog 9 #[.slice a n c] w fun e w' => ∃ a' c', e = .returned (.tuple #[.slice a' (putL L).1.length c', .int .i64 ((putL L).2 : Nat)]) ∧ NatsAt w' .u8 a' (putL L).1 ∧ Same w w' := by
  have HN := Lib.hid hn; have HAT := Lib.hid hat
  have CK := Lib.hid (rdump_check a n c L hn hl w hat)
  clear hn hat
  by_cases h0 : chkD L = 0
  · obtain ⟨-, hf, hlen⟩ := chk_zero h0
    have e1 : putL L = (sealS (layT L) (layT L).length, 0) := if_pos h0
    rw [h0] at CK
    rw [e1]
    have hp := layT_pos L
    obtain ⟨B, hB⟩ : ∃ B, layT L = B := ⟨_, rfl⟩
    have TB := Lib.hid (layT_bts L)
    have DL := Lib.hid (fun w' (k : Same w w') => rdump_lay a n c L HN.out hl hf.sml w' (HAT.out.same k))
    rw [hB] at hlen hp TB DL ⊢
    clear hf h0 e1 hB
    go_enter Tryz.func9, Tryz.ntmps9
    go_wp2_with fail
    refine CK.out.mono ?_
    rintro e w1 ⟨rfl, k1⟩
    have K1 := Lib.hid k1
    clear k1
    simp only [Int.natCast_zero]
    go_wp2_with fail
    refine (DL.out _ K1.out).mono ?_
    rintro e w2 ⟨v2, rfl, o2, k2⟩
    obtain ⟨a2, l2, c2, rfl, hl2, hnil2, hat2, hc2⟩ := o2.rd
    have K2 := Lib.hid (K1.out.trans k2)
    have N2 := Lib.hid hat2.out
    have C2 := Lib.hid hc2.out.1
    have hl2' : l2 = B.length := hl2.out
    have HL2 := Lib.hid hl2'
    have g1 : (l2 : Int) ≤ 60000 := by omega
    clear o2 k2 hl2 hnil2 hat2 hc2 hl2' CK
    go_wp2_with fail
    refine (DL.out _ K2.out).mono ?_
    rintro e w3 ⟨v3, rfl, o3, k3⟩
    obtain ⟨a3, l3, c3, rfl, hl3, -, -, -⟩ := o3.rd
    have K3 := Lib.hid (K2.out.trans k3)
    have N3 := Lib.hid (N2.out.same k3)
    have hl3' : l3 = l2 := by rw [hl3.out, HL2.out]
    subst hl3'
    clear o3 k3 hl3 DL N2 K2
    go_wp2_with fail
    have SE := rc_sealS a2 l3 c2 B.length (8 + l3) (by rw [HL2.out]) B HL2.out TB.out C2.out (Nat.le_refl _) (by omega) w3 N3.out
    rw [show ((8 + l3 : Nat) : Int) = 8 + (l3 : Int) by omega] at SE
    refine SE.mono ?_
    rintro e w4 ⟨a4, c4, rfl, n4, -, -, k4⟩
    have K4 := Lib.hid (K3.out.trans k4)
    have N4 := Lib.hid n4
    clear k4 n4 SE
    go_wp2_with fail
    go_ret2
    have ez : (sealS B B.length).length = 8 + l3 := by rw [sealS_len (Nat.le_refl _), HL2.out]
    exact ⟨a4, c4, by rw [ez]; rfl, N4.out, K4.out⟩
  · have e1 : putL L = ([], chkD L) := if_neg h0
    rw [e1]
    obtain ⟨q, hq⟩ : ∃ q, chkD L = q := ⟨_, rfl⟩
    rw [hq] at CK h0 ⊢
    have h1 : ((q : Int) != 0) = true := by simpa using h0
    clear e1 hq
    go_enter Tryz.func9, Tryz.ntmps9
    go_wp2_with fail
    refine CK.out.mono ?_
    rintro e w1 ⟨rfl, k1⟩
    have K1 := Lib.hid k1
    clear k1
    go_wp2_with fail
    go_ret2
    exact ⟨none, 0, rfl, .inl rfl, K1.out⟩
end Go.Proofs.YtpgghajkpjhieaaGreatDoor
