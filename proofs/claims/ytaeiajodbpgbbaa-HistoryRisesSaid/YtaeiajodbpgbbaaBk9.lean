/- Which events may be: opened, and Check. -/
import Derived.Test.YtaeiajodbpgbbaaBk8
namespace Go.Proofs.Ytaeiajodbpgbbaa
open Go.RowKit Go.Sort Go.Shelf

theorem BkIn.new (w : World) : BkIn ((w.alloc (.map #[] 0)).alloc (.cells #[.int .i64 0, .map (some w.heap.size), .slice none 0 0, .slice none 0 0] 73)) w.heap.size (w.heap.size + 1) w.heap.size (fun _ => 0) (fun _ => 0) bk0 0 := by
  refine ⟨⟨none, 0, 0, none, 0, 0, [], Blk.new' _ _ _ (by simp), OwnE.nil _ _ _, rfl, by simp, OwnE.nil _ _ _⟩, (MapK.new keyE_int w).same ((Kept.refl _ _).alloc _), (by intro id t h; cases h), (by intro id h; cases h), (by intro i j h; cases h), by simp [bk0], by simp [bk0], (by intro id h; cases h), by omega, Nat.le_refl _⟩
def OpPost (w : World) (e : Ending) (w' : World) : Prop := (∃ B M, e = .returned (.pointer (some ⟨B, 0, none⟩)) ∧ BkIn w' w.heap.size B M (fun _ => 0) (fun _ => 0) bk0 0) ∧ Same w w'
set_option maxRecDepth 100000 in
theorem bk_opened (w : World) : Calls Try.prog 24 #[] w (OpPost w) := by
  have hmm := @run_makeMap Try.prog
  go_enter Try.func24, Try.ntmps24
  go_wp2_with fail
  go_ret
  refine ⟨⟨w.heap.size + 1, w.heap.size, ?_, BkIn.new w⟩, ((Kept.refl _ _).alloc _).alloc _⟩
  rfl
/-- What Check tells. -/
def ChkPost (w : World) (r : Nat × Nat) (e : Ending) (w' : World) : Prop := e = .returned (.tuple #[.int .i64 ((r.1 : Nat) : Int), .int .i64 ((r.2 : Nat) : Int)]) ∧ Same w w'
/-- Values short enough for a statement. -/
def ValsB (l : List HEv) : Prop := ∀ e ∈ l, e.val.length ≤ 100
set_option maxRecDepth 100000 in
set_option maxHeartbeats 1600000 in
theorem bk_check (a : Option Addr) (n c : Nat) (l : List HEv) (hn : n = l.length) (hl : n ≤ 40) (hkb : KeysB l) (hvb : ValsB l) (w : World) (hat : ElsAt evE w a l) :
    Calls Try.prog 17 #[.slice a n c] w (ChkPost w (chkB bk0 0 l)) := by
  have HN := Lib.hid hn; have HAT0 := Lib.hid hat; have HKB := Lib.hid hkb; have HVB := Lib.hid hvb; have HL := Lib.hid hl
  obtain ⟨r, hr⟩ : ∃ r, chkB bk0 0 l = r := ⟨_, rfl⟩
  rw [hr]
  have HR := Lib.hid hr
  clear hn hat hkb hvb hr
  obtain ⟨CP, hCP⟩ : ∃ CP, ChkPost w r = CP := ⟨_, rfl⟩
  rw [hCP]
  have HCP := Lib.hid hCP
  clear hCP
  go_enter Try.func17, Try.ntmps17
  go_wp2_with fail
  with_reducible refine (bk_opened w).mono ?_
  rintro e w1 ⟨⟨B, M, rfl, hb⟩, k1⟩
  have HB := Lib.hid hb
  have K1 := Lib.hid k1
  clear hb k1
  go_wp2_with fail
  go_loopw [11] (fun t wr => ∃ (i : Nat) (bk : HBk) (pb pm : Int → Nat), t = .int .i64 i ∧ i ≤ n ∧ BkIn wr w.heap.size B M pb pm bk i ∧ chkB bk i (l.drop i) = r ∧ Same w wr) (fun t _ => n - (intOf t).toNat)
  case atStart => exact ⟨0, bk0, _, _, rfl, by omega, HB.out, HR.out, K1.out⟩
  case round =>
    obtain ⟨i, bk, pb, pm, rfl, hi, hb, hc, hk⟩ := hrel
    have K := Lib.hid hk; have HBK := Lib.hid hb; have HC := Lib.hid hc
    have HAT := HAT0
    clear hk hb hc HB K1
    by_cases hgo : i < n
    · have hil : i < l.length := by have := HN.out; omega
      obtain ⟨b, off, rfl, hbl, hc⟩ := ev_at HAT.out hil
      obtain ⟨c0, c1, c2, c3, c4, c5⟩ := hc _ K.out
      obtain ⟨x, hx⟩ : ∃ x, l[i] = x := ⟨_, rfl⟩
      have TK := Lib.hid (show l.take (i + 1) = l.take i ++ [x] by rw [← hx, List.take_append_getElem])
      rw [hx] at c0 c1 c2 c3 c4 c5
      have g1 : (i : Int) < (n : Int) := by omega
      have g0 : (0 : Int) ≤ (i : Int) := by omega
      have XK := Lib.hid (show x.key.length ≤ 100 ∧ x.val.length ≤ 100 from by rw [← hx]; exact ⟨HKB.out _ (List.getElem_mem _), HVB.out _ (List.getElem_mem _)⟩)
      have DR := Lib.hid (show l.drop i = x :: l.drop (i + 1) from by rw [← hx]; exact (List.drop_eq_getElem_cons hil))
      have K0 := K
      clear hx TK
      go_upto_region 5 with fail
      refine cutWl (fun wn => Fr wn [(wr.heap.size, #[.int .u8 (x.k : Nat), .int .i64 x.x, .int .i64 x.t, encStr x.key, encStr x.val, .bool x.is], 42)] ∧ Same wr wn) ⟨⟨Blk.new _ _ _, trivial⟩, (Kept.refl _ _).alloc _⟩ ?_
      rintro w4 ⟨hf4, k4⟩
      have F4 := Lib.hid hf4
      have K4 := Lib.hid (K.out.trans k4)
      have KR := Lib.hid k4
      obtain ⟨p0, f0, -⟩ := F4.out.rules
      have z0 := F4.out.1.lt
      clear hf4 k4 c0 c1 c2 c3 c4 c5 hc
      have MAY := Lib.hid (bk_may (HBK.out.same KR.out) (by have := HL.out; omega) K4.out.size x XK.out.1 XK.out.2)
      obtain ⟨m, hm⟩ : ∃ m, bk.may x = m := ⟨_, rfl⟩
      rw [hm] at MAY
      have HM := Lib.hid hm
      clear hm
      go_wp2_with fail
      with_reducible refine MAY.out.mono ?_
      rintro e w5 ⟨rfl, k5⟩
      have K5 := Lib.hid (K4.out.trans k5)
      have KR5 := Lib.hid (KR.out.trans k5)
      have F5 := Lib.hid (F4.out.same k5)
      clear k5 p0 f0 z0 F4 K4 KR MAY
      obtain ⟨p0, f0, -⟩ := F5.out.rules
      have z0 := F5.out.1.lt
      by_cases hm0 : m = 0
      · subst hm0
        have NO := Lib.hid (bk_note (HBK.out.same KR5.out) (by have := HL.out; omega) K5.out.size x)
        go_wp2_with fail
        with_reducible refine NO.out.mono ?_
        rintro e w6 ⟨rfl, ⟨pb', pm', hb6⟩, k6⟩
        have K6 := Lib.hid (show Same w w6 from K5.out.step k6 (fun j hj q => by omega))
        have H6 := Lib.hid hb6
        clear hb6 k6 NO
        go_wp2_with fail
        refine ⟨⟨i + 1, bk.note x, pb', pm', by go_num, by omega, H6.out, ?_, K6.out⟩, by simp [intOf]; omega⟩
        have := HC.out
        rw [DR.out] at this
        unfold chkB at this
        rw [if_pos HM.out] at this
        exact this
      · have gm : ((m : Int) == 0) = false := by simp; omega
        have gm2 : ((m : Int) != 0) = true := by simp; omega
        have HRR := Lib.hid (show r = (i, m) from by
          have := HC.out
          rw [DR.out] at this
          unfold chkB at this
          rw [if_neg (by rw [HM.out]; exact hm0), HM.out] at this
          exact this.symm)
        clear hm0
        go_wp2_with fail
        rw [← HCP.out]
        exact ⟨by rw [HRR.out]; rfl, K5.out⟩
    · have hin : i = n := by omega
      have g1 : ¬ (i : Int) < (n : Int) := by omega
      have HRR := Lib.hid (show r = (n, 0) from by
        have := HC.out
        rw [hin, List.drop_of_length_le (by rw [HN.out]; exact Nat.le_refl _)] at this
        exact this.symm)
      go_wp2_with fail
      rw [← HCP.out]
      exact ⟨by rw [HRR.out]; rfl, K.out⟩
end Go.Proofs.Ytaeiajodbpgbbaa
