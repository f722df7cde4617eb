/- Lists of pairs are compared. -/
import Derived.Test.YtpgghajkpjhieaaGreatDoorPr0
import Derived.Test.YtpgghajkpjhieaaGreatDoorProg
import Derived.Deep.RegionHeld3
import Derived.Lib.QuietBelow
import Derived.Deep.QuietTactic
import Derived.BigQuiet
namespace Go.Proofs.YtpgghajkpjhieaaGreatDoor
open Go.RowKit Go.Sort

/-- A pair in memory. -/
theorem prq_at {w : World} {a : Option Addr} {l : List HPr} (h : ElsAt prE w a l) {i : Nat} (hi : i < l.length) :
    ∃ b off, a = some ⟨b, off, none⟩ ∧ b < w.heap.size ∧ ∀ w', Same w w' → w'.cell? ⟨b, off + i * 2, none⟩ = some (encStr l[i].1) ∧ w'.cell? ⟨b, off + i * 2 + 1, none⟩ = some (encStr l[i].2) := by
  obtain ⟨b, off, rfl, hb⟩ := h.there (fun e => by rw [e] at hi; simp at hi)
  have hx : l[i]? = some l[i] := List.getElem?_eq_getElem hi
  refine ⟨b, off, rfl, hb, fun w' k => ?_⟩
  have h2 := h.same k
  have g : ∀ j u, (encP l[i])[j]? = some u → w'.cell? ⟨b, off + i * 2 + j, none⟩ = some u := fun j u hu => by
    have := h2.get hx j (u := u) hu
    rw [Nat.add_assoc]
    exact this
  exact ⟨g 0 _ rfl, g 1 _ rfl⟩
theorem take_eq_snoc {L M : List HPr} {i : Nat} (h : L.take i = M.take i) (h1 : i < L.length) (h2 : i < M.length) (e : L[i] = M[i]) : L.take (i + 1) = M.take (i + 1) := by
  rw [List.take_add_one, List.take_add_one, h, List.getElem?_eq_getElem h1, List.getElem?_eq_getElem h2, e]

set_option maxRecDepth 100000 in
set_option maxHeartbeats 800000 in
theorem ref_samePairs (a a' : Option Addr) (n m c c' : Nat) (L M : List HPr) (hn : n = L.length) (hm : m = M.length) (hl : n ≤ 1000000) (w : World) (hat : ElsAt prE w a L) (hat' : ElsAt prE w a' M) :
    Calls Tryz.prog 34 #[.slice a n c, .slice a' m c'] w fun e w' => e = .returned (.bool (decide (L = M))) ∧ Same w w' := by
  by_cases hnm : n = m
  · have HN := Lib.hid hn; have HM := Lib.hid (hnm.trans hm); have HAT := Lib.hid hat; have HAT' := Lib.hid hat'
    clear hn hm hat hat'
    subst hnm
    go_enter Tryz.func34, Tryz.ntmps34
    go_wp2_with fail
    go_loopw [5] (fun t wr => ∃ (i : Nat), t = .int .i64 i ∧ i ≤ n ∧ L.take i = M.take i ∧ Same w wr) (fun t _ => n - (intOf t).toNat)
    case atStart => exact ⟨0, rfl, by omega, rfl, Kept.refl _ _⟩
    case round =>
      obtain ⟨i, rfl, hi, htk, hk⟩ := hrel
      have K := Lib.hid hk
      have TK := Lib.hid htk
      clear hk htk
      by_cases hgo : i < n
      · have hil : i < L.length := by have := HN.out; omega
        have him : i < M.length := by have := HM.out; omega
        obtain ⟨b, off, rfl, hbl, hc⟩ := prq_at HAT.out hil
        obtain ⟨b', off', rfl, hbl', hc'⟩ := prq_at HAT'.out him
        obtain ⟨c0, c1⟩ := hc _ K.out
        obtain ⟨d0, d1⟩ := hc' _ K.out
        have STP := Lib.hid (take_eq_snoc TK.out hil him)
        have DIF := Lib.hid (show L[i] ≠ M[i] → L ≠ M from fun h e => h (by subst e; rfl))
        obtain ⟨x, hx⟩ : ∃ x, L[i] = x := ⟨_, rfl⟩
        obtain ⟨y, hy⟩ : ∃ y, M[i] = y := ⟨_, rfl⟩
        rw [hx] at c0 c1 STP DIF
        rw [hy] at d0 d1 STP DIF
        have q0 := fun dq os => cell_regrown (w := wr) c0 dq os
        have q1 := fun dq os => cell_regrown (w := wr) c1 dq os
        have r0 := fun dq os => cell_regrown (w := wr) d0 dq os
        have r1 := fun dq os => cell_regrown (w := wr) d1 dq os
        have g1 : (i : Int) < (n : Int) := by omega
        have g0 : (0 : Int) ≤ (i : Int) := by omega
        have EQ := fun w' => eq_pair w' x y
        obtain ⟨q, hq⟩ : ∃ q, decide (x = y) = q := ⟨_, rfl⟩
        rw [hq] at EQ
        have HQ := Lib.hid hq
        obtain ⟨X0, hX0⟩ : ∃ v, encStr x.1 = v := ⟨_, rfl⟩
        obtain ⟨X1, hX1⟩ : ∃ v, encStr x.2 = v := ⟨_, rfl⟩
        obtain ⟨Y0, hY0⟩ : ∃ v, encStr y.1 = v := ⟨_, rfl⟩
        obtain ⟨Y1, hY1⟩ : ∃ v, encStr y.2 = v := ⟨_, rfl⟩
        rw [hX0] at q0 EQ
        rw [hX1] at q1 EQ
        rw [hY0] at r0 EQ
        rw [hY1] at r1 EQ
        clear hc hc' hx hy c0 c1 d0 d1 hq hX0 hX1 hY0 hY1
        go_wp2_with fail
        refine wp_region_quiet_below (by kernel_rfl) (by kernel_rfl) ?_
        repeat (first | go_big_quiet_step (fail) | quiet_step (fail))
        refine wpQuiet_nil ?_
        intro _ hw'
        obtain ⟨⟨dq, osq⟩, hw''⟩ := hw'
        subst hw''
        have kq := Lib.hid (show Same wr _ from Kept.of_below (below_regrown wr dq osq))
        have KQ := Lib.hid (K.out.trans kq.out)
        clear kq
        cases q
        · have NE := Lib.hid (show decide (L = M) = false from decide_eq_false (DIF.out (of_decide_eq_false HQ.out)))
          go_wp2_with fail
          go_ret
          exact ⟨by rw [NE.out]; rfl, KQ.out⟩
        · have ST := Lib.hid (STP.out (of_decide_eq_true HQ.out))
          go_wp2_with fail
          exact ⟨⟨i + 1, by go_num, by omega, ST.out, KQ.out⟩, by simp [intOf]; omega⟩
      · have g1 : ¬ (i : Int) < (n : Int) := by omega
        have e : i = n := by omega
        subst e
        have TE := TK.out
        rw [List.take_of_length_le (by have := HN.out; omega), List.take_of_length_le (by have := HM.out; omega)] at TE
        clear TK
        have TE' := Lib.hid TE
        clear TE
        have TE := TE'
        clear TE'
        go_wp2_with fail
        go_ret
        exact ⟨by rw [show decide (L = M) = true from decide_eq_true TE.out]; rfl, K.out⟩
  · have HE := Lib.hid (show decide (L = M) = false from decide_eq_false fun e => hnm (by rw [hn, hm, e]))
    have hd : ((n : Int) == (m : Int)) = false := by simpa using fun e => hnm (by omega)
    go_enter Tryz.func34, Tryz.ntmps34
    go_wp2_with fail
    go_ret
    exact ⟨by rw [HE.out]; rfl, Kept.refl _ _⟩
set_option maxRecDepth 100000 in
set_option maxHeartbeats 800000 in
theorem sl_equalP (a a' : Option Addr) (n m c c' : Nat) (L M : List HPr) (hn : n = L.length) (hm : m = M.length) (hl : n ≤ 1000000) (w : World) (hat : ElsAt prE w a L) (hat' : ElsAt prE w a' M) :
    Calls Tryz.prog 35 #[.slice a n c, .slice a' m c'] w fun e w' => e = .returned (.bool (decide (L = M))) ∧ Same w w' := by
  by_cases hnm : n = m
  · have HN := Lib.hid hn; have HM := Lib.hid (hnm.trans hm); have HAT := Lib.hid hat; have HAT' := Lib.hid hat'
    clear hn hm hat hat'
    subst hnm
    go_enter Tryz.func35, Tryz.ntmps35
    go_wp2_with fail
    go_loopw [13] (fun t wr => ∃ (i : Nat), t = .int .i64 i ∧ i ≤ n ∧ L.take i = M.take i ∧ Same w wr) (fun t _ => n - (intOf t).toNat)
    case atStart => exact ⟨0, rfl, by omega, rfl, Kept.refl _ _⟩
    case round =>
      obtain ⟨i, rfl, hi, htk, hk⟩ := hrel
      have K := Lib.hid hk
      have TK := Lib.hid htk
      clear hk htk
      by_cases hgo : i < n
      · have hil : i < L.length := by have := HN.out; omega
        have him : i < M.length := by have := HM.out; omega
        obtain ⟨b, off, rfl, hbl, hc⟩ := prq_at HAT.out hil
        obtain ⟨b', off', rfl, hbl', hc'⟩ := prq_at HAT'.out him
        obtain ⟨c0, c1⟩ := hc _ K.out
        obtain ⟨d0, d1⟩ := hc' _ K.out
        have STP := Lib.hid (take_eq_snoc TK.out hil him)
        have DIF := Lib.hid (show L[i] ≠ M[i] → L ≠ M from fun h e => h (by subst e; rfl))
        obtain ⟨x, hx⟩ : ∃ x, L[i] = x := ⟨_, rfl⟩
        obtain ⟨y, hy⟩ : ∃ y, M[i] = y := ⟨_, rfl⟩
        rw [hx] at c0 c1 STP DIF
        rw [hy] at d0 d1 STP DIF
        have q0 := fun dq os => cell_regrown (w := wr) c0 dq os
        have q1 := fun dq os => cell_regrown (w := wr) c1 dq os
        have r0 := fun dq os => cell_regrown (w := wr) d0 dq os
        have r1 := fun dq os => cell_regrown (w := wr) d1 dq os
        have g1 : (i : Int) < (n : Int) := by omega
        have g0 : (0 : Int) ≤ (i : Int) := by omega
        have EQ := fun w' => eq_pair w' x y
        obtain ⟨q, hq⟩ : ∃ q, decide (x = y) = q := ⟨_, rfl⟩
        rw [hq] at EQ
        have HQ := Lib.hid hq
        obtain ⟨X0, hX0⟩ : ∃ v, encStr x.1 = v := ⟨_, rfl⟩
        obtain ⟨X1, hX1⟩ : ∃ v, encStr x.2 = v := ⟨_, rfl⟩
        obtain ⟨Y0, hY0⟩ : ∃ v, encStr y.1 = v := ⟨_, rfl⟩
        obtain ⟨Y1, hY1⟩ : ∃ v, encStr y.2 = v := ⟨_, rfl⟩
        rw [hX0] at q0 EQ
        rw [hX1] at q1 EQ
        rw [hY0] at r0 EQ
        rw [hY1] at r1 EQ
        clear hc hc' hx hy c0 c1 d0 d1 hq hX0 hX1 hY0 hY1
        go_wp2_with fail
        refine wp_region_quiet_below (by kernel_rfl) (by kernel_rfl) ?_
        repeat (first | go_big_quiet_step (fail) | quiet_step (fail))
        refine wpQuiet_nil ?_
        intro _ hw'
        obtain ⟨⟨dq, osq⟩, hw''⟩ := hw'
        subst hw''
        have kq := Lib.hid (show Same wr _ from Kept.of_below (below_regrown wr dq osq))
        have KQ := Lib.hid (K.out.trans kq.out)
        clear kq
        cases q
        · have NE := Lib.hid (show decide (L = M) = false from decide_eq_false (DIF.out (of_decide_eq_false HQ.out)))
          go_wp2_with fail
          go_ret
          exact ⟨by rw [NE.out]; rfl, KQ.out⟩
        · have ST := Lib.hid (STP.out (of_decide_eq_true HQ.out))
          go_wp2_with fail
          exact ⟨⟨i + 1, by go_num, by omega, ST.out, KQ.out⟩, by simp [intOf]; omega⟩
      · have g1 : ¬ (i : Int) < (n : Int) := by omega
        have e : i = n := by omega
        subst e
        have TE := TK.out
        rw [List.take_of_length_le (by have := HN.out; omega), List.take_of_length_le (by have := HM.out; omega)] at TE
        clear TK
        have TE' := Lib.hid TE
        clear TE
        have TE := TE'
        clear TE'
        go_wp2_with fail
        go_ret
        exact ⟨by rw [show decide (L = M) = true from decide_eq_true TE.out]; rfl, K.out⟩
  · have HE := Lib.hid (show decide (L = M) = false from decide_eq_false fun e => hnm (by rw [hn, hm, e]))
    have hd : ((n : Int) == (m : Int)) = false := by simpa using fun e => hnm (by omega)
    go_enter Tryz.func35, Tryz.ntmps35
    go_wp2_with fail
    go_ret
    exact ⟨by rw [HE.out]; rfl, Kept.refl _ _⟩
end Go.Proofs.YtpgghajkpjhieaaGreatDoor
