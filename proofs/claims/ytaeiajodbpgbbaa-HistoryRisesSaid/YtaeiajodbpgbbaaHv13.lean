/- The document's Snapshot, Overlap; SamePairs. -/
import Derived.Test.YtaeiajodbpgbbaaHv12
namespace Go.Proofs.Ytaeiajodbpgbbaa
open Go.RowKit Go.Sort Go.Shelf

theorem OvPost.back {w w1 w2 : World} {g : SMap} {e : Ending} (h : OvPost w1 g e w2) (k : Same w w1) : OvPost w g e w2 := ⟨h.1, k.trans h.2⟩
set_option maxRecDepth 100000 in
set_option maxHeartbeats 800000 in
theorem rf_Snapshot (a : Option Addr) (n c : Nat) (l : List HEv) (hn : n = l.length) (hl : n ≤ 40) (txn : Int) (w : World) (hat : ElsAt evE w a l) (hav : ∀ x, a = some x → x.block < w.heap.size) :
    Calls Try.prog 14 #[.slice a n c, .int .i64 txn] w (OvPost w (snF l txn)) := by
  have FS := Lib.hid (rf_first a n c l hn (by omega) 0 txn w hat)
  have ST := Lib.hid (fun at_ => rf_State a n c l hn hl at_ w hat hav)
  have OV := Lib.hid (fun w' (k : Same w w') => rf_over a n c l hn (by omega) txn w' (hat.same k))
  have HN := Lib.hid hn; have HAT := Lib.hid hat
  have FC := fstI_cases l 0 txn
  clear hn hat hav
  rcases FC with ⟨e1, e2⟩ | ⟨k, hk, e1, e2⟩
  · have SN := Lib.hid (show snF l txn = ovF (stF l 0) l txn from by unfold snF fstE; rw [e2]; rfl)
    rw [e1] at FS
    clear e1 e2
    rw [SN.out]
    go_enter Try.func14, Try.ntmps14
    go_wp2_with fail
    refine FS.out.mono ?_
    rintro e w1 ⟨rfl, hw1⟩
    subst hw1
    go_wp2_with fail
    with_reducible refine (ST.out 0).mono ?_
    rintro e w2 ⟨⟨a2, n2, c2, L2, rfl, hL2, hn2, hnil2, hat2⟩, k2⟩
    have OV2 := Lib.hid (OV.out w2 k2 (stF l 0) L2 hL2 (fun k h => stF_key h) a2 n2 c2 hn2 hnil2 hat2)
    have K2 := Lib.hid k2
    clear hL2 hn2 hnil2 hat2 k2
    go_wp2_with fail
    with_reducible refine OV2.out.mono ?_
    rintro e w3 ⟨⟨a3, n3, c3, L3, rfl, hL3, hn3, hnil3, hat3⟩, k3⟩
    have HB := Lib.hid (OvPost.back ⟨⟨a3, n3, c3, L3, rfl, hL3, hn3, hnil3, hat3⟩, k3⟩ K2.out)
    clear hL3 hn3 hnil3 hat3 k3
    go_wp2_with fail
    go_ret
    exact HB.out
  · obtain ⟨x, hx⟩ : ∃ x, l[k] = x := ⟨_, rfl⟩
    have SN := Lib.hid (show snF l txn = ovF (stF l x.t) l txn from by unfold snF fstE; rw [e2, ← hx]; rfl)
    rw [e1] at FS
    rw [SN.out]
    have g1 : (k : Int) < (n : Int) := by have := HN.out; omega
    have g0 : (0 : Int) ≤ (k : Int) := by omega
    obtain ⟨b, off, rfl, hbl, hc⟩ := ev_at HAT.out hk
    obtain ⟨-, -, c2, -, -, -⟩ := hc _ (Kept.refl _ _)
    rw [hx] at c2
    clear e1 e2 hx hc
    go_enter Try.func14, Try.ntmps14
    go_wp2_with fail
    refine FS.out.mono ?_
    rintro e w1 ⟨rfl, hw1⟩
    subst hw1
    go_wp2_with fail
    with_reducible refine (ST.out x.t).mono ?_
    rintro e w2 ⟨⟨a2, n2, c2, L2, rfl, hL2, hn2, hnil2, hat2⟩, k2⟩
    have OV2 := Lib.hid (OV.out w2 k2 (stF l x.t) L2 hL2 (fun k h => stF_key h) a2 n2 c2 hn2 hnil2 hat2)
    have K2 := Lib.hid k2
    clear hL2 hn2 hnil2 hat2 k2
    go_wp2_with fail
    with_reducible refine OV2.out.mono ?_
    rintro e w3 ⟨⟨a3, n3, c3, L3, rfl, hL3, hn3, hnil3, hat3⟩, k3⟩
    have HB := Lib.hid (OvPost.back ⟨⟨a3, n3, c3, L3, rfl, hL3, hn3, hnil3, hat3⟩, k3⟩ K2.out)
    clear hL3 hn3 hnil3 hat3 k3
    go_wp2_with fail
    go_ret
    exact HB.out
set_option maxRecDepth 100000 in
set_option maxHeartbeats 800000 in
theorem rf_same (a a' : Option Addr) (n c c' : Nat) (L : List HPr) (hn : n = L.length) (hl : n ≤ 1000) (w : World) (hat : ElsAt prE w a L) (hat' : ElsAt prE w a' L) :
    Calls Try.prog 10 #[.slice a n c, .slice a' n c'] w fun e w' => e = .returned (.bool true) ∧ Same w w' := by
  have HN := Lib.hid hn; have HAT := Lib.hid hat; have HAT' := Lib.hid hat'
  clear hn hat hat'
  go_enter Try.func10, Try.ntmps10
  go_wp2_with fail
  go_loopw [5] (fun t wr => ∃ (i : Nat), t = .int .i64 i ∧ i ≤ n ∧ Same w wr) (fun t _ => n - (intOf t).toNat)
  case atStart => exact ⟨0, rfl, by omega, Kept.refl _ _⟩
  case round =>
    obtain ⟨i, rfl, hi, hk⟩ := hrel
    have K := Lib.hid hk
    clear hk
    by_cases hgo : i < n
    · have hil : i < L.length := by have := HN.out; omega
      obtain ⟨b, off, rfl, hbl, hc⟩ := pr_at HAT.out hil
      obtain ⟨b', off', rfl, hbl', hc'⟩ := pr_at HAT'.out hil
      obtain ⟨c0, c1⟩ := hc _ K.out
      obtain ⟨d0, d1⟩ := hc' _ K.out
      obtain ⟨x, hx⟩ : ∃ x, L[i] = x := ⟨_, rfl⟩
      rw [hx] at c0 c1 d0 d1
      have q0 := fun dq os => cell_regrown (w := wr) c0 dq os
      have q1 := fun dq os => cell_regrown (w := wr) c1 dq os
      have r0 := fun dq os => cell_regrown (w := wr) d0 dq os
      have r1 := fun dq os => cell_regrown (w := wr) d1 dq os
      have g1 : (i : Int) < (n : Int) := by omega
      have g0 : (0 : Int) ≤ (i : Int) := by omega
      clear hc hc' hx c0 c1 d0 d1
      go_wp2_with fail
      refine wp_region_quiet_below (by kernel_rfl) (by kernel_rfl) ?_
      repeat (first | go_big_quiet_step (fail) | quiet_step (fail))
      refine wpQuiet_nil ?_
      intro _ hw'
      obtain ⟨⟨dq, osq⟩, hw''⟩ := hw'
      subst hw''
      have kq := Lib.hid (show Same wr _ from Kept.of_below (below_regrown wr dq osq))
      have KQ := Lib.hid (K.out.trans kq.out)
      clear kq
      go_wp2_with fail
      exact ⟨⟨i + 1, by go_num, by omega, KQ.out⟩, by simp [intOf]; omega⟩
    · have g1 : ¬ (i : Int) < (n : Int) := by omega
      go_wp2_with fail
      go_ret
      exact ⟨rfl, K.out⟩
end Go.Proofs.Ytaeiajodbpgbbaa
