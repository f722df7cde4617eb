/- Walks over the document's maps (fascicleref05): words, bit, Check, New. -/
import Derived.Test.YtmolmamfmboeoaaDoorBm1
namespace Go.Proofs.YtmolmamfmboeoaaDoor
open Go.RowKit

theorem rb_words (s : Nat) (w : World) (h : s ≤ 4096) :
    Calls Tryd.prog 40 #[.int .i64 (s : Nat)] w fun e w' => e = .returned (.int .i64 (((s + 63) / 64 : Nat) : Int)) ∧ w = w' := by
  go_enter Tryd.func40, Tryd.ntmps40
  go_wp2
  go_loop [3] (fun i => ∃ n : Nat, n ≤ (s + 63) / 64 ∧ i = .int .i64 n) (fun i => 65 - (intOf i).toNat)
  case atStart => exact ⟨0, Nat.zero_le _, rfl⟩
  case round =>
    obtain ⟨n, hn, rfl⟩ := hrel
    by_cases hlt : 64 * n < s
    · have : (64 : Int) * n < s := by omega
      go_wp2
      go_round
      case rel => exact ⟨n + 1, by omega, by go_num⟩
      case measure => simp [intOf]; omega
    · have : ¬ (64 : Int) * n < s := by omega
      go_wp2
      go_ret
      exact ⟨ret_int (by omega), rfl⟩

set_option maxHeartbeats 800000 in
theorem rb_bit (s : Int) (a : Option Addr) (cap : Nat) (ws : List Nat) (i : Nat) (w : World) (hat : NatsAt w .u64 a ws) (hi : i / 64 < ws.length) (hl : ws.length ≤ 64) :
    Calls Tryd.prog 38 #[mapV s a ws.length cap, .int .i64 (i : Nat)] w fun e w' => e = .returned (.bool (bitN ws i)) ∧ Same w w' := by
  obtain ⟨b, off, x, rfl, hb, hx, hc⟩ := hat.at hi
  have hx' : ws.getD (i / 64) 0 = x := by rw [List.getD, hx]; rfl
  have HE : Hid (bitN ws i = (((x : Int) / 2 ^ (i % 64)).tmod 2 == 1)) := by
    show _ = _
    unfold bitN
    have e : (x : Int) / 2 ^ (i % 64) = ((x / 2 ^ (i % 64) : Nat) : Int) := by simp
    rw [hx', Bool.eq_iff_iff, ← testBit_div, beq_iff_eq, e, Int.tmod_eq_emod_of_nonneg (Int.natCast_nonneg _)]
    generalize x / 2 ^ (i % 64) = y
    omega
  clear hx hx' hat
  generalize ws.length = n at *
  go_enter Tryd.func38, Tryd.ntmps38
  go_wp2
  go_ret
  exact ⟨by rw [HE.out]; rfl, (Kept.refl _ w).alloc _⟩

/-- The size is none, or too great. -/
theorem rb_check_size (s : Int) (a : Option Addr) (n cap : Nat) (w : World) (h : s < 0 ∨ 4096 < s) :
    Calls Tryd.prog 17 #[mapV s a n cap] w fun e w' => e = .returned (.int .i64 4) ∧ Same w w' := by
  rcases h with h | h
  · go_enter Tryd.func17, Tryd.ntmps17
    go_wp2_with fail
    go_quiet (fail)
    go_wp2
    go_ret
    exact ⟨rfl, by repeat (first | exact Kept.refl _ _ | refine Kept.drewN ?_ _ | refine Kept.alloc ?_ _)⟩
  · have h0 : decide (s < 0) = false := by simp; omega
    go_enter Tryd.func17, Tryd.ntmps17
    go_wp2_with fail
    go_quiet (fail)
    go_wp2
    go_ret
    exact ⟨rfl, by repeat (first | exact Kept.refl _ _ | refine Kept.drewN ?_ _ | refine Kept.alloc ?_ _)⟩

theorem rb_check_len (s : Nat) (a : Option Addr) (n cap : Nat) (w : World) (h : s ≤ 4096) (hn : ¬ n = (s + 63) / 64) :
    Calls Tryd.prog 17 #[mapV s a n cap] w fun e w' => e = .returned (.int .i64 4) ∧ Same w w' := by
  have h0 : decide ((s : Int) < 0) = false := decide_eq_false (by omega)
  have h1 : decide ((4096 : Int) < (s : Int)) = false := decide_eq_false (by omega)
  have h2 : (((n : Nat) : Int) != (((s + 63) / 64 : Nat) : Int)) = true := by rw [bne_iff_ne]; omega
  go_enter Tryd.func17, Tryd.ntmps17
  go_wp2_with fail
  go_quiet ((go_at_call 40; exact Calls.quiet_of_same ((rb_words s _ h).mono fun _ _ h => ⟨h.1, h.2.symm⟩)))
  go_wp2
  go_ret
  exact ⟨rfl, by repeat (first | exact Kept.refl _ _ | refine Kept.drewN ?_ _ | refine Kept.alloc ?_ _)⟩

set_option maxHeartbeats 800000 in
theorem rb_check_bits (s : Nat) (a : Option Addr) (cap : Nat) (ws : List Nat) (w : World) (h : s ≤ 4096) (hat : NatsAt w .u64 a ws) (hl : ws.length = (s + 63) / 64) :
    Calls Tryd.prog 17 #[mapV s a ws.length cap] w fun e w' => ∃ r : Int, e = .returned (.int .i64 r) ∧ (r = 0 ∧ (∀ n, s ≤ n → n < 64 * ws.length → bitN ws n = false) ∨ r = 4 ∧ ∃ n, s ≤ n ∧ n < 64 * ws.length ∧ bitN ws n = true) ∧ Same w w' := by
  have h0 : decide ((s : Int) < 0) = false := decide_eq_false (by omega)
  have h1 : decide ((4096 : Int) < (s : Int)) = false := decide_eq_false (by omega)
  have hn2 : ws.length ≤ 64 := by omega
  have hn3 : s ≤ 64 * ws.length := by omega
  have HA := Lib.hid hat; clear hat
  have BIT := Lib.hid fun i w' (h : Same w w') (hi : i / 64 < ws.length) => rb_bit s a cap ws i w' (HA.out.same h) hi hn2
  generalize hn : ws.length = n at *
  have W := Lib.hid fun w => (rb_words s w h).mono (R' := fun e w' => e = .returned (.int .i64 (n : Nat)) ∧ w' = w) fun _ _ h => by rw [← hl] at h; exact ⟨h.1, h.2.symm⟩
  have h2 : (((n : Nat) : Int) != ((n : Nat) : Int)) = false := by simp
  clear hn hl
  go_enter Tryd.func17, Tryd.ntmps17
  go_wp2_with fail
  go_quiet ((go_at_call 40; exact Calls.quiet_of_same (W.out _)))
  go_wp2_with fail
  go_loopw [3] (fun v wr => ∃ k : Nat, s ≤ k ∧ k ≤ 64 * n ∧ v = .int .i64 k ∧ Hid (∀ j, s ≤ j → j < k → bitN ws j = false) ∧ Hid (Blk wr w.heap.size #[.int .i64 (s : Nat), .slice a n cap] 24) ∧ Hid (Same w wr)) (fun v _ => 64 * n - (intOf v).toNat)
  case atStart => exact ⟨s, Nat.le_refl _, hn3, rfl, by intro j h1 h2; omega, Blk.new w _ _, ((Kept.refl _ w).alloc _).drewN _⟩
  case round =>
    obtain ⟨k, hk1, hk2, rfl, hz, hB, hs⟩ := hrel
    have q0 : wr.cell? ⟨w.heap.size, 0, none⟩ = some (.int .i64 (s : Nat)) := hB.out.cell 0 rfl
    have q1 : wr.cell? ⟨w.heap.size, 1, none⟩ = some (.slice a n cap) := hB.out.cell 1 rfl
    by_cases hlt : k < 64 * n
    · have hlt' : (k : Int) < 64 * (n : Int) := by omega
      have C := Lib.hid (BIT.out k wr hs.out (by omega))
      cases hb : bitN ws k
      · have CC := Lib.hid (C.out.mono (R' := fun e w' => e = .returned (.bool false) ∧ Same wr w') fun _ _ h => by rw [hb] at h; exact h)
        have HB := Lib.hid hb; clear hb
        go_wp2_with (go_at_call 38; refine CC.out.mono ?_; rintro e w2 ⟨rfl, hk⟩; have K2 := Lib.hid hk; clear hk)
        go_roundw
        case rel => exact ⟨k + 1, by omega, by omega, by go_num, by show ∀ j, s ≤ j → j < k + 1 → bitN ws j = false; intro j h1 h2; exact if h : j < k then hz.out j h1 h else by rw [show j = k from by omega]; exact HB.out, hB.out.kept K2.out (fun h => h), hs.out.trans K2.out⟩
        case measure => simp [intOf]; omega
      · have CC := Lib.hid (C.out.mono (R' := fun e w' => e = .returned (.bool true) ∧ Same wr w') fun _ _ h => by rw [hb] at h; exact h)
        have HB := Lib.hid hb; clear hb
        go_wp2_with (go_at_call 38; refine CC.out.mono ?_; rintro e w2 ⟨rfl, hk⟩; have K2 := Lib.hid hk; clear hk)
        go_ret
        exact ⟨4, rfl, .inr ⟨rfl, k, hk1, hlt, HB.out⟩, hs.out.trans K2.out⟩
    · have e : k = 64 * n := by omega
      subst e
      go_wp2
      go_ret
      exact ⟨0, rfl, .inl ⟨rfl, hz.out⟩, hs.out⟩

/-- The document's Check tells the same. -/
theorem rb_check (s : Int) (a : Option Addr) (cap : Nat) (ws : List Nat) (w : World) (hw : Words ws) (hat : NatsAt w .u64 a ws) :
    Calls Tryd.prog 17 #[mapV s a ws.length cap] w fun e w' => e = .returned (.int .i64 (if mapOK s ws then 0 else 4)) ∧ Same w w' := by
  by_cases h1 : 0 ≤ s
  · by_cases h2 : s ≤ 4096
    · obtain ⟨S, rfl⟩ := Int.eq_ofNat_of_zero_le h1
      by_cases h3 : ws.length = (S + 63) / 64
      · refine (rb_check_bits S a cap ws w (by omega) hat h3).mono ?_
        rintro e w' ⟨r, rfl, ⟨rfl, hz⟩ | ⟨rfl, n, hn1, hn2, hb⟩, hs⟩
        · rw [(mapOK_iff hw).2 ⟨by omega, h3, hz⟩]; exact ⟨rfl, hs⟩
        · have : mapOK (S : Int) ws = false := by
            rw [Bool.eq_false_iff]
            intro h
            have := ((mapOK_iff hw).1 h).2.2 n hn1 hn2
            rw [this] at hb; cases hb
          rw [this]; exact ⟨rfl, hs⟩
      · have : mapOK (S : Int) ws = false := by simp [mapOK, h3]
        rw [this]
        exact rb_check_len S a ws.length cap w (by omega) h3
    · rw [mapOK_neg (by omega)]
      exact rb_check_size s a ws.length cap w (.inr (by omega))
  · rw [mapOK_neg (by omega)]
    exact rb_check_size s a ws.length cap w (.inl (by omega))

end Go.Proofs.YtmolmamfmboeoaaDoor
