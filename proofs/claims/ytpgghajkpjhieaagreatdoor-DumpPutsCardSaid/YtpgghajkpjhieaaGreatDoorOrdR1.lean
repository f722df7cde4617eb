/- Walks over the document's numbers (fascicleref01). -/
import Derived.Test.YtpgghajkpjhieaaGreatDoorGOrd
namespace Go.Proofs.YtpgghajkpjhieaaGreatDoor
open Go.RowKit

theorem div_pow_succ (n i : Nat) : n / 256 ^ i / 256 = n / 256 ^ (i + 1) := by rw [Nat.div_div_eq_div_mul, Nat.pow_succ]

set_option maxHeartbeats 1000000 in
theorem rf_high (n k : Nat) (w : World) (h : n < 18446744073709551616) (hk : k ≤ 8) :
    Calls Tryz.prog 84 #[.int .u64 n, .int .i64 k] w fun e w' => ∃ v, e = .returned v ∧ OwnN w' w.heap.size 5 .u8 v (be k n) ∧ Same w w' := by
  have H := Lib.hid h; clear h
  go_enter Tryz.func84, Tryz.ntmps84
  go_wp2_with fail
  go_loopw [0, 5, 6] (fun m b c wr => ∃ (i : Nat) (q : Nat), i ≤ k ∧ c = .int .i64 i ∧ m = .int .u64 q ∧ Hid (q = n / 256 ^ i) ∧ Hid (OwnN wr w.heap.size 5 .u8 b (be i n)) ∧ Hid (Same w wr)) (fun _ _ c _ => k - (intOf c).toNat)
  case atStart => exact ⟨0, n, Nat.zero_le _, rfl, rfl, by show _ = _; simp, World.ownsRow_nil _ _ _ _, Kept.refl _ _⟩
  case round =>
    obtain ⟨i, q, hi, rfl, rfl, hq, ho, hs⟩ := hrel
    have hq64 : q < 18446744073709551616 := by rw [hq.out]; exact Nat.lt_of_le_of_lt (Nat.div_le_self _ _) H.out
    have HQ := Lib.hid hq64; clear hq64
    by_cases hlt : i < k
    · have hi8 : i < 8 := by omega
      obtain ⟨a, cap, rfl, hc1, hc2, hc3, hat, hbk⟩ := ho.out.read
      rw [be_length]
      have HC3 := Lib.hid hc3; have HBK := Lib.hid hbk
      clear hc3 hbk hc1 hc2
      have hat' : NatsAt (wr.alloc (.cells #[.int .u8 ((q % 256 : Nat) : Int)] 5)) .u8 a (be i n) := hat.same ((Kept.refl _ wr).alloc _)
      have HAT := Lib.hid hat'; clear hat hat'
      have hle := hs.out.size
      have hown : Hid (OwnN (wr.alloc (.cells #[.int .u8 ((q % 256 : Nat) : Int)] 5)) w.heap.size 5 .u8 (.slice (some ⟨wr.heap.size, 0, none⟩) 1 1) [q % 256]) := OwnN.blk (xs := [q % 256]) (Blk.new _ _ _) rfl hle (by simp [maxLen])
      go_wp2_with (at_builtin; refine wpList_appendN rfl _ _ 23 rfl w.heap.size 5 .u8 1 Tryz.underlying23 info8 (Nat.le_refl _) _ [q % 256] rfl hown.out _ _ _ (be i n) rfl (be_length i n).symm HAT.out HC3.out (by rw [be_length]; simp; omega) (by simp; omega) ?_; intro v' w2 ho2 hg2 _; have HO2 := Lib.hid ho2; have HS2 := Lib.hid ((hs.out.alloc _).grownNew hg2 (fun k hk => (World.ownsRow.lt hown.out k hk).1)); clear ho2 hg2)
      go_roundw
      case rel =>
        refine ⟨i + 1, q / 256, by omega, by go_num, ?_, ?_, ?_, HS2⟩
        · rw [u64_wrap _ (by omega) (by have := HQ.out; omega)]; simp
        · show _ = _; rw [hq.out, div_pow_succ]
        · show OwnN _ _ _ _ _ _
          rw [be_head, ← hq.out]
          exact HO2.out
      case measure => simp [intOf]; omega
    · have e : i = k := by omega
      subst e
      go_wp2
      go_ret
      exact ⟨_, rfl, ho.out, hs.out⟩

set_option maxHeartbeats 800000 in
theorem rf_putSmall (n : Nat) (w : World) (h : n < 18446744073709551616) :
    Calls Tryz.prog 49 #[.int .u64 n] w fun e w' => ∃ v, e = .returned v ∧ OwnN w' w.heap.size 5 .u8 v (putSmall n) ∧ Same w w' := by
  have H := Lib.hid h; clear h
  have hw := wid_le n
  go_enter Tryz.func49, Tryz.ntmps49
  go_wp2_with fail
  go_loop [3, 4] (fun i v => ∃ m j : Nat, v = .int .u64 m ∧ i = .int .i64 j ∧ Hid (m < 18446744073709551616 ∧ j + wid m = wid n)) (fun _ v => (intOf v).toNat)
  case atStart => exact ⟨n, 0, rfl, rfl, by show _ ∧ _; exact ⟨H.out, by omega⟩⟩
  case round =>
    obtain ⟨m, j, rfl, rfl, hm⟩ := hrel
    have hj : j ≤ 8 := by have := hm.out.2; omega
    by_cases h0 : 0 < m
    · go_wp2_with fail
      go_round
      case rel => exact ⟨m / 256, j + 1, by rw [u64_wrap _ (by omega) (by have := hm.out.1; omega)]; simp, by go_num, by have h1 := hm.out.1; have h2 := hm.out.2; rw [wid_step m h1 h0] at h2; show _ ∧ _; omega⟩
      case measure => rw [u64_wrap _ (by omega) (by have := hm.out.1; omega)]; simp [intOf]; omega
    · have hm0 : m = 0 := by omega
      subst hm0
      have hjw : j = wid n := by have := hm.out.2; rw [wid_zero] at this; omega
      subst hjw
      go_wp2_with fail
      refine (rf_high n (wid n) _ H.out hw).mono ?_
      rintro e w1 ⟨v, rfl, ho, hs⟩
      have B0 : Blk w1 w.heap.size #[.int .u8 ((wid n : Nat) : Int)] 5 := (Blk.new w _ _).kept hs (fun h => h)
      have HB : Hid (OwnN w1 w.heap.size 5 .u8 (.slice (some ⟨w.heap.size, 0, none⟩) 1 1) [wid n]) := OwnN.blk (xs := [wid n]) B0 rfl (Nat.le_refl _) (by simp [maxLen])
      have HS := Lib.hid (((Kept.refl (fun _ => False) w).alloc _).trans hs)
      obtain ⟨a, cap, rfl, hc1, hc2, hc3, hat, _⟩ := ho.read
      rw [be_length]
      have HC3 := Lib.hid hc3
      have HA := Lib.hid hat
      have hle := hs.size
      simp at hle
      clear ho hs hat hc1 hc2 hc3 B0
      go_wp2_with (at_builtin; refine wpList_appendN rfl _ _ 23 rfl w.heap.size 5 .u8 1 Tryz.underlying23 info8 (Nat.le_refl _) _ [wid n] rfl HB.out _ _ _ (be (wid n) n) rfl (be_length (wid n) n).symm HA.out HC3.out (by rw [be_length]; simp; omega) (by omega) ?_; intro v' w2 ho2 hg2 _; have HO2 := Lib.hid ho2; have HS2 := Lib.hid (HS.out.grownNew hg2 (fun k hk => (World.ownsRow.lt HB.out k hk).1)); clear ho2 hg2)
      go_ret
      exact ⟨_, rfl, HO2.out, HS2.out⟩

theorem low_lt7 (xs : List Nat) (j : Nat) (hb : Bytes xs) (hj : j < xs.length) (hl : xs.length ≤ 8) : low (xs.take j) < 72057594037927936 := by
  have h1 := low_lt (xs.take j) (fun y hy => hb y (List.mem_of_mem_take hy))
  have h2 : (xs.take j).length ≤ 7 := by simp; omega
  exact Nat.lt_of_lt_of_le h1 (Nat.le_trans (Nat.pow_le_pow_right (by decide) h2) (by decide))

set_option maxHeartbeats 800000 in
theorem rf_low (a : Option Addr) (cap : Nat) (xs : List Nat) (w : World) (hl : xs.length ≤ 8) (hb : Bytes xs) (ha : NatsAt w .u8 a xs) :
    Calls Tryz.prog 87 #[.slice a xs.length cap] w fun e w' => e = .returned (.int .u64 (low xs)) ∧ w = w' := by
  have HB := Lib.hid hb; have HA := Lib.hid ha; clear hb ha
  go_enter Tryz.func87, Tryz.ntmps87
  go_wp2
  go_loop [3, 4] (fun n i => ∃ j : Nat, j ≤ xs.length ∧ i = .int .i64 j ∧ n = .int .u64 (low (xs.take j))) (fun _ i => xs.length - (intOf i).toNat)
  case atStart => exact ⟨0, Nat.zero_le _, rfl, rfl⟩
  case round =>
    obtain ⟨j, hj, rfl, rfl⟩ := hrel
    by_cases hlt : j < xs.length
    · obtain ⟨b, off, x, rfl, _, hx, hc⟩ := HA.out.at hlt
      have hxb : x < 256 := HB.out x (List.mem_of_getElem? hx)
      have HS : Hid (low (xs.take (j + 1)) = 256 * low (xs.take j) + x) := low_take_succ xs j x hx
      have hm : low (xs.take j) < 72057594037927936 := low_lt7 xs j HB.out hlt hl
      generalize hm' : low (xs.take j) = m at *
      have HM := Lib.hid hm'; have HX := Lib.hid hx; clear hm' hx
      go_wp2
      go_round
      case rel => exact ⟨j + 1, by omega, by go_num, by rw [HS.out]; go_num⟩
      case measure => simp [intOf]; omega
    · have e : j = xs.length := by omega
      subst e
      go_wp2
      go_ret
      exact ⟨rfl, rfl⟩

end Go.Proofs.YtpgghajkpjhieaaGreatDoor
