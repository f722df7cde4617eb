/- Walks over package ordkey's and the document's numbers. -/
import Derived.Test.YtmolmamfmboeoaaDoorChecked
import Derived.Test.YtmolmamfmboeoaaDoorSl
import Derived.Test.YtmolmamfmboeoaaDoorNum
namespace Go.Proofs.YtmolmamfmboeoaaDoor
open Go.RowKit

theorem wid_step (m : Nat) (h : m < 18446744073709551616) (h0 : 0 < m) : wid m = wid (m / 256) + 1 := wid_pos h (by omega)

set_option maxHeartbeats 400000 in
theorem ord_width (n : Nat) (w : World) (h : n < 18446744073709551616) :
    Calls Tryd.prog 57 #[.int .u64 n] w fun e w' => e = .returned (.int .i64 (wid n)) ∧ w = w' := by
  have H := Lib.hid h; clear h
  go_enter Tryd.func57, Tryd.ntmps57
  go_wp2
  go_loop [0, 3] (fun v i => ∃ m j : Nat, v = .int .u64 m ∧ i = .int .i64 j ∧ Hid (m < 18446744073709551616 ∧ j + wid m = wid n)) (fun v _ => (intOf v).toNat)
  case atStart => exact ⟨n, 0, rfl, rfl, by show _ ∧ _; exact ⟨H.out, by omega⟩⟩
  case round =>
    obtain ⟨m, j, rfl, rfl, hm⟩ := hrel
    have hj : j ≤ 8 := by have := hm.out.2; have := wid_le n; omega
    by_cases h0 : 0 < m
    · go_wp2
      go_round
      case rel => exact ⟨m / 256, j + 1, by go_num, by go_num, by have h1 := hm.out.1; have h2 := hm.out.2; rw [wid_step m h1 h0] at h2; show _ ∧ _; omega⟩
      case measure => simp [intOf]; omega
    · have hm0 : m = 0 := by omega
      subst hm0
      go_wp2
      go_ret
      exact ⟨by have := hm.out.2; rw [wid_zero] at this; simp at this; rw [this]; rfl, rfl⟩

theorem info8 : (Tryd.prog.info? 5).map (fun i => (i.zero, i.size, i.bytes)) = some (some (.int .u8 0), 1, 1) := by kernel_rfl

/-- The buffer of lay behind i rounds. -/
def layBuf (n k i : Nat) : List Nat := List.replicate (k - i) 0 ++ be i n
theorem layBuf_length (n k i : Nat) (h : i ≤ k) : (layBuf n k i).length = k := by simp [layBuf, be_length]; omega
theorem layBuf_set (n k i : Nat) (h : i < k) : (layBuf n k i).set (k - 1 - i) (n / 256 ^ i % 256) = layBuf n k (i + 1) := by
  unfold layBuf
  obtain ⟨m, rfl⟩ : ∃ m, k = m + i + 1 := ⟨k - i - 1, by omega⟩
  rw [show m + i + 1 - i = m + 1 from by omega, show m + i + 1 - 1 - i = m from by omega, show m + i + 1 - (i + 1) = m from by omega, be_head]
  rw [List.replicate_succ', List.append_assoc, List.set_append_right _ _ (by simp)]
  simp
theorem layBuf_at (n k i : Nat) (h : i < k) : (layBuf n k i)[k - 1 - i]? = some 0 := by
  unfold layBuf
  rw [List.getElem?_append_left (by simp; omega), List.getElem?_replicate, if_pos (by omega)]

set_option maxHeartbeats 800000 in
theorem ord_lay (n k : Nat) (w : World) (h : n < 18446744073709551616) (hk : k ≤ 8) :
    Calls Tryd.prog 58 #[.int .u64 n, .int .i64 k] w fun e w' => ∃ g, e = .returned (.slice (some ⟨g, 0, none⟩) k k) ∧ OwnN w' w.heap.size 5 .u8 (.slice (some ⟨g, 0, none⟩) k k) (be k n) ∧ Same w w' := by
  have H := Lib.hid h; clear h
  obtain ⟨i0, hi, hz0, hz1, hz2⟩ := info_parts info8
  have HI := Lib.hid hi; have HZ0 := Lib.hid hz0; have HZ1 := Lib.hid hz1; have HZ2 := Lib.hid hz2
  clear hi hz0 hz1 hz2
  go_enter Tryd.func58, Tryd.ntmps58
  go_wp2_with (at_make; refine wpList_make_full _ rfl _ _ 52 rfl w.heap.size 5 i0 (.int .u8 0) 1 Tryd.underlying52 HI.out HZ0.out HZ1.out .i64 .i64 _ _ k rfl rfl rfl rfl (by rw [HZ2.out]; omega) (by unfold maxLen; omega) (Nat.le_refl _) ?_; intro w1 hown hgrow; have HO := Lib.hid (OwnN.made hown); have HK := Lib.hid ((Kept.refl (fun _ => False) w).grownNew hgrow (by simp)); clear hown hgrow)
  go_loopw [10] (fun c wr => ∃ i : Nat, i ≤ k ∧ c = .int .i64 i ∧ Hid (OwnN wr w.heap.size 5 .u8 (.slice (some ⟨w.heap.size, 0, none⟩) k k) (layBuf n k i)) ∧ Hid (Same w wr)) (fun c _ => k - (intOf c).toNat)
  case atStart => exact ⟨0, Nat.zero_le _, rfl, by show OwnN _ _ _ _ _ _; rw [show layBuf n k 0 = List.replicate k 0 from by simp [layBuf, be]]; exact HO.out, HK⟩
  case round =>
    obtain ⟨i, hi, rfl, ho, hs⟩ := hrel
    by_cases hlt : i < k
    · have c0 : wr.cell? ⟨w.heap.size, k - 1 - i, none⟩ = some (.int .u8 ((0 : Nat) : Int)) := ho.out.cell (layBuf_length n k i hi) (layBuf_at n k i hlt)
      have f0 := ho.out.free (layBuf_length n k i hi) (k - 1 - i)
      go_wp2
      go_roundw
      case rel =>
        have e : (n : Int) / 2 ^ (8 * i) % 256 = ((n / 256 ^ i % 256 : Nat) : Int) := by rw [Int.pow_mul]; simp
        refine ⟨i + 1, by omega, by go_num, ?_, ?_⟩
        · show OwnN _ _ _ _ _ _
          rw [e]
          have := ho.out.set (layBuf_length n k i hi) (k - 1 - i) (n / 256 ^ i % 256)
          rw [layBuf_set n k i hlt] at this
          exact this
        · show Same _ _
          exact hs.out.setNew (Nat.le_refl _) _
      case measure => simp [intOf]; omega
    · have e : i = k := by omega
      subst e
      go_wp2
      go_ret
      exact ⟨_, rfl, by have := ho.out; rw [show layBuf n i i = be i n from by simp [layBuf]] at this; exact this, hs.out⟩

set_option maxHeartbeats 800000 in
theorem ord_putSmall (n : Nat) (w : World) (h : n < 18446744073709551616) :
    Calls Tryd.prog 48 #[.int .u64 n] w fun e w' => ∃ v, e = .returned v ∧ OwnN w' w.heap.size 5 .u8 v (putSmall n) ∧ Same w w' := by
  have H := Lib.hid h; clear h
  have hw := wid_le n
  go_enter Tryd.func48, Tryd.ntmps48
  go_wp2_with (go_at_call 57; refine (ord_width n _ H.out).mono ?_; rintro e w1 ⟨rfl, rfl⟩)
  refine (ord_lay n (wid n) _ H.out hw).mono ?_
  rintro e w1 ⟨g, rfl, ho, hs⟩
  have B0 : Blk w1 w.heap.size #[.int .u8 ((wid n : Nat) : Int)] 5 := (Blk.new w _ _).kept hs (fun h => h)
  have HB : Hid (OwnN w1 w.heap.size 5 .u8 (.slice (some ⟨w.heap.size, 0, none⟩) 1 1) [wid n]) := OwnN.blk (xs := [wid n]) B0 rfl (Nat.le_refl _) (by simp [maxLen])
  have HS := Lib.hid (((Kept.refl (fun _ => False) w).alloc _).trans hs)
  obtain ⟨a, cap, e, hc1, hc2, hc3, hat, _⟩ := ho.read
  simp only [be_length, Value.slice.injEq, true_and] at e
  obtain ⟨rfl, rfl⟩ := e
  have HA := Lib.hid hat
  have hle := hs.size
  simp at hle
  have HL := Lib.hid (be_length (wid n) n)
  clear ho hs hat hc1 hc2 hc3 B0
  go_wp2_with (at_builtin; refine wpList_appendN rfl _ _ 52 rfl w.heap.size 5 .u8 1 Tryd.underlying52 info8 (Nat.le_refl _) _ [wid n] rfl HB.out _ _ _ (be (wid n) n) rfl HL.out.symm HA.out (by simp) (by rw [HL.out]; simp; omega) (by omega) ?_; intro v' w2 ho2 hg2 _; have HO2 := Lib.hid ho2; have HS2 := Lib.hid (HS.out.grownNew hg2 (fun k hk => (World.ownsRow.lt HB.out k hk).1)); clear ho2 hg2)
  go_ret
  exact ⟨_, rfl, HO2.out, HS2.out⟩

/-- The bytes of a slice that is read are bytes. -/
def Bytes (xs : List Nat) : Prop := ∀ x ∈ xs, x < 256

theorem low_take_succ (xs : List Nat) (i x : Nat) (h : xs[i]? = some x) : low (xs.take (i + 1)) = 256 * low (xs.take i) + x := by
  rw [List.take_add_one, h, Option.toList_some, low_snoc]

theorem or_byte (m x : Nat) (hm : m < 72057594037927936) (hx : x < 256) : bits .or .u64 ((m : Int) * 256) (x : Int) = ((256 * m + x : Nat) : Int) := by
  rw [show (m : Int) * 256 = ((256 * m : Nat) : Int) from by omega]
  rw [u64_or_nat (256 * m) x (by omega) (by omega), nat_join 8 (256 * m) x (by omega) (by omega)]

set_option maxHeartbeats 800000 in
theorem ord_number (a : Option Addr) (cap : Nat) (xs : List Nat) (w : World) (hl : xs.length ≤ 8) (hb : Bytes xs) (ha : NatsAt w .u8 a xs) :
    Calls Tryd.prog 65 #[.slice a xs.length cap] w fun e w' => e = .returned (.int .u64 (low xs)) ∧ w = w' := by
  have HB := Lib.hid hb; have HA := Lib.hid ha; clear hb ha
  go_enter Tryd.func65, Tryd.ntmps65
  go_wp2
  go_loop [3, 8] (fun n i => ∃ j : Nat, j ≤ xs.length ∧ i = .int .i64 j ∧ n = .int .u64 (low (xs.take j))) (fun _ i => xs.length - (intOf i).toNat)
  case atStart => exact ⟨0, Nat.zero_le _, rfl, rfl⟩
  case round =>
    obtain ⟨j, hj, rfl, rfl⟩ := hrel
    by_cases hlt : j < xs.length
    · obtain ⟨b, off, x, rfl, _, hx, hc⟩ := HA.out.at hlt
      have hxb : x < 256 := HB.out x (List.mem_of_getElem? hx)
      have HS : Hid (low (xs.take (j + 1)) = 256 * low (xs.take j) + x) := low_take_succ xs j x hx
      have hm : low (xs.take j) < 72057594037927936 := by
        have h1 := low_lt (xs.take j) (fun y hy => HB.out y (List.mem_of_mem_take hy))
        have h2 : (xs.take j).length ≤ 7 := by simp; omega
        exact Nat.lt_of_lt_of_le h1 (Nat.le_trans (Nat.pow_le_pow_right (by decide) h2) (by decide))
      generalize hm' : low (xs.take j) = m at *
      have HM := Lib.hid hm'; have HX := Lib.hid hx; clear hm' hx
      go_wp2
      go_round
      case rel => exact ⟨j + 1, by omega, by go_num, by rw [HS.out, or_byte m x hm hxb]⟩
      case measure => simp [intOf]; omega
    · have e : j = xs.length := by omega
      subst e
      go_wp2
      go_ret
      exact ⟨rfl, rfl⟩

end Go.Proofs.YtmolmamfmboeoaaDoor
