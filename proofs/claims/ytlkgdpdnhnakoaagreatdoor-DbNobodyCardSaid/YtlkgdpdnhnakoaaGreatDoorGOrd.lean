/- GOrd: Ord1, Ord2, Ord3. -/
import Derived.Test.YtlkgdpdnhnakoaaGreatDoorChecked
import Derived.Test.YtlkgdpdnhnakoaaGreatDoorSl
import Derived.Test.YtlkgdpdnhnakoaaGreatDoorNum
namespace Go.Proofs.YtlkgdpdnhnakoaaGreatDoor
open Go.RowKit

theorem wid_step (m : Nat) (h : m < 18446744073709551616) (h0 : 0 < m) : wid m = wid (m / 256) + 1 := wid_pos h (by omega)

set_option maxRecDepth 100000 in
set_option maxHeartbeats 400000 in
theorem ord_width (n : Nat) (w : World) (h : n < 18446744073709551616) :
    Calls Tryz.prog 264 #[.int .u64 n] w fun e w' => e = .returned (.int .i64 (wid n)) ∧ w = w' := by
  have H := Lib.hid h; clear h
  go_enter Tryz.func264, Tryz.ntmps264
  go_wp2
  go_loop [0, 3] (fun v i => ∃ m j : Nat, v = .int .u64 m ∧ i = .int .i64 j ∧ Hid (m < 18446744073709551616 ∧ j + wid m = wid n)) (fun v _ => (intOf v).toNat)
  case atStart => exact ⟨n, 0, rfl, rfl, by show _ ∧ _; exact ⟨H.out, by omega⟩⟩
  case round =>
    obtain ⟨m, j, rfl, rfl, hm⟩ := hrel
    have hj : j ≤ 8 := by have := hm.out.2; have := wid_le n; omega
    by_cases h0 : 0 < m
    · go_wp2
      go_round
      case rel => exact ⟨m / 256, j + 1, by go_num, by go_num, by have h1 := hm.out.1; have h2 := hm.out.2; rw [wid_step m h1 h0] at h2; show _ ∧ _; omega⟩
      case measure => simp [intOf]; omega
    · have hm0 : m = 0 := by omega
      subst hm0
      go_wp2
      go_ret
      exact ⟨by have := hm.out.2; rw [wid_zero] at this; simp at this; rw [this]; rfl, rfl⟩

theorem info8 : (Tryz.prog.info? 5).map (fun i => (i.zero, i.size, i.bytes)) = some (some (.int .u8 0), 1, 1) := by kernel_rfl

/-- The buffer of lay behind i rounds. -/
def layBuf (n k i : Nat) : List Nat := List.replicate (k - i) 0 ++ be i n
theorem layBuf_length (n k i : Nat) (h : i ≤ k) : (layBuf n k i).length = k := by simp [layBuf, be_length]; omega
theorem layBuf_set (n k i : Nat) (h : i < k) : (layBuf n k i).set (k - 1 - i) (n / 256 ^ i % 256) = layBuf n k (i + 1) := by
  unfold layBuf
  obtain ⟨m, rfl⟩ : ∃ m, k = m + i + 1 := ⟨k - i - 1, by omega⟩
  rw [show m + i + 1 - i = m + 1 from by omega, show m + i + 1 - 1 - i = m from by omega, show m + i + 1 - (i + 1) = m from by omega, be_head]
  rw [List.replicate_succ', List.append_assoc, List.set_append_right _ _ (by simp)]
  simp
theorem layBuf_at (n k i : Nat) (h : i < k) : (layBuf n k i)[k - 1 - i]? = some 0 := by
  unfold layBuf
  rw [List.getElem?_append_left (by simp; omega), List.getElem?_replicate, if_pos (by omega)]

set_option maxRecDepth 100000 in
set_option maxHeartbeats 800000 in
theorem ord_lay (n k : Nat) (w : World) (h : n < 18446744073709551616) (hk : k ≤ 8) :
    Calls Tryz.prog 265 #[.int .u64 n, .int .i64 k] w fun e w' => ∃ g, e = .returned (.slice (some ⟨g, 0, none⟩) k k) ∧ OwnN w' w.heap.size 5 .u8 (.slice (some ⟨g, 0, none⟩) k k) (be k n) ∧ Same w w' := by
  have H := Lib.hid h; clear h
  obtain ⟨i0, hi, hz0, hz1, hz2⟩ := info_parts info8
  have HI := Lib.hid hi; have HZ0 := Lib.hid hz0; have HZ1 := Lib.hid hz1; have HZ2 := Lib.hid hz2
  clear hi hz0 hz1 hz2
  go_enter Tryz.func265, Tryz.ntmps265
  go_wp2_with (at_make; refine wpList_make_full _ rfl _ _ 56 rfl w.heap.size 5 i0 (.int .u8 0) 1 Tryz.underlying56 HI.out HZ0.out HZ1.out .i64 .i64 _ _ k rfl rfl rfl rfl (by rw [HZ2.out]; omega) (by unfold maxLen; omega) (Nat.le_refl _) ?_; intro w1 hown hgrow; have HO := Lib.hid (OwnN.made hown); have HK := Lib.hid ((Kept.refl (fun _ => False) w).grownNew hgrow (by simp)); clear hown hgrow)
  go_loopw [10] (fun c wr => ∃ i : Nat, i ≤ k ∧ c = .int .i64 i ∧ Hid (OwnN wr w.heap.size 5 .u8 (.slice (some ⟨w.heap.size, 0, none⟩) k k) (layBuf n k i)) ∧ Hid (Same w wr)) (fun c _ => k - (intOf c).toNat)
  case atStart => exact ⟨0, Nat.zero_le _, rfl, by show OwnN _ _ _ _ _ _; rw [show layBuf n k 0 = List.replicate k 0 from by simp [layBuf, be]]; exact HO.out, HK⟩
  case round =>
    obtain ⟨i, hi, rfl, ho, hs⟩ := hrel
    by_cases hlt : i < k
    · have c0 : wr.cell? ⟨w.heap.size, k - 1 - i, none⟩ = some (.int .u8 ((0 : Nat) : Int)) := ho.out.cell (layBuf_length n k i hi) (layBuf_at n k i hlt)
      have f0 := ho.out.free (layBuf_length n k i hi) (k - 1 - i)
      go_wp2
      go_roundw
      case rel =>
        have e : (n : Int) / 2 ^ (8 * i) % 256 = ((n / 256 ^ i % 256 : Nat) : Int) := by rw [Int.pow_mul]; simp
        refine ⟨i + 1, by omega, by go_num, ?_, ?_⟩
        · show OwnN _ _ _ _ _ _
          rw [e]
          have := ho.out.set (layBuf_length n k i hi) (k - 1 - i) (n / 256 ^ i % 256)
          rw [layBuf_set n k i hlt] at this
          exact this
        · show Same _ _
          exact hs.out.setNew (Nat.le_refl _) _
      case measure => simp [intOf]; omega
    · have e : i = k := by omega
      subst e
      go_wp2
      go_ret
      exact ⟨_, rfl, by have := ho.out; rw [show layBuf n i i = be i n from by simp [layBuf]] at this; exact this, hs.out⟩

set_option maxRecDepth 100000 in
set_option maxHeartbeats 800000 in
theorem ord_putSmall (n : Nat) (w : World) (h : n < 18446744073709551616) :
    Calls Tryz.prog 184 #[.int .u64 n] w fun e w' => ∃ v, e = .returned v ∧ OwnN w' w.heap.size 5 .u8 v (putSmall n) ∧ Same w w' := by
  have H := Lib.hid h; clear h
  have hw := wid_le n
  go_enter Tryz.func184, Tryz.ntmps184
  go_wp2_with (go_at_call 264; refine (ord_width n _ H.out).mono ?_; rintro e w1 ⟨rfl, rfl⟩)
  refine (ord_lay n (wid n) _ H.out hw).mono ?_
  rintro e w1 ⟨g, rfl, ho, hs⟩
  have B0 : Blk w1 w.heap.size #[.int .u8 ((wid n : Nat) : Int)] 5 := (Blk.new w _ _).kept hs (fun h => h)
  have HB : Hid (OwnN w1 w.heap.size 5 .u8 (.slice (some ⟨w.heap.size, 0, none⟩) 1 1) [wid n]) := OwnN.blk (xs := [wid n]) B0 rfl (Nat.le_refl _) (by simp [maxLen])
  have HS := Lib.hid (((Kept.refl (fun _ => False) w).alloc _).trans hs)
  obtain ⟨a, cap, e, hc1, hc2, hc3, hat, _⟩ := ho.read
  simp only [be_length, Value.slice.injEq, true_and] at e
  obtain ⟨rfl, rfl⟩ := e
  have HA := Lib.hid hat
  have hle := hs.size
  simp at hle
  have HL := Lib.hid (be_length (wid n) n)
  clear ho hs hat hc1 hc2 hc3 B0
  go_wp2_with (at_builtin; refine wpList_appendN rfl _ _ 56 rfl w.heap.size 5 .u8 1 Tryz.underlying56 info8 (Nat.le_refl _) _ [wid n] rfl HB.out _ _ _ (be (wid n) n) rfl HL.out.symm HA.out (by simp) (by rw [HL.out]; simp; omega) (by omega) ?_; intro v' w2 ho2 hg2 _; have HO2 := Lib.hid ho2; have HS2 := Lib.hid (HS.out.grownNew hg2 (fun k hk => (World.ownsRow.lt HB.out k hk).1)); clear ho2 hg2)
  go_ret
  exact ⟨_, rfl, HO2.out, HS2.out⟩

/-- The bytes of a slice that is read are bytes. -/
def Bytes (xs : List Nat) : Prop := ∀ x ∈ xs, x < 256

theorem low_take_succ (xs : List Nat) (i x : Nat) (h : xs[i]? = some x) : low (xs.take (i + 1)) = 256 * low (xs.take i) + x := by
  rw [List.take_add_one, h, Option.toList_some, low_snoc]

theorem or_byte (m x : Nat) (hm : m < 72057594037927936) (hx : x < 256) : bits .or .u64 ((m : Int) * 256) (x : Int) = ((256 * m + x : Nat) : Int) := by
  rw [show (m : Int) * 256 = ((256 * m : Nat) : Int) from by omega]
  rw [u64_or_nat (256 * m) x (by omega) (by omega), nat_join 8 (256 * m) x (by omega) (by omega)]

set_option maxRecDepth 100000 in
set_option maxHeartbeats 800000 in
theorem ord_number (a : Option Addr) (cap : Nat) (xs : List Nat) (w : World) (hl : xs.length ≤ 8) (hb : Bytes xs) (ha : NatsAt w .u8 a xs) :
    Calls Tryz.prog 270 #[.slice a xs.length cap] w fun e w' => e = .returned (.int .u64 (low xs)) ∧ w = w' := by
  have HB := Lib.hid hb; have HA := Lib.hid ha; clear hb ha
  go_enter Tryz.func270, Tryz.ntmps270
  go_wp2
  go_loop [3, 8] (fun n i => ∃ j : Nat, j ≤ xs.length ∧ i = .int .i64 j ∧ n = .int .u64 (low (xs.take j))) (fun _ i => xs.length - (intOf i).toNat)
  case atStart => exact ⟨0, Nat.zero_le _, rfl, rfl⟩
  case round =>
    obtain ⟨j, hj, rfl, rfl⟩ := hrel
    by_cases hlt : j < xs.length
    · obtain ⟨b, off, x, rfl, _, hx, hc⟩ := HA.out.at hlt
      have hxb : x < 256 := HB.out x (List.mem_of_getElem? hx)
      have HS : Hid (low (xs.take (j + 1)) = 256 * low (xs.take j) + x) := low_take_succ xs j x hx
      have hm : low (xs.take j) < 72057594037927936 := by
        have h1 := low_lt (xs.take j) (fun y hy => HB.out y (List.mem_of_mem_take hy))
        have h2 : (xs.take j).length ≤ 7 := by simp; omega
        exact Nat.lt_of_lt_of_le h1 (Nat.le_trans (Nat.pow_le_pow_right (by decide) h2) (by decide))
      generalize hm' : low (xs.take j) = m at *
      have HM := Lib.hid hm'; have HX := Lib.hid hx; clear hm' hx
      go_wp2
      go_round
      case rel => exact ⟨j + 1, by omega, by go_num, by rw [HS.out, or_byte m x hm hxb]⟩
      case measure => simp [intOf]; omega
    · have e : j = xs.length := by omega
      subst e
      go_wp2
      go_ret
      exact ⟨rfl, rfl⟩

end Go.Proofs.YtlkgdpdnhnakoaaGreatDoor

namespace Go.Proofs.YtlkgdpdnhnakoaaGreatDoor
open Go.RowKit

/-- What GetSmall hands back. -/
abbrev smallV (r : Nat × Nat × Nat) : Value := .tuple #[.int .u64 (r.1 : Nat), .int .i64 (r.2.1 : Nat), .int .i64 (r.2.2 : Nat)]

set_option maxRecDepth 100000 in
set_option maxHeartbeats 1000000 in
theorem ord_getSmall (a : Option Addr) (cap : Nat) (xs : List Nat) (w : World) (hb : Bytes xs) (ha : NatsAt w .u8 a xs) (hc : xs.length ≤ cap) (hm : cap ≤ 9223372036854775807) :
    Calls Tryz.prog 189 #[.slice a xs.length cap] w fun e w' => e = .returned (smallV (getSmall xs)) ∧ w = w' := by
  have HB := Lib.hid hb; have HA := Lib.hid ha; clear hb ha
  cases xs with
  | nil =>
    go_enter Tryz.func189, Tryz.ntmps189
    go_wp2
    go_ret3
    exact ⟨rfl, rfl⟩
  | cons k r =>
    obtain ⟨b, off, x, rfl, _, hx, c0⟩ := HA.out.at (i := 0) (by simp)
    simp only [List.getElem?_cons_zero, Option.some.injEq, Nat.add_zero] at hx c0
    subst hx
    have hk : k < 256 := HB.out k (by simp)
    have hr : Bytes r := fun y hy => HB.out y (by simp [hy])
    have HR := Lib.hid hr; clear hr
    have hat : NatsAt w .u8 (some ⟨b, off + 1, none⟩) r := HA.out.drop 1
    have HT := Lib.hid hat; clear hat
    simp only [List.length_cons] at hc ⊢
    generalize hlr : r.length = n at *
    have HL := Lib.hid hlr; clear hlr
    have hne : (((n + 1 : Nat) : Int) == 0) = false := by simp; omega
    by_cases h8 : 8 < k
    · have HE : Hid (getSmall (k :: r) = (0, 0, 4)) := by show _ = _; simp [getSmall, h8]
      go_enter Tryz.func189, Tryz.ntmps189
      go_wp2
      go_ret3
      exact ⟨by rw [HE.out]; rfl, rfl⟩
    · by_cases hn : n < k
      · have HE : Hid (getSmall (k :: r) = (0, 0, 3)) := by show _ = _; simp [getSmall, h8, HL.out, hn]
        go_enter Tryz.func189, Tryz.ntmps189
        go_wp2
        go_ret3
        exact ⟨by rw [HE.out]; rfl, rfl⟩
      · by_cases hk0 : k = 0
        · subst hk0
          have HE : Hid (getSmall (0 :: r) = (0, 1, 0)) := by show _ = _; simp [getSmall]; rfl
          by_cases h1 : cap = 1
          all_goals
            go_enter Tryz.func189, Tryz.ntmps189
            go_wp2_with (go_at_call 270; refine (ord_number _ _ ([] : List Nat) _ (by simp) (by intro x hx; cases hx) (.inl rfl)).mono ?_; rintro e w1 ⟨rfl, rfl⟩)
            go_ret3
            exact ⟨by rw [HE.out]; rfl, rfl⟩
        · obtain ⟨y, ry, hr⟩ : ∃ y ry, r = y :: ry := by cases r with | nil => exact absurd HL.out (by simp; omega) | cons y ry => exact ⟨y, ry, rfl⟩
          have HRR := Lib.hid hr; clear hr
          have c1 : w.cell? ⟨b, off + 1, none⟩ = some (.int .u8 (y : Nat)) := by
            obtain ⟨b', off', x', e, _, hx', hc'⟩ := HT.out.at (i := 0) (by rw [HRR.out]; simp)
            simp only [Option.some.injEq, Addr.mk.injEq, and_true] at e
            obtain ⟨rfl, rfl⟩ := e
            rw [HRR.out] at hx'
            simp at hx'
            subst hx'
            simpa using hc'
          by_cases hy : y = 0
          · subst hy
            have HE : Hid (getSmall (k :: r) = (0, 0, 4)) := by show _ = _; simp only [getSmall]; rw [if_neg h8, if_neg (by rw [HL.out]; exact hn), if_pos ⟨by omega, by rw [HRR.out]; rfl⟩]
            go_enter Tryz.func189, Tryz.ntmps189
            go_wp2
            go_ret3
            exact ⟨by rw [HE.out]; rfl, rfl⟩
          · have HE : Hid (getSmall (k :: r) = (low (r.take k), k + 1, 0)) := by show _ = _; simp only [getSmall]; rw [if_neg h8, if_neg (by rw [HL.out]; exact hn), if_neg (by rw [HRR.out]; simp; intro _; exact hy)]
            have hyy : (((y : Nat) : Int) == 0) = false := by simp [hy]
            have hlen : (r.take k).length = k := by rw [List.length_take, HL.out]; omega
            have hnum := ord_number (some ⟨b, off + 1, none⟩) (cap - 1) (r.take k) w (by omega) (fun y hy => HR.out y (List.mem_of_mem_take hy)) (HT.out.take k)
            rw [hlen] at hnum
            have HN := Lib.hid hnum; clear hnum hlen
            go_enter Tryz.func189, Tryz.ntmps189
            go_wp2_with (go_at_call 270; refine HN.out.mono ?_; rintro e w1 ⟨rfl, rfl⟩)
            go_ret3
            exact ⟨by rw [HE.out]; rfl, rfl⟩

/-- A reader of bytes: what is left of them, and the first error. -/
def Rdr (w : World) (g : Nat) (a : Option Addr) (cap : Nat) (xs : List Nat) (er : Nat) : Prop :=
  Blk w g #[.slice a xs.length cap, .int .i64 (er : Nat)] 315 ∧ NatsAt w .u8 a xs ∧ xs.length ≤ cap ∧ cap ≤ 9223372036854775807 ∧ (∀ x, a = some x → x.block ≠ g)

/-- Small, as the document says it: what is left, the error, the number. -/
def rdSmall (xs : List Nat) (er : Nat) : List Nat × Nat × Nat :=
  if er ≠ 0 then (xs, er, 0) else
  if (getSmall xs).2.2 ≠ 0 then (xs, (getSmall xs).2.2, 0) else
  if 1099511627776 < (getSmall xs).1 then (xs, 9, 0) else (xs.drop (getSmall xs).2.1, 0, (getSmall xs).1)

set_option maxRecDepth 100000 in
theorem ord_state (g : Nat) (er : Nat) (v : Value) (w : World) (hb : Blk w g #[v, .int .i64 (er : Nat)] 315) :
    Calls Tryz.prog 188 #[.pointer (some ⟨g, 0, none⟩)] w fun e w' => e = .returned (.int .i64 (er : Nat)) ∧ w = w' := by
  have c1 : w.cell? ⟨g, 1, none⟩ = some (.int .i64 (er : Nat)) := hb.cell 1 rfl
  clear hb
  go_enter Tryz.func188, Tryz.ntmps188
  go_wp2
  go_ret
  exact ⟨rfl, rfl⟩

set_option maxRecDepth 100000 in
theorem ord_left (g : Nat) (a : Option Addr) (n cap : Nat) (er : Value) (w : World) (hb : Blk w g #[.slice a n cap, er] 315) :
    Calls Tryz.prog 103 #[.pointer (some ⟨g, 0, none⟩)] w fun e w' => e = .returned (.int .i64 (n : Nat)) ∧ w = w' := by
  have c1 : w.cell? ⟨g, 0, none⟩ = some (.slice a n cap) := hb.cell 0 rfl
  clear hb
  go_enter Tryz.func103, Tryz.ntmps103
  go_wp2
  go_ret
  exact ⟨rfl, rfl⟩

theorem getSmall_ok (xs : List Nat) (h : (getSmall xs).2.2 = 0) : 1 ≤ (getSmall xs).2.1 ∧ (getSmall xs).2.1 ≤ xs.length ∧ (getSmall xs).2.1 ≤ 9 := by
  cases xs with
  | nil => simp [getSmall] at h
  | cons k r =>
    simp only [getSmall] at h ⊢
    split at h
    · simp at h
    · rename_i h8
      rw [if_neg h8]
      split at h
      · simp at h
      · rename_i hn
        rw [if_neg hn]
        split at h
        · simp at h
        · rename_i hz
          rw [if_neg hz]
          simp; omega

end Go.Proofs.YtlkgdpdnhnakoaaGreatDoor

namespace Go.Proofs.YtlkgdpdnhnakoaaGreatDoor
open Go.RowKit

set_option maxRecDepth 100000 in
set_option maxHeartbeats 1600000 in
theorem ord_small (g : Nat) (a : Option Addr) (cap : Nat) (xs : List Nat) (er : Nat) (w : World) (hr : Rdr w g a cap xs er) (hb : Bytes xs) :
    Calls Tryz.prog 101 #[.pointer (some ⟨g, 0, none⟩)] w fun e w' => e = .returned (.int .i64 ((rdSmall xs er).2.2 : Nat)) ∧
      (∃ a' cap', Rdr w' g a' cap' (rdSmall xs er).1 (rdSmall xs er).2.1 ∧ ∀ x, a' = some x → ∃ y, a = some y ∧ x.block = y.block) ∧ Kept (fun k => k = g) w w' := by
  obtain ⟨hB, hat, hc, hm, hne⟩ := hr
  have HB := Lib.hid hB; have HA := Lib.hid hat; have HN := Lib.hid hne
  have c0 : w.cell? ⟨g, 0, none⟩ = some (.slice a xs.length cap) := hB.cell 0 rfl
  have c1 : w.cell? ⟨g, 1, none⟩ = some (.int .i64 (er : Nat)) := hB.cell 1 rfl
  have f0 := hB.free 0
  have f1 := hB.free 1
  have S := Lib.hid (ord_state g er _ w hB)
  have G := Lib.hid (ord_getSmall a cap xs w hb hat hc hm)
  have HOK := Lib.hid (getSmall_ok xs)
  have hbs : Bytes xs := hb
  clear hB hat hne hb
  by_cases he : er = 0
  · subst he
    have HD : Hid (rdSmall xs 0 = if (getSmall xs).2.2 ≠ 0 then (xs, (getSmall xs).2.2, 0) else if 1099511627776 < (getSmall xs).1 then (xs, 9, 0) else (xs.drop (getSmall xs).2.1, 0, (getSmall xs).1)) := rfl
    have HU : (getSmall xs).2.2 = 0 → (getSmall xs).1 < 18446744073709551616 := fun _ => getSmall_lt xs hbs
    generalize getSmall xs = q at *
    obtain ⟨u, n, e2⟩ := q
    by_cases h2 : e2 = 0
    · subst h2
      obtain ⟨hn1, hn2, _⟩ := HOK.out rfl
      simp only at hn1 hn2
      by_cases hu : 1099511627776 < u
      · have HE : Hid (rdSmall xs 0 = (xs, 9, 0)) := by show _ = _; rw [HD.out]; simp [hu]
        clear HD HOK HU
        go_enter Tryz.func101, Tryz.ntmps101
        go_wp2_with (first | (go_at_call 188; refine S.out.mono ?_; rintro e w1 ⟨rfl, rfl⟩) | (go_at_call 189; refine G.out.mono ?_; rintro e w1 ⟨rfl, rfl⟩))
        go_ret
        rw [HE.out]
        exact ⟨rfl, ⟨a, cap, ⟨HB.out.set 1 _, HA.out.kept ((Kept.refl (fun k => k = g) w).setCell (p := ⟨g, 1, none⟩) (fun _ => rfl) _) (fun x hx => HN.out x hx), hc, hm, HN.out⟩, fun x hx => ⟨x, hx, rfl⟩⟩, (Kept.refl _ w).setG _ _⟩
      · have HE : Hid (rdSmall xs 0 = (xs.drop n, 0, u)) := by show _ = _; rw [HD.out]; simp [hu]
        have hlt : u < 18446744073709551616 := HU rfl
        obtain ⟨b, off, _, ha, _⟩ := HA.out.at (i := 0) (by omega)
        subst ha
        clear HD HOK HU
        rcases Nat.lt_or_ge n cap with hcap | hcap
        · go_enter Tryz.func101, Tryz.ntmps101
          go_wp2_with (first | (go_at_call 188; refine S.out.mono ?_; rintro e w1 ⟨rfl, rfl⟩) | (go_at_call 189; refine G.out.mono ?_; rintro e w1 ⟨rfl, rfl⟩))
          go_ret
          rw [HE.out]
          refine ⟨rfl, ⟨some ⟨b, off + n, none⟩, cap - n, ⟨by rw [List.length_drop]; exact HB.out.set 0 _, (HA.out.drop n).kept ((Kept.refl (fun k => k = g) w).setG 0 _) (fun x hx => by simp at hx; subst hx; exact HN.out ⟨b, off, none⟩ rfl), by rw [List.length_drop]; omega, by omega, fun x hx => by simp at hx; subst hx; exact HN.out ⟨b, off, none⟩ rfl⟩, fun x hx => ⟨_, rfl, by simp at hx; subst hx; rfl⟩⟩, (Kept.refl _ w).setG _ _⟩
        · obtain rfl : n = cap := by omega
          have hlen : xs.length = n := by omega
          have HLn := Lib.hid hlen; clear hlen
          go_enter Tryz.func101, Tryz.ntmps101
          go_wp2_with (first | (go_at_call 188; refine S.out.mono ?_; rintro e w1 ⟨rfl, rfl⟩) | (go_at_call 189; refine G.out.mono ?_; rintro e w1 ⟨rfl, rfl⟩))
          go_ret
          rw [HE.out]
          have hnil : xs.drop n = [] := List.drop_of_length_le (by rw [HLn.out]; omega)
          refine ⟨rfl, ⟨some ⟨b, off, none⟩, 0, ⟨by rw [List.length_drop, HLn.out, Nat.sub_self]; exact HB.out.set 0 _, by rw [hnil]; exact .inl rfl, by rw [hnil]; simp, by omega, fun x hx => by simp at hx; subst hx; exact HN.out ⟨b, off, none⟩ rfl⟩, fun x hx => ⟨_, rfl, by simp at hx; subst hx; rfl⟩⟩, (Kept.refl _ w).setG _ _⟩
    · have HE : Hid (rdSmall xs 0 = (xs, e2, 0)) := by show _ = _; rw [HD.out]; simp [h2]
      have hbe : (((e2 : Nat) : Int) == 0) = false := by simp [h2]
      have hbn : (((e2 : Nat) : Int) != 0) = true := by simp [h2]
      clear HD HOK HU
      go_enter Tryz.func101, Tryz.ntmps101
      go_wp2_with (first | (go_at_call 188; refine S.out.mono ?_; rintro e w1 ⟨rfl, rfl⟩) | (go_at_call 189; refine G.out.mono ?_; rintro e w1 ⟨rfl, rfl⟩))
      go_ret
      rw [HE.out]
      exact ⟨rfl, ⟨a, cap, ⟨HB.out.set 1 _, HA.out.kept ((Kept.refl (fun k => k = g) w).setCell (p := ⟨g, 1, none⟩) (fun _ => rfl) _) (fun x hx => HN.out x hx), hc, hm, HN.out⟩, fun x hx => ⟨x, hx, rfl⟩⟩, (Kept.refl _ w).setG _ _⟩
  · have HE : Hid (rdSmall xs er = (xs, er, 0)) := by show _ = _; simp [rdSmall, he]
    have hbn : (((er : Nat) : Int) != 0) = true := by simp [he]
    go_enter Tryz.func101, Tryz.ntmps101
    go_wp2_with (first | (go_at_call 188; refine S.out.mono ?_; rintro e w1 ⟨rfl, rfl⟩))
    go_ret
    rw [HE.out]
    exact ⟨rfl, ⟨a, cap, ⟨HB.out, HA.out, hc, hm, HN.out⟩, fun x hx => ⟨x, hx, rfl⟩⟩, Kept.refl _ _⟩

end Go.Proofs.YtlkgdpdnhnakoaaGreatDoor
