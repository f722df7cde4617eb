/- GNo: Num, GOrd. -/
import Derived.WalkKit
import Derived.Test.YtlkgdpdnhnakoaaGreatDoorChecked
import Derived.Test.YtlkgdpdnhnakoaaGreatDoorGSl
namespace Go.Proofs.YtlkgdpdnhnakoaaGreatDoor
theorem snoc_ind {α : Type} {P : List α → Prop} (h0 : P []) (h1 : ∀ l a, P l → P (l ++ [a])) (l : List α) : P l := by
  have key : ∀ r : List α, P r.reverse := by
    intro r
    induction r with
    | nil => exact h0
    | cons a r ih => rw [List.reverse_cons]; exact h1 _ _ ih
  have := key l.reverse
  rwa [List.reverse_reverse] at this
/-- How many bytes a number below 256^f has. -/
def widF : Nat → Nat → Nat
  | 0, _ => 0
  | f + 1, n => if n = 0 then 0 else widF f (n / 256) + 1
def wid (n : Nat) : Nat := widF 8 n
theorem widF_le (f n : Nat) : widF f n ≤ f := by
  induction f generalizing n with
  | zero => simp [widF]
  | succ f ih => unfold widF; split; omega; have := ih (n / 256); omega
theorem widF_more (f n : Nat) (h : n < 256 ^ f) : widF (f + 1) n = widF f n := by
  induction f generalizing n with
  | zero => have : n = 0 := by simpa using h
            subst this; simp [widF]
  | succ f ih =>
    have h' : n / 256 < 256 ^ f := by rw [Nat.pow_succ] at h; omega
    conv => lhs; unfold widF
    conv => rhs; unfold widF
    split
    · rfl
    · rw [ih _ h']
theorem wid_zero : wid 0 = 0 := rfl
theorem wid_pos {n : Nat} (h : n < 18446744073709551616) (h0 : n ≠ 0) : wid n = wid (n / 256) + 1 := by
  show widF 8 n = widF 8 (n / 256) + 1
  rw [widF_more 7 (n / 256) (by simp; omega)]
  conv => lhs; unfold widF
  rw [if_neg h0]
theorem wid_le (n : Nat) : wid n ≤ 8 := widF_le 8 n
/-- The lowest k bytes of a number, the highest first. -/
def be : Nat → Nat → List Nat
  | 0, _ => []
  | k + 1, n => be k (n / 256) ++ [n % 256]
theorem be_length (k n : Nat) : (be k n).length = k := by
  induction k generalizing n with
  | zero => rfl
  | succ k ih => simp [be, ih]
theorem be_byte (k n : Nat) : ∀ x ∈ be k n, x < 256 := by
  induction k generalizing n with
  | zero => simp [be]
  | succ k ih =>
    intro x hx
    simp only [be, List.mem_append, List.mem_singleton] at hx
    rcases hx with h | rfl
    · exact ih _ x h
    · omega
/-- One byte more at the head. -/
theorem be_head (k n : Nat) : be (k + 1) n = (n / 256 ^ k % 256) :: be k n := by
  induction k generalizing n with
  | zero => simp [be]
  | succ k ih =>
    rw [show be (k + 1 + 1) n = be (k + 1) (n / 256) ++ [n % 256] from rfl, ih (n / 256)]
    rw [Nat.div_div_eq_div_mul, show 256 * 256 ^ k = 256 ^ (k + 1) from by rw [Nat.pow_succ, Nat.mul_comm]]
    rfl
/-- The number of bytes. -/
def low (l : List Nat) : Nat := l.foldl (fun n c => 256 * n + c) 0
theorem low_snoc (l : List Nat) (c : Nat) : low (l ++ [c]) = 256 * low l + c := by simp [low]
theorem low_lt (l : List Nat) (h : ∀ x ∈ l, x < 256) : low l < 256 ^ l.length := by
  revert h
  induction l using snoc_ind with
  | h0 => intro _; simp [low]
  | h1 l c ih =>
    intro h
    have h1 := ih (fun x hx => h x (by simp [hx]))
    have h2 := h c (by simp)
    rw [low_snoc, List.length_append, List.length_singleton, Nat.pow_succ]
    omega
theorem low_be (k n : Nat) (h : n < 256 ^ k) : low (be k n) = n := by
  induction k generalizing n with
  | zero => have : n = 0 := by simpa using h
            subst this; rfl
  | succ k ih =>
    rw [be, low_snoc, ih (n / 256) (by rw [Nat.pow_succ] at h; omega)]
    omega
/-- A number in few bytes. -/
def putSmall (n : Nat) : List Nat := wid n :: be (wid n) n
end Go.Proofs.YtlkgdpdnhnakoaaGreatDoor
namespace Go.Proofs.YtlkgdpdnhnakoaaGreatDoor
open Go.RowKit
theorem wid_step (m : Nat) (h : m < 18446744073709551616) (h0 : 0 < m) : wid m = wid (m / 256) + 1 := wid_pos h (by omega)
set_option maxRecDepth 100000 in
set_option maxHeartbeats 400000 in
theorem ord_width (n : Nat) (w : World) (h : n < 18446744073709551616) :
    Calls Tryz.prog 264 #[.int .u64 n] w fun e w' => e = .returned (.int .i64 (wid n)) ∧ w = w' := by
  have H := Lib.hid h; clear h
  go_enter Tryz.func264, Tryz.ntmps264
  go_wp2
  go_loop [0, 3] (fun v i => ∃ m j : Nat, v = .int .u64 m ∧ i = .int .i64 j ∧ Hid (m < 18446744073709551616 ∧ j + wid m = wid n)) (fun v _ => (intOf v).toNat)
  case atStart => exact ⟨n, 0, rfl, rfl, by show _ ∧ _; exact ⟨H.out, by omega⟩⟩
  case round =>
    obtain ⟨m, j, rfl, rfl, hm⟩ := hrel
    have hj : j ≤ 8 := by have := hm.out.2; have := wid_le n; omega
    by_cases h0 : 0 < m
    · go_wp2
      go_round
      case rel => exact ⟨m / 256, j + 1, by go_num, by go_num, by have h1 := hm.out.1; have h2 := hm.out.2; rw [wid_step m h1 h0] at h2; show _ ∧ _; omega⟩
      case measure => simp [intOf]; omega
    · have hm0 : m = 0 := by omega
      subst hm0
      go_wp2
      go_ret
      exact ⟨by have := hm.out.2; rw [wid_zero] at this; simp at this; rw [this]; rfl, rfl⟩
theorem info8 : (Tryz.prog.info? 5).map (fun i => (i.zero, i.size, i.bytes)) = some (some (.int .u8 0), 1, 1) := by kernel_rfl
/-- The buffer of lay behind i rounds. -/
def layBuf (n k i : Nat) : List Nat := List.replicate (k - i) 0 ++ be i n
theorem layBuf_length (n k i : Nat) (h : i ≤ k) : (layBuf n k i).length = k := by simp [layBuf, be_length]; omega
theorem layBuf_set (n k i : Nat) (h : i < k) : (layBuf n k i).set (k - 1 - i) (n / 256 ^ i % 256) = layBuf n k (i + 1) := by
  unfold layBuf
  obtain ⟨m, rfl⟩ : ∃ m, k = m + i + 1 := ⟨k - i - 1, by omega⟩
  rw [show m + i + 1 - i = m + 1 from by omega, show m + i + 1 - 1 - i = m from by omega, show m + i + 1 - (i + 1) = m from by omega, be_head]
  rw [List.replicate_succ', List.append_assoc, List.set_append_right _ _ (by simp)]
  simp
theorem layBuf_at (n k i : Nat) (h : i < k) : (layBuf n k i)[k - 1 - i]? = some 0 := by
  unfold layBuf
  rw [List.getElem?_append_left (by simp; omega), List.getElem?_replicate, if_pos (by omega)]
set_option maxRecDepth 100000 in
set_option maxHeartbeats 800000 in
theorem ord_lay (n k : Nat) (w : World) (h : n < 18446744073709551616) (hk : k ≤ 8) :
    Calls Tryz.prog 265 #[.int .u64 n, .int .i64 k] w fun e w' => ∃ g, e = .returned (.slice (some ⟨g, 0, none⟩) k k) ∧ OwnN w' w.heap.size 5 .u8 (.slice (some ⟨g, 0, none⟩) k k) (be k n) ∧ Same w w' := by
  have H := Lib.hid h; clear h
  obtain ⟨i0, hi, hz0, hz1, hz2⟩ := info_parts info8
  have HI := Lib.hid hi; have HZ0 := Lib.hid hz0; have HZ1 := Lib.hid hz1; have HZ2 := Lib.hid hz2
  clear hi hz0 hz1 hz2
  go_enter Tryz.func265, Tryz.ntmps265
  go_wp2_with (at_make; refine wpList_make_full _ rfl _ _ 56 rfl w.heap.size 5 i0 (.int .u8 0) 1 Tryz.underlying56 HI.out HZ0.out HZ1.out .i64 .i64 _ _ k rfl rfl rfl rfl (by rw [HZ2.out]; omega) (by unfold maxLen; omega) (Nat.le_refl _) ?_; intro w1 hown hgrow; have HO := Lib.hid (OwnN.made hown); have HK := Lib.hid ((Kept.refl (fun _ => False) w).grownNew hgrow (by simp)); clear hown hgrow)
  go_loopw [10] (fun c wr => ∃ i : Nat, i ≤ k ∧ c = .int .i64 i ∧ Hid (OwnN wr w.heap.size 5 .u8 (.slice (some ⟨w.heap.size, 0, none⟩) k k) (layBuf n k i)) ∧ Hid (Same w wr)) (fun c _ => k - (intOf c).toNat)
  case atStart => exact ⟨0, Nat.zero_le _, rfl, by show OwnN _ _ _ _ _ _; rw [show layBuf n k 0 = List.replicate k 0 from by simp [layBuf, be]]; exact HO.out, HK⟩
  case round =>
    obtain ⟨i, hi, rfl, ho, hs⟩ := hrel
    by_cases hlt : i < k
    · have c0 : wr.cell? ⟨w.heap.size, k - 1 - i, none⟩ = some (.int .u8 ((0 : Nat) : Int)) := ho.out.cell (layBuf_length n k i hi) (layBuf_at n k i hlt)
      have f0 := ho.out.free (layBuf_length n k i hi) (k - 1 - i)
      go_wp2
      go_roundw
      case rel =>
        have e : (n : Int) / 2 ^ (8 * i) % 256 = ((n / 256 ^ i % 256 : Nat) : Int) := by rw [Int.pow_mul]; simp
        refine ⟨i + 1, by omega, by go_num, ?_, ?_⟩
        · show OwnN _ _ _ _ _ _
          rw [e]
          have := ho.out.set (layBuf_length n k i hi) (k - 1 - i) (n / 256 ^ i % 256)
          rw [layBuf_set n k i hlt] at this
          exact this
        · show Same _ _
          exact hs.out.setNew (Nat.le_refl _) _
      case measure => simp [intOf]; omega
    · have e : i = k := by omega
      subst e
      go_wp2
      go_ret
      exact ⟨_, rfl, by have := ho.out; rw [show layBuf n i i = be i n from by simp [layBuf]] at this; exact this, hs.out⟩
set_option maxRecDepth 100000 in
set_option maxHeartbeats 800000 in
theorem ord_putSmall (n : Nat) (w : World) (h : n < 18446744073709551616) :
    Calls Tryz.prog 184 #[.int .u64 n] w fun e w' => ∃ v, e = .returned v ∧ OwnN w' w.heap.size 5 .u8 v (putSmall n) ∧ Same w w' := by
  have H := Lib.hid h; clear h
  have hw := wid_le n
  go_enter Tryz.func184, Tryz.ntmps184
  go_wp2_with (go_at_call 264; refine (ord_width n _ H.out).mono ?_; rintro e w1 ⟨rfl, rfl⟩)
  refine (ord_lay n (wid n) _ H.out hw).mono ?_
  rintro e w1 ⟨g, rfl, ho, hs⟩
  have B0 : Blk w1 w.heap.size #[.int .u8 ((wid n : Nat) : Int)] 5 := (Blk.new w _ _).kept hs (fun h => h)
  have HB : Hid (OwnN w1 w.heap.size 5 .u8 (.slice (some ⟨w.heap.size, 0, none⟩) 1 1) [wid n]) := OwnN.blk (xs := [wid n]) B0 rfl (Nat.le_refl _) (by simp [maxLen])
  have HS := Lib.hid (((Kept.refl (fun _ => False) w).alloc _).trans hs)
  obtain ⟨a, cap, e, hc1, hc2, hc3, hat, _⟩ := ho.read
  simp only [be_length, Value.slice.injEq, true_and] at e
  obtain ⟨rfl, rfl⟩ := e
  have HA := Lib.hid hat
  have hle := hs.size
  simp at hle
  have HL := Lib.hid (be_length (wid n) n)
  clear ho hs hat hc1 hc2 hc3 B0
  go_wp2_with (at_builtin; refine wpList_appendN rfl _ _ 56 rfl w.heap.size 5 .u8 1 Tryz.underlying56 info8 (Nat.le_refl _) _ [wid n] rfl HB.out _ _ _ (be (wid n) n) rfl HL.out.symm HA.out (by simp) (by rw [HL.out]; simp; omega) (by omega) ?_; intro v' w2 ho2 hg2 _; have HO2 := Lib.hid ho2; have HS2 := Lib.hid (HS.out.grownNew hg2 (fun k hk => (World.ownsRow.lt HB.out k hk).1)); clear ho2 hg2)
  go_ret
  exact ⟨_, rfl, HO2.out, HS2.out⟩
theorem low_take_succ (xs : List Nat) (i x : Nat) (h : xs[i]? = some x) : low (xs.take (i + 1)) = 256 * low (xs.take i) + x := by
  rw [List.take_add_one, h, Option.toList_some, low_snoc]
theorem or_byte (m x : Nat) (hm : m < 72057594037927936) (hx : x < 256) : bits .or .u64 ((m : Int) * 256) (x : Int) = ((256 * m + x : Nat) : Int) := by
  rw [show (m : Int) * 256 = ((256 * m : Nat) : Int) from by omega]
  rw [u64_or_nat (256 * m) x (by omega) (by omega), nat_join 8 (256 * m) x (by omega) (by omega)]
end Go.Proofs.YtlkgdpdnhnakoaaGreatDoor
namespace Go.Proofs.YtlkgdpdnhnakoaaGreatDoor
open Go.RowKit
/-- A reader of bytes: what is left of them, and the first error. -/
def Rdr (w : World) (g : Nat) (a : Option Addr) (cap : Nat) (xs : List Nat) (er : Nat) : Prop :=
  Blk w g #[.slice a xs.length cap, .int .i64 (er : Nat)] 315 ∧ NatsAt w .u8 a xs ∧ xs.length ≤ cap ∧ cap ≤ 9223372036854775807 ∧ (∀ x, a = some x → x.block ≠ g)
end Go.Proofs.YtlkgdpdnhnakoaaGreatDoor
namespace Go.Proofs.YtlkgdpdnhnakoaaGreatDoor
open Go.RowKit
end Go.Proofs.YtlkgdpdnhnakoaaGreatDoor
