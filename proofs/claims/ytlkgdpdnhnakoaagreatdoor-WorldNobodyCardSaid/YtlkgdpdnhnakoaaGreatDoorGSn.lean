/- GSn: SnP, Sn1, Eq8, Sn2, Sn3, Sn4, Sn5. -/
import Derived.Test.YtlkgdpdnhnakoaaGreatDoorSecP
import Derived.Test.YtlkgdpdnhnakoaaGreatDoorGNo
import Derived.Test.YtlkgdpdnhnakoaaGreatDoorWk
import Derived.ArgAppend
namespace Go.Proofs.YtlkgdpdnhnakoaaGreatDoor
open Go.RowKit

/-- A generation's stamp. -/
def stmp (g : Nat) : List Nat := be 8 g
/-- A stamp's generation. -/
def genS (s : List Nat) : Nat := if 1099511627776 < low s then 0 else low s
def bodyAll (b : List Nat) : List Nat := b.length / 256 :: b.length % 256 :: (b ++ List.replicate (954 - b.length) 0)
def partSl (b : List Nat) (i : Nat) : List Nat := ((bodyAll b).drop (i * 239)).take 239
def slotSec (g : Nat) (b : List Nat) (i : Nat) : List Nat := stmp g ++ [i] ++ partSl b i ++ stmp g
def putSl (g : Nat) (b : List Nat) : List (List Nat) := (List.range 4).map (slotSec g b)
def putSlE (g : Int) (n : Nat) : Nat := if g < 1 ∨ 1099511627776 < g then 9 else if 954 < n then 5 else 0
def frontS (b : List Nat) : List Nat := b.take 8
def backS (b : List Nat) : List Nat := b.drop (b.length - 8)
def seen1 (n : Nat) (b : List Nat) : Nat := if b.length = 256 then max n (max (genS (frontS b)) (genS (backS b))) else n
def seenSl (l : List (List Nat)) : Nat := l.foldl seen1 0

theorem stmp_len (g : Nat) : (stmp g).length = 8 := be_length 8 g
theorem stmp_bts (g : Nat) : Bts (stmp g) := be_byte 8 g
theorem stmp_low {g : Nat} (h : g < 18446744073709551616) : low (stmp g) = g := low_be 8 g (by simpa using h)
theorem stmp_all (g : Nat) : stmp g = [g / 72057594037927936 % 256, g / 281474976710656 % 256, g / 1099511627776 % 256, g / 4294967296 % 256, g / 16777216 % 256, g / 65536 % 256, g / 256 % 256, g % 256] := by
  unfold stmp
  simp only [be_head]
  simp [be]
theorem genS_le (s : List Nat) : genS s ≤ 1099511627776 := by unfold genS; split <;> omega
theorem genS_stmp {g : Nat} (h : g ≤ 1099511627776) : genS (stmp g) = g := by unfold genS; rw [stmp_low (by omega)]; rw [if_neg (by omega)]
theorem bodyAll_len {b : List Nat} (h : b.length ≤ 954) : (bodyAll b).length = 956 := by simp [bodyAll]; omega
theorem bodyAll_bts {b : List Nat} (h : b.length ≤ 954) (hb : Bts b) : Bts (bodyAll b) := by
  intro x hx
  simp only [bodyAll, List.mem_cons, List.mem_append, List.mem_replicate] at hx
  rcases hx with rfl | rfl | hx | ⟨_, rfl⟩
  · omega
  · omega
  · exact hb x hx
  · omega
theorem partSl_len {b : List Nat} (h : b.length ≤ 954) {i : Nat} (hi : i < 4) : (partSl b i).length = 239 := by
  unfold partSl
  rw [List.length_take, List.length_drop, bodyAll_len h]
  omega
theorem slotSec_len {b : List Nat} (h : b.length ≤ 954) (g : Nat) {i : Nat} (hi : i < 4) : (slotSec g b i).length = 256 := by
  unfold slotSec
  simp [stmp_len, partSl_len h hi]
theorem slotSec_bts {b : List Nat} (h : b.length ≤ 954) (hb : Bts b) (g : Nat) {i : Nat} (hi : i < 4) : Bts (slotSec g b i) := by
  unfold slotSec
  exact (((stmp_bts g).app (fun x hx => by simp at hx; omega)).app (((bodyAll_bts h hb).drop _).take _)).app (stmp_bts g)
theorem putSl_len (g : Nat) (b : List Nat) : (putSl g b).length = 4 := by simp [putSl]
theorem seen1_le {n : Nat} (b : List Nat) (h : n ≤ 1099511627776) : seen1 n b ≤ 1099511627776 := by
  unfold seen1
  have h1 := genS_le (frontS b)
  have h2 := genS_le (backS b)
  split <;> omega
theorem seenSl_le (l : List (List Nat)) : seenSl l ≤ 1099511627776 := by
  unfold seenSl
  suffices H : ∀ (l : List (List Nat)) (n : Nat), n ≤ 1099511627776 → l.foldl seen1 n ≤ 1099511627776 from H l 0 (by omega)
  intro l
  induction l with
  | nil => intro n h; exact h
  | cons b l ih => intro n h; exact ih _ (seen1_le b h)
end Go.Proofs.YtlkgdpdnhnakoaaGreatDoor

namespace Go.Proofs.YtlkgdpdnhnakoaaGreatDoor
open Go.RowKit Go.Sort Go.Shelf

/-- A stamp, of which i bytes are laid. -/
def stL (g i : Nat) : List Nat := (stmp g).take i ++ List.replicate (8 - i) 0
def stA (g i : Nat) : Array Value := (encB (stL g i)).toArray
theorem stA_step (g i v : Nat) (hi : i < 8) (hv : (stmp g)[i]? = some v) : stA g (i + 1) = (stA g i).setIfInBounds i (.int .u8 (v : Nat)) := by
  have h8 := stmp_len g
  have hm : i < (stmp g).length := by omega
  unfold stA encB
  rw [List.setIfInBounds_toArray]
  congr 1
  rw [show (Value.int .u8 (v : Nat)) = (fun x : Nat => Value.int .u8 (x : Nat)) v from rfl, ← List.map_set]
  congr 1
  unfold stL
  apply List.ext_getElem?
  intro j
  rw [List.getElem?_set]
  by_cases hj : i = j
  · subst hj
    have hl : i < ((stmp g).take i ++ List.replicate (8 - i) 0).length := by simp; omega
    rw [if_pos rfl, if_pos hl]
    rw [List.getElem?_append_left (by simp; omega), List.getElem?_take, if_pos (by omega), hv]
  · rw [if_neg hj]
    rcases Nat.lt_or_ge j i with z | z
    · rw [List.getElem?_append_left (by simp; omega), List.getElem?_append_left (by simp; omega), List.getElem?_take, List.getElem?_take, if_pos (by omega), if_pos z]
    · rw [List.getElem?_append_right (by simp; omega), List.getElem?_append_right (by simp; omega)]
      simp only [List.getElem?_replicate, List.length_take, h8]
      rw [Nat.min_eq_left (by omega), Nat.min_eq_left (by omega)]
      by_cases q : j < 8
      · rw [if_pos (by omega), if_pos (by omega)]
      · rw [if_neg (by omega), if_neg (by omega)]
theorem stA_full (g : Nat) : stA g 8 = (encB (stmp g)).toArray := by
  unfold stA stL
  rw [List.take_of_length_le (by rw [stmp_len]; exact Nat.le_refl _)]
  simp
theorem list8 {α : Type} {l : List α} (h : l.length = 8) : ∃ b0 b1 b2 b3 b4 b5 b6 b7, l = [b0, b1, b2, b3, b4, b5, b6, b7] := by
  match l, h with
  | [b0, b1, b2, b3, b4, b5, b6, b7], _ => exact ⟨b0, b1, b2, b3, b4, b5, b6, b7, rfl⟩
theorem Blk.set8 {w : World} {b : Nat} {v0 v1 v2 v3 v4 v5 v6 v7 u0 u1 u2 u3 u4 u5 u6 u7 : Value} {t : TypeId} (h : Blk w b #[v0, v1, v2, v3, v4, v5, v6, v7] t) :
    Blk ((((((((w.setCell ⟨b, 0, none⟩ u0).setCell ⟨b, 1, none⟩ u1).setCell ⟨b, 2, none⟩ u2).setCell ⟨b, 3, none⟩ u3).setCell ⟨b, 4, none⟩ u4).setCell ⟨b, 5, none⟩ u5).setCell ⟨b, 6, none⟩ u6).setCell ⟨b, 7, none⟩ u7) b #[u0, u1, u2, u3, u4, u5, u6, u7] t := by
  have h0 : Blk _ b #[u0, v1, v2, v3, v4, v5, v6, v7] t := h.set 0 u0
  have h1 : Blk _ b #[u0, u1, v2, v3, v4, v5, v6, v7] t := h0.set 1 u1
  have h2 : Blk _ b #[u0, u1, u2, v3, v4, v5, v6, v7] t := h1.set 2 u2
  have h3 : Blk _ b #[u0, u1, u2, u3, v4, v5, v6, v7] t := h2.set 3 u3
  have h4 : Blk _ b #[u0, u1, u2, u3, u4, v5, v6, v7] t := h3.set 4 u4
  have h5 : Blk _ b #[u0, u1, u2, u3, u4, u5, v6, v7] t := h4.set 5 u5
  have h6 : Blk _ b #[u0, u1, u2, u3, u4, u5, u6, v7] t := h5.set 6 u6
  have h7 : Blk _ b #[u0, u1, u2, u3, u4, u5, u6, u7] t := h6.set 7 u7
  exact h7
set_option maxRecDepth 100000 in
set_option maxHeartbeats 1600000 in
theorem sn_of (g : Nat) (hg : g < 9223372036854775808) (w : World) :
    Calls Tryz.prog 256 #[.int .i64 (g : Nat)] w fun e w' => e = .returned (secV (stmp g)) ∧ Same w w' := by
  have HS := Lib.hid (stmp_all g)
  have HG := Lib.hid hg
  clear hg
  go_enter Tryz.func256, Tryz.ntmps256
  go_upto_region 2 with fail
  obtain ⟨y, hy⟩ : ∃ y, w.heap.size = y := ⟨_, rfl⟩
  rw [hy]
  refine cutWl (fun wn => Fr wn [(y + 1, stA g 0, 388), (y, stA g 0, 388)] ∧ Same w wn) ⟨⟨Blk.new' _ _ _ (by simp [hy]), (Blk.new' _ _ _ hy.symm).alloc _, trivial⟩, ((Kept.refl _ _).alloc _).alloc _⟩ ?_
  rintro w4 ⟨hf4, k4⟩
  have F4 := Lib.hid hf4
  have K4 := Lib.hid k4
  have HY := Lib.hid hy
  clear hf4 k4 hy
  go_wp2_with fail
  go_loopw [5] (fun t wr => ∃ (i : Nat), t = .int .i64 i ∧ i ≤ 8 ∧ Fr wr [(y + 1, stA g i, 388), (y, stA g 0, 388)] ∧ Same w wr) (fun t _ => 8 - (intOf t).toNat)
  case atStart => exact ⟨0, rfl, by omega, F4.out, K4.out⟩
  case round =>
    obtain ⟨i, rfl, hi, hf, hk⟩ := hrel
    have K := Lib.hid hk
    have F := Lib.hid hf
    clear hk hf F4 K4
    by_cases hgo : i < 8
    · have B := Lib.hid F.out.1
      have f0 := fun j => Blk.free F.out.1 j
      have z0 := F.out.1.lt
      have c0 : ∃ u, wr.cell? ⟨y + 1, i, none⟩ = some u := by
        rw [cell_blk F.out.1 i]
        show ∃ u, (stA g i)[i]? = some u
        have hs : (stA g i).size = 8 := by unfold stA encB stL; simp [stmp_len]; omega
        exact ⟨_, Array.getElem?_eq_getElem (by omega)⟩
      obtain ⟨u, c0⟩ := c0
      have FIN := Lib.hid (fun (v : Nat) (hv : (stmp g)[i]? = some v) => show Fr (wr.setCell ⟨y + 1, i, none⟩ (.int .u8 (v : Nat))) [(y + 1, stA g (i + 1), 388), (y, stA g 0, 388)] ∧ Same w (wr.setCell ⟨y + 1, i, none⟩ (.int .u8 (v : Nat))) from
        ⟨⟨by rw [stA_step g i v hgo hv]; exact F.out.1.set i _, F.out.2.1.kept ((Kept.refl _ wr).setG i _) (by omega), trivial⟩, K.out.setNew (by dsimp only; have := HY.out; omega) _⟩)
      rw [HS.out] at FIN
      have hgg := HG.out
      have hcase : i = 0 ∨ i = 1 ∨ i = 2 ∨ i = 3 ∨ i = 4 ∨ i = 5 ∨ i = 6 ∨ i = 7 := by omega
      clear B F K hi hgo HS
      rcases hcase with rfl | rfl | rfl | rfl | rfl | rfl | rfl | rfl
      · go_wp2_with fail
        have e := FIN.out _ rfl
        rw [show (((g / 72057594037927936 % 256 : Nat)) : Int) = (g : Int) / 72057594037927936 from by omega] at e
        exact ⟨⟨1, rfl, by omega, e⟩, by simp [intOf]⟩
      · go_wp2_with fail
        have e := FIN.out _ rfl
        rw [show (((g / 281474976710656 % 256 : Nat)) : Int) = (g : Int) / 281474976710656 % 256 from by omega] at e
        exact ⟨⟨2, rfl, by omega, e⟩, by simp [intOf]⟩
      · go_wp2_with fail
        have e := FIN.out _ rfl
        rw [show (((g / 1099511627776 % 256 : Nat)) : Int) = (g : Int) / 1099511627776 % 256 from by omega] at e
        exact ⟨⟨3, rfl, by omega, e⟩, by simp [intOf]⟩
      · go_wp2_with fail
        have e := FIN.out _ rfl
        rw [show (((g / 4294967296 % 256 : Nat)) : Int) = (g : Int) / 4294967296 % 256 from by omega] at e
        exact ⟨⟨4, rfl, by omega, e⟩, by simp [intOf]⟩
      · go_wp2_with fail
        have e := FIN.out _ rfl
        rw [show (((g / 16777216 % 256 : Nat)) : Int) = (g : Int) / 16777216 % 256 from by omega] at e
        exact ⟨⟨5, rfl, by omega, e⟩, by simp [intOf]⟩
      · go_wp2_with fail
        have e := FIN.out _ rfl
        rw [show (((g / 65536 % 256 : Nat)) : Int) = (g : Int) / 65536 % 256 from by omega] at e
        exact ⟨⟨6, rfl, by omega, e⟩, by simp [intOf]⟩
      · go_wp2_with fail
        have e := FIN.out _ rfl
        rw [show (((g / 256 % 256 : Nat)) : Int) = (g : Int) / 256 % 256 from by omega] at e
        exact ⟨⟨7, rfl, by omega, e⟩, by simp [intOf]⟩
      · go_wp2_with fail
        have e := FIN.out _ rfl
        rw [show (((g % 256 : Nat)) : Int) = (g : Int) % 256 from by omega] at e
        exact ⟨⟨8, rfl, by omega, e⟩, by simp [intOf]⟩
    · have h8 : i = 8 := by omega
      subst h8
      rw [stA_full] at F
      clear hi
      obtain ⟨b0, b1, b2, b3, b4, b5, b6, b7, e8⟩ := list8 (stmp_len g)
      have E8 := Lib.hid e8
      rw [e8] at F
      have p1 := cell_blk F.out.1
      have p0 := cell_blk F.out.2.1
      have f0 := fun j => Blk.free F.out.2.1 j
      have z0 := F.out.2.1.lt
      have z1 := F.out.1.lt
      clear HS e8
      simp only [encB, List.map_cons, List.map_nil] at p1
      rw [show stA g 0 = #[.int .u8 0, .int .u8 0, .int .u8 0, .int .u8 0, .int .u8 0, .int .u8 0, .int .u8 0, .int .u8 0] from rfl] at F p0
      go_wp2_with fail
      refine bodyPost_ret (results_two rfl _ _ y _ _ _ rfl (Blk.set8 F.out.2.1) Tryz.underlying388 rfl (by kernel_rfl)) rfl ?_
      refine ⟨by rw [E8.out]; rfl, ?_⟩
      have hyy := HY.out
      repeat (first | with_reducible exact K.out | refine Kept.setNew ?_ (by dsimp only; omega) _)
theorem idx_st (cs : Array Value) (w : World) (j : Nat) (v : Value) (hs : cs.size = 8) (hv : cs[j]? = some v) :
    (Instr.index 388 (.agg cs) (.int .i64 (j : Nat))).run Tryz.prog w = .ok v w := by
  have hj : j < cs.size := by
    rcases Nat.lt_or_ge j cs.size with q | q
    · exact q
    · rw [Array.getElem?_eq_none q] at hv; cases hv
  simp [Instr.index, run_underlying Tryz.underlying388, asIntOf, hv, go_sem]
  intro q
  omega
set_option maxRecDepth 100000 in
set_option maxHeartbeats 1600000 in
theorem sn_gen (s : List Nat) (hs : s.length = 8) (hb : Bts s) (w : World) :
    Calls Tryz.prog 261 #[secV s] w fun e w' => e = .returned (.int .i64 ((genS s : Nat) : Int)) ∧ Same w w' := by
  obtain ⟨b0, b1, b2, b3, b4, b5, b6, b7, rfl⟩ := list8 hs
  have B0 := hb b0 (by simp); have B1 := hb b1 (by simp); have B2 := hb b2 (by simp); have B3 := hb b3 (by simp); have B4 := hb b4 (by simp); have B5 := hb b5 (by simp); have B6 := hb b6 (by simp); have B7 := hb b7 (by simp)
  have HB := Lib.hid (show b0 < 256 ∧ b1 < 256 ∧ b2 < 256 ∧ b3 < 256 ∧ b4 < 256 ∧ b5 < 256 ∧ b6 < 256 ∧ b7 < 256 from ⟨B0, B1, B2, B3, B4, B5, B6, B7⟩)
  clear hs hb B0 B1 B2 B3 B4 B5 B6 B7
  show Calls Tryz.prog 261 #[.agg #[.int .u8 (b0 : Nat), .int .u8 (b1 : Nat), .int .u8 (b2 : Nat), .int .u8 (b3 : Nat), .int .u8 (b4 : Nat), .int .u8 (b5 : Nat), .int .u8 (b6 : Nat), .int .u8 (b7 : Nat)]] w fun e w' => e = .returned (.int .i64 ((genS [b0, b1, b2, b3, b4, b5, b6, b7] : Nat) : Int)) ∧ Same w w'
  obtain ⟨L, hL⟩ : ∃ L, low [b0, b1, b2, b3, b4, b5, b6, b7] = L := ⟨_, rfl⟩
  have HG := Lib.hid (show genS [b0, b1, b2, b3, b4, b5, b6, b7] = if 1099511627776 < L then 0 else L from by unfold genS; rw [hL])
  have HL := Lib.hid hL
  clear hL
  go_enter Tryz.func261, Tryz.ntmps261
  go_wp2_with fail
  go_loopw [3, 7] (fun v t wr => ∃ (i : Nat), t = .int .i64 i ∧ i ≤ 8 ∧ v = .int .u64 ((low ([b0, b1, b2, b3, b4, b5, b6, b7].take i) : Nat) : Int) ∧ Same w wr) (fun _ t _ => 8 - (intOf t).toNat)
  case atStart => exact ⟨0, rfl, by omega, rfl, (Kept.refl _ _).alloc _⟩
  case round =>
    obtain ⟨i, rfl, hi, rfl, hk⟩ := hrel
    have K := Lib.hid hk
    clear hk
    by_cases hgo : i < 8
    · obtain ⟨x, hx⟩ : ∃ x, [b0, b1, b2, b3, b4, b5, b6, b7][i]? = some x := ⟨_, List.getElem?_eq_getElem (by simpa using hgo)⟩
      have hbt : Bts [b0, b1, b2, b3, b4, b5, b6, b7] := by
        obtain ⟨h0, h1, h2, h3, h4, h5, h6, h7⟩ := HB.out
        intro y hy
        simp at hy
        omega
      have hxb : x < 256 := hbt x (List.mem_of_getElem? hx)
      have HS : Hid (low ([b0, b1, b2, b3, b4, b5, b6, b7].take (i + 1)) = 256 * low ([b0, b1, b2, b3, b4, b5, b6, b7].take i) + x) := low_take_succ _ i x hx
      have hm : low ([b0, b1, b2, b3, b4, b5, b6, b7].take i) < 72057594037927936 := by
        have h1 := low_lt ([b0, b1, b2, b3, b4, b5, b6, b7].take i) (fun y hy => hbt y (List.mem_of_mem_take hy))
        have h2 : ([b0, b1, b2, b3, b4, b5, b6, b7].take i).length ≤ 7 := by simp; omega
        exact Nat.lt_of_lt_of_le h1 (Nat.le_trans (Nat.pow_le_pow_right (by decide) h2) (by decide))
      have hidx := fun w => idx_st #[.int .u8 (b0 : Nat), .int .u8 (b1 : Nat), .int .u8 (b2 : Nat), .int .u8 (b3 : Nat), .int .u8 (b4 : Nat), .int .u8 (b5 : Nat), .int .u8 (b6 : Nat), .int .u8 (b7 : Nat)] w i (.int .u8 (x : Nat)) rfl (by
        have h1 := congrArg (Option.map fun y : Nat => Value.int .u8 (y : Nat)) hx
        rw [← List.getElem?_map] at h1
        rw [← Array.getElem?_toList]
        exact h1)
      generalize hm' : low ([b0, b1, b2, b3, b4, b5, b6, b7].take i) = m at *
      have HX := Lib.hid hx; have HW := Lib.hid (show bits .or .u64 (IntKind.u64.wrap ((m : Int) * 256)) (x : Int) = ((256 * m + x : Nat) : Int) from by rw [u64_wrap _ (by omega) (by omega)]; exact or_byte m x hm hxb)
      clear hm' hx hbt hm
      go_wp2_with fail
      go_roundw
      case rel => exact ⟨i + 1, by go_num, by omega, by rw [HS.out, HW.out], K.out⟩
      case measure => simp [intOf]; omega
    · have h8 : i = 8 := by omega
      subst h8
      rw [show [b0, b1, b2, b3, b4, b5, b6, b7].take 8 = [b0, b1, b2, b3, b4, b5, b6, b7] from rfl, HL.out]
      clear hi hgo
      by_cases hbig : 1099511627776 < L
      · have HR := Lib.hid (show genS [b0, b1, b2, b3, b4, b5, b6, b7] = 0 from by rw [HG.out, if_pos hbig])
        have g1 : (1099511627776 : Int) < (L : Int) := by omega
        clear hbig
        go_wp2_with fail
        go_ret
        exact ⟨by rw [HR.out]; rfl, K.out⟩
      · have HR := Lib.hid (show genS [b0, b1, b2, b3, b4, b5, b6, b7] = L from by rw [HG.out, if_neg hbig])
        have g1 : ¬ (1099511627776 : Int) < (L : Int) := by omega
        go_wp2_with fail
        go_ret
        exact ⟨by rw [HR.out]; rfl, K.out⟩
theorem results_ends {P : Program} {fn : Func} {p q u : Tmp} {ty : TypeId} (h : fn.results = #[.cell p ty, .cell q ty, .tmp u]) (tmps : Array Value) (w : World) (g g' : Nat) (t t' : TypeId) (cs cs' : Array Value) (d : TypeDesc)
    (hp : tmps.getD p undef = .pointer (some ⟨g, 0, none⟩)) (hg : Blk w g cs t) (hq : tmps.getD q undef = .pointer (some ⟨g', 0, none⟩)) (hg' : Blk w g' cs' t')
    (hu : P.underlying ty = some d) (hd : (match d with | .struct _ | .array _ _ => true | _ => false) = true) (hi : (P.info? ty).map (·.size) = some cs.size) (hi' : (P.info? ty).map (·.size) = some cs'.size) :
    (results fn tmps).run P w = .ok (.tuple #[.agg cs, .agg cs', tmps.getD u undef]) w := by
  have hp' : tmps[p]?.getD undef = .pointer (some ⟨g, 0, none⟩) := by simpa using hp
  have hq' : tmps[q]?.getD undef = .pointer (some ⟨g', 0, none⟩) := by simpa using hq
  simp [results, h, hp', hq', asAddr, run_loadVar_row w g t ty cs (0, 0) d hg hu hd hi, run_loadVar_row w g' t' ty cs' (0, 0) d hg' hu hd hi']
/-- The stamps at a sector's ends. -/
def EndsPost (w : World) (b : List Nat) (e : Ending) (w' : World) : Prop := e = .returned (.tuple #[secV (if b.length = 256 then frontS b else List.replicate 8 0), secV (if b.length = 256 then backS b else List.replicate 8 0), .bool (decide (b.length = 256))]) ∧ Same w w'
set_option maxRecDepth 100000 in
set_option maxHeartbeats 1600000 in
theorem sn_ends (a : Option Addr) (n c : Nat) (b : List Nat) (hn : n = b.length) (hc : n ≤ c) (w : World) (hat : NatsAt w .u8 a b) :
    Calls Tryz.prog 260 #[.slice a n c] w (EndsPost w b) := by
  by_cases h : n = 256
  · subst h
    have HP := Lib.hid (show EndsPost w b = fun e w' => e = .returned (.tuple #[secV (frontS b), secV (backS b), .bool true]) ∧ Same w w' from by funext e w'; unfold EndsPost; rw [if_pos hn.symm, if_pos hn.symm, decide_eq_true hn.symm])
    rw [HP.out]
    obtain ⟨bk, off, rfl, hbk⟩ : ∃ bk off, a = some ⟨bk, off, none⟩ ∧ bk < w.heap.size := by
      rcases hat with rfl | ⟨bk, off, e, h, _⟩
      · cases hn
      · exact ⟨bk, off, e, h⟩
    obtain ⟨b0, b1, b2, b3, b4, b5, b6, b7, e8⟩ := list8 (show (frontS b).length = 8 from by unfold frontS; rw [List.length_take]; omega)
    obtain ⟨d0, d1, d2, d3, d4, d5, d6, d7, e9⟩ := list8 (show (backS b).length = 8 from by unfold backS; rw [List.length_drop]; omega)
    have hcell : ∀ (i x : Nat), b[i]? = some x → ∀ w', Kept (fun g => w.heap.size ≤ g) w w' → w'.cell? ⟨bk, off + i, none⟩ = some (.int .u8 (x : Nat)) := fun i x hx w' k => by
      rcases hat.kept k (fun y hy => by cases hy; dsimp only; omega) with h0 | ⟨bk', off', e, _, hcc⟩
      · rw [h0] at hx; cases hx
      · cases e
        exact hcc i x hx
    have hf : ∀ (i x : Nat), i < 8 → (frontS b)[i]? = some x → b[i]? = some x := fun i x hi hx => by
      unfold frontS at hx
      rw [List.getElem?_take, if_pos hi] at hx
      exact hx
    have hbk2 : ∀ (i x : Nat), (backS b)[i]? = some x → b[248 + i]? = some x := fun i x hx => by
      unfold backS at hx
      rw [List.getElem?_drop, ← hn] at hx
      exact hx
    rw [e8] at hf
    rw [e9] at hbk2
    have QX := Lib.hid (show ∀ w', Kept (fun g => w.heap.size ≤ g) w w' → (w'.cell? ⟨bk, off, none⟩ = some (.int .u8 (b0 : Nat)) ∧ w'.cell? ⟨bk, off + 1, none⟩ = some (.int .u8 (b1 : Nat)) ∧ w'.cell? ⟨bk, off + 2, none⟩ = some (.int .u8 (b2 : Nat)) ∧ w'.cell? ⟨bk, off + 3, none⟩ = some (.int .u8 (b3 : Nat)) ∧ w'.cell? ⟨bk, off + 4, none⟩ = some (.int .u8 (b4 : Nat)) ∧ w'.cell? ⟨bk, off + 5, none⟩ = some (.int .u8 (b5 : Nat)) ∧ w'.cell? ⟨bk, off + 6, none⟩ = some (.int .u8 (b6 : Nat)) ∧ w'.cell? ⟨bk, off + 7, none⟩ = some (.int .u8 (b7 : Nat))) ∧ (w'.cell? ⟨bk, off + 248, none⟩ = some (.int .u8 (d0 : Nat)) ∧ w'.cell? ⟨bk, off + 248 + 1, none⟩ = some (.int .u8 (d1 : Nat)) ∧ w'.cell? ⟨bk, off + 248 + 2, none⟩ = some (.int .u8 (d2 : Nat)) ∧ w'.cell? ⟨bk, off + 248 + 3, none⟩ = some (.int .u8 (d3 : Nat)) ∧ w'.cell? ⟨bk, off + 248 + 4, none⟩ = some (.int .u8 (d4 : Nat)) ∧ w'.cell? ⟨bk, off + 248 + 5, none⟩ = some (.int .u8 (d5 : Nat)) ∧ w'.cell? ⟨bk, off + 248 + 6, none⟩ = some (.int .u8 (d6 : Nat)) ∧ w'.cell? ⟨bk, off + 248 + 7, none⟩ = some (.int .u8 (d7 : Nat))) from fun w' k =>
      ⟨⟨hcell 0 _ (hf 0 _ (by decide) rfl) w' k, hcell 1 _ (hf 1 _ (by decide) rfl) w' k, hcell 2 _ (hf 2 _ (by decide) rfl) w' k, hcell 3 _ (hf 3 _ (by decide) rfl) w' k, hcell 4 _ (hf 4 _ (by decide) rfl) w' k, hcell 5 _ (hf 5 _ (by decide) rfl) w' k, hcell 6 _ (hf 6 _ (by decide) rfl) w' k, hcell 7 _ (hf 7 _ (by decide) rfl) w' k⟩,
       ⟨hcell 248 _ (hbk2 0 _ rfl) w' k, hcell 249 _ (hbk2 1 _ rfl) w' k, hcell 250 _ (hbk2 2 _ rfl) w' k, hcell 251 _ (hbk2 3 _ rfl) w' k, hcell 252 _ (hbk2 4 _ rfl) w' k, hcell 253 _ (hbk2 5 _ rfl) w' k, hcell 254 _ (hbk2 6 _ rfl) w' k, hcell 255 _ (hbk2 7 _ rfl) w' k⟩⟩)
    have hA1 := fun w => run_arrayAt Tryz.prog Tryz.underlying388 (some ⟨bk, off, none⟩) 8 c (Nat.le_refl _) w
    have hA2 := fun w => run_arrayAt Tryz.prog Tryz.underlying388 (some ⟨bk, off + 248, none⟩) 8 (c - 248) (Nat.le_refl _) w
    clear hat hn HP hcell hf hbk2
    rw [e8, e9]
    clear e8 e9
    have g8 : (8 : Int) ≤ (c : Int) := by omega
    have gw : IntKind.i64.wrap 248 = 248 := by decide
    have gc : ¬ c = 248 := by omega
    go_enter Tryz.func260, Tryz.ntmps260
    go_upto_region 3 with fail
    obtain ⟨y, hy⟩ : ∃ y, w.heap.size = y := ⟨_, rfl⟩
    rw [hy]
    refine cutWl (fun wn => Fr wn [(y + 1, stA 0 0, 388), (y, stA 0 0, 388)] ∧ Same w wn) ⟨⟨Blk.new' _ _ _ (by simp [hy]), (Blk.new' _ _ _ hy.symm).alloc _, trivial⟩, ((Kept.refl _ _).alloc _).alloc _⟩ ?_
    rintro w4 ⟨hf4, k4⟩
    rw [show stA 0 0 = #[.int .u8 0, .int .u8 0, .int .u8 0, .int .u8 0, .int .u8 0, .int .u8 0, .int .u8 0, .int .u8 0] from rfl] at hf4
    have F4 := Lib.hid hf4
    have K4 := Lib.hid k4
    have HY := Lib.hid hy
    clear hf4 k4 hy
    go_wp2_with fail
    refine wp_region_T (S := fun w' => Kept (fun g => w.heap.size ≤ g) w w') 12 (by kernel_rfl) ((K4.out.mono (fun _ _ q => q.elim)).drew) (fun hHeld hDn => ?_)
    refine wpT_z 0 10 QX hHeld hDn fun hDn => ?_
    refine wpT_z 1 11 QX hHeld hDn fun hDn => ?_
    refine wpT_z 2 12 QX hHeld hDn fun hDn => ?_
    refine wpT_z 3 13 QX hHeld hDn fun hDn => ?_
    refine wpT_z 4 14 QX hHeld hDn fun hDn => ?_
    refine wpT_z 5 15 QX hHeld hDn fun hDn => ?_
    refine wpT_z 6 16 QX hHeld hDn fun hDn => ?_
    refine wpT_z 7 17 QX hHeld hDn fun hDn => ?_
    refine wpT_z 8 18 QX hHeld hDn fun hDn => ?_
    refine wpT_z 9 19 QX hHeld hDn fun hDn => ?_
    refine wpT_z 10 20 QX hHeld hDn fun hDn => ?_
    clear QX hA1 hA2
    have p0 := cell_blk F4.out.2.1
    have f0 := fun i => Blk.free F4.out.2.1 i
    have z0 := F4.out.2.1.lt
    refine wpT_one (i := 11) rfl (by kernel_rfl) hDn (fun K' hK => ?_)
    go_simp
    have hyy := HY.out
    refine hK.out _ _ ?_ (fun hHeld2 hDn2 => ?_)
    · refine Kept.drew ?_
      have K0 := K4.out.mono (fp' := fun g => w.heap.size ≤ g) (fun _ _ q => q.elim)
      repeat (first | with_reducible exact K0 | refine Kept.setCell ?_ (fun q => by dsimp only at q ⊢; omega) _)
    clear hK K' hHeld hDn
    have hHeld := hHeld2; have hDn := hDn2
    clear hHeld2 hDn2 p0 f0 z0
    refine cutT (fun wn => Fr wn [(y, (encB [b0, b1, b2, b3, b4, b5, b6, b7]).toArray, 388), (y + 1, #[.int .u8 0, .int .u8 0, .int .u8 0, .int .u8 0, .int .u8 0, .int .u8 0, .int .u8 0, .int .u8 0], 388)] ∧ Same w wn) ?_ ?_
    · have hb := Blk.set8 (u0 := .int .u8 (b0 : Nat)) (u1 := .int .u8 (b1 : Nat)) (u2 := .int .u8 (b2 : Nat)) (u3 := .int .u8 (b3 : Nat)) (u4 := .int .u8 (b4 : Nat)) (u5 := .int .u8 (b5 : Nat)) (u6 := .int .u8 (b6 : Nat)) (u7 := .int .u8 (b7 : Nat)) F4.out.2.1
      refine ⟨⟨hb.drew, ?_, trivial⟩, ?_⟩
      · have K0 := Kept.refl (fun g => g = y) w4
        refine F4.out.1.kept (fp := fun g => g = y) (Kept.drew ?_) (show ¬ y + 1 = y by omega)
        repeat (first | with_reducible exact K0 | refine Kept.setG ?_ _ _)
      · refine Kept.drew ?_
        repeat (first | with_reducible exact K4.out | refine Kept.setNew ?_ (by dsimp only; omega) _)
    rintro w5 ⟨hf5, k5⟩
    have F5 := Lib.hid hf5
    have K5 := Lib.hid k5
    clear hf5 k5 F4 K4
    have p0 := cell_blk F5.out.2.1
    have f0 := fun i => Blk.free F5.out.2.1 i
    have z0 := F5.out.2.1.lt
    refine wpT_last rfl (by kernel_rfl) hDn (fun K hK => ?_)
    go_simp
    refine hK.out _ _ (fun hDn' => ?_)
    clear hK K hDn hHeld; have hDn := hDn'; clear hDn'
    refine wpT_ze 13 4 hDn fun hDn => ?_
    refine wpT_done (by kernel_rfl) ?_ _
    clear hDn
    go_wp2_with fail
    have BB := Blk.set8 (u0 := .int .u8 (d0 : Nat)) (u1 := .int .u8 (d1 : Nat)) (u2 := .int .u8 (d2 : Nat)) (u3 := .int .u8 (d3 : Nat)) (u4 := .int .u8 (d4 : Nat)) (u5 := .int .u8 (d5 : Nat)) (u6 := .int .u8 (d6 : Nat)) (u7 := .int .u8 (d7 : Nat)) F5.out.2.1
    refine bodyPost_ret (results_ends rfl _ _ y (y + 1) _ _ _ _ _ rfl (F5.out.1.kept (fp := fun g => g = y + 1) ?_ (show ¬ y = y + 1 by omega)) rfl BB Tryz.underlying388 rfl (by kernel_rfl) (by kernel_rfl)) rfl ?_
    · have K0 := Kept.refl (fun g => g = y + 1) w5
      repeat (first | with_reducible exact K0 | refine Kept.setG ?_ _ _)
    · refine ⟨rfl, ?_⟩
      have hyy := HY.out
      repeat (first | with_reducible exact K5.out | refine Kept.setNew ?_ (by dsimp only; omega) _)
  · have h1 : ¬ b.length = 256 := by omega
    have g1 : ¬ (n : Int) = 256 := by omega
    have HP := Lib.hid (show EndsPost w b = fun e w' => e = .returned (.tuple #[secV (List.replicate 8 0), secV (List.replicate 8 0), .bool false]) ∧ Same w w' from by funext e w'; unfold EndsPost; rw [if_neg h1, if_neg h1, decide_eq_false h1])
    rw [HP.out]
    clear h h1 hn hat HP
    go_enter Tryz.func260, Tryz.ntmps260
    go_wp2_with fail
    refine bodyPost_ret (results_ends rfl _ _ w.heap.size (w.heap.size + 1) _ _ _ _ _ rfl (Blk.alloc (Blk.new _ _ _) _) rfl (Blk.new' _ _ _ (by simp)) Tryz.underlying388 rfl (by kernel_rfl) (by kernel_rfl)) rfl ?_
    exact ⟨rfl, ((Kept.refl _ _).alloc _).alloc _⟩
end Go.Proofs.YtlkgdpdnhnakoaaGreatDoor

namespace Go.Proofs.YtlkgdpdnhnakoaaGreatDoor
open Go.RowKit Go.Sort Go.Shelf
end Go.Proofs.YtlkgdpdnhnakoaaGreatDoor

namespace Go.Proofs.YtlkgdpdnhnakoaaGreatDoor
open Go.RowKit Go.Sort Go.Shelf

theorem frontS_len {b : List Nat} (h : b.length = 256) : (frontS b).length = 8 := by unfold frontS; rw [List.length_take]; omega
theorem backS_len {b : List Nat} (h : b.length = 256) : (backS b).length = 8 := by unfold backS; rw [List.length_drop]; omega
theorem frontS_bts {b : List Nat} (h : Bts b) : Bts (frontS b) := h.take _
theorem backS_bts {b : List Nat} (h : Bts b) : Bts (backS b) := h.drop _
end Go.Proofs.YtlkgdpdnhnakoaaGreatDoor

namespace Go.Proofs.YtlkgdpdnhnakoaaGreatDoor
open Go.RowKit Go.Sort Go.Shelf

/-- One of the rows. -/
theorem rows_at {w : World} {a : Option Addr} {bs : List (List Nat)} (h : RowsAt w a bs) {i : Nat} (hi : i < bs.length) :
    ∃ bk off ra rn rc, a = some ⟨bk, off, none⟩ ∧ bk < w.heap.size ∧ rn = bs[i].length ∧ rn ≤ rc ∧ ∀ w', Same w w' → w'.cell? ⟨bk, off + i, none⟩ = some (.slice ra rn rc) ∧ NatsAt w' .u8 ra bs[i] := by
  obtain ⟨rs, h1, h2, h3⟩ := h
  have hir : i < rs.length := by omega
  obtain ⟨bk, off, rfl, hb⟩ := h1.there (fun e => by rw [e] at hir; simp at hir)
  have ok := h3 i rs[i] bs[i] (List.getElem?_eq_getElem hir) (List.getElem?_eq_getElem hi)
  refine ⟨bk, off, rs[i].1, rs[i].2.1, rs[i].2.2, rfl, hb, ok.len, ok.cap, fun w' k => ⟨?_, ok.at_.same k⟩⟩
  have := (h1.same k).get (List.getElem?_eq_getElem hir) 0 (u := .slice rs[i].1 rs[i].2.1 rs[i].2.2) rfl
  rw [show rowE.n = 1 from rfl, Nat.mul_one, Nat.add_zero] at this
  exact this
theorem RowsAt.same {w w' : World} {a : Option Addr} {bs : List (List Nat)} (h : RowsAt w a bs) (k : Same w w') : RowsAt w' a bs := by
  obtain ⟨rs, h1, h2, h3⟩ := h
  exact ⟨rs, h1.same k, h2, fun i r b hr hb => (h3 i r b hr hb).same k⟩
theorem seenSl_take {bs : List (List Nat)} {i : Nat} (hi : i < bs.length) : seenSl (bs.take (i + 1)) = seen1 (seenSl (bs.take i)) bs[i] := by
  rw [← List.take_append_getElem hi]
  unfold seenSl
  rw [List.foldl_append]
  rfl
set_option maxRecDepth 100000 in
set_option maxHeartbeats 1600000 in
theorem sn_seen (a : Option Addr) (n c : Nat) (bs : List (List Nat)) (hn : n = bs.length) (hl : n ≤ 1000) (hb : ∀ b ∈ bs, Bts b) (w : World) (hat : RowsAt w a bs) :
    Calls Tryz.prog 178 #[.slice a n c] w fun e w' => e = .returned (.int .i64 ((seenSl bs : Nat) : Int)) ∧ Same w w' := by
  have HN := Lib.hid hn; have HAT := Lib.hid hat; have HB := Lib.hid hb
  clear hn hat hb
  go_enter Tryz.func178, Tryz.ntmps178
  go_wp2_with fail
  go_loopw [3, 11] (fun v t wr => ∃ (i : Nat), t = .int .i64 i ∧ i ≤ n ∧ v = .int .i64 ((seenSl (bs.take i) : Nat) : Int) ∧ Same w wr) (fun _ t _ => n - (intOf t).toNat)
  case atStart => exact ⟨0, rfl, by omega, rfl, Kept.refl _ _⟩
  case round =>
    obtain ⟨i, rfl, hi, rfl, hk⟩ := hrel
    have K := Lib.hid hk
    clear hk
    by_cases hgo : i < n
    · have hil : i < bs.length := by have := HN.out; omega
      have TK := Lib.hid (seenSl_take hil)
      have BB := Lib.hid (HB.out bs[i] (List.getElem_mem _))
      obtain ⟨bk, off, ra, rn, rc, rfl, hbk, hrn, hrc, hcc⟩ := rows_at HAT.out hil
      obtain ⟨c0, hra⟩ := hcc _ K.out
      obtain ⟨b, hbe⟩ : ∃ b, bs[i] = b := ⟨_, rfl⟩
      rw [hbe] at TK BB hrn hra
      obtain ⟨N, hN⟩ : ∃ N, seenSl (bs.take i) = N := ⟨_, rfl⟩
      rw [hN] at TK ⊢
      have hN40 : N ≤ 1099511627776 := by rw [← hN]; exact seenSl_le _
      have EN := Lib.hid (sn_ends ra rn rc b hrn hrc wr hra)
      have HL := Lib.hid hrn
      have g1 : (i : Int) < (n : Int) := by omega
      have g0 : (0 : Int) ≤ (i : Int) := by omega
      clear hcc hra hrn hrc hbe hN
      by_cases h : b.length = 256
      · have EN2 := Lib.hid (EN.out.mono (R' := fun e w' => e = .returned (.tuple #[secV (frontS b), secV (backS b), .bool true]) ∧ Same wr w') (fun e w' q => by unfold EndsPost at q; rw [if_pos h, if_pos h, decide_eq_true h] at q; exact q))
        have G1 := Lib.hid (fun w' => sn_gen (frontS b) (frontS_len h) (frontS_bts BB.out) w')
        have G2 := Lib.hid (fun w' => sn_gen (backS b) (backS_len h) (backS_bts BB.out) w')
        have hle1 := genS_le (frontS b)
        have hle2 := genS_le (backS b)
        have SE := Lib.hid (show seen1 N b = max N (max (genS (frontS b)) (genS (backS b))) from by unfold seen1; rw [if_pos h])
        obtain ⟨A, hA⟩ : ∃ A, genS (frontS b) = A := ⟨_, rfl⟩
        obtain ⟨B, hB⟩ : ∃ B, genS (backS b) = B := ⟨_, rfl⟩
        obtain ⟨b0, b1, b2, b3, b4, b5, b6, b7, e8⟩ := list8 (frontS_len h)
        obtain ⟨d0, d1, d2, d3, d4, d5, d6, d7, e9⟩ := list8 (backS_len h)
        rw [e8, e9] at EN2
        rw [hA, e8] at G1
        rw [hB, e9] at G2
        rw [hA] at SE hle1
        rw [hB] at SE hle2
        clear EN h hA hB e8 e9
        simp only [secV, encB, List.map_cons, List.map_nil] at EN2 G1 G2
        go_wp2_with fail
        with_reducible refine EN2.out.mono ?_
        rintro e w4 ⟨rfl, k4⟩
        have K4 := Lib.hid (K.out.trans k4)
        clear k4 EN2
        go_upto_region 6 with fail
        obtain ⟨y, hy⟩ : ∃ y, w4.heap.size = y := ⟨_, rfl⟩
        rw [hy]
        refine cutWl (fun wn => Fr wn [(y, #[.int .u8 (b0 : Nat), .int .u8 (b1 : Nat), .int .u8 (b2 : Nat), .int .u8 (b3 : Nat), .int .u8 (b4 : Nat), .int .u8 (b5 : Nat), .int .u8 (b6 : Nat), .int .u8 (b7 : Nat)], 388), (y + 1, #[.int .u8 (d0 : Nat), .int .u8 (d1 : Nat), .int .u8 (d2 : Nat), .int .u8 (d3 : Nat), .int .u8 (d4 : Nat), .int .u8 (d5 : Nat), .int .u8 (d6 : Nat), .int .u8 (d7 : Nat)], 388)] ∧ Same w wn) ⟨⟨(Blk.new' _ _ _ hy.symm).alloc _, Blk.new' _ _ _ (by simp [hy]), trivial⟩, (K4.out.alloc _).alloc _⟩ ?_
        rintro w5 ⟨hf5, k5⟩
        have F5 := Lib.hid hf5
        have K5 := Lib.hid k5
        clear hf5 k5 hy K4 c0
        have p0 := fun dq os i => cell_blk (F5.out.1.kept (Kept.of_below (below_regrown w5 dq os)) (fun h => h)) i
        have p1 := fun dq os i => cell_blk (F5.out.2.1.kept (Kept.of_below (below_regrown w5 dq os)) (fun h => h)) i
        have C1 := Lib.hid (fun d os => Calls.quiet_samK (G1.out (grow (redrawn w5 d) os)))
        have C2 := Lib.hid (fun d os => Calls.quiet_samK (G2.out (grow (redrawn w5 d) os)))
        clear G1 G2
        go_wp2_with fail
        refine wp_region_quiet_below (by kernel_rfl) (by kernel_rfl) ?_
        repeat (first | go_big_quiet_step (first | with_reducible exact C1.out _ _ | with_reducible exact C2.out _ _) | quiet_step (first | with_reducible exact C1.out _ _ | with_reducible exact C2.out _ _))
        refine wpQuiet_nil ?_
        intro _ hw'
        obtain ⟨⟨dq, osq⟩, hw''⟩ := hw'
        subst hw''
        have kq := Lib.hid (show Same w5 _ from Kept.of_below (below_regrown w5 dq osq))
        have KQ := Lib.hid (K5.out.trans kq.out)
        clear kq
        go_wp2_with fail
        go_roundw
        case rel => exact ⟨i + 1, by go_num, by omega, by rw [TK.out, SE.out]; congr 1; omega, KQ.out⟩
        case measure => simp [intOf]; omega
      · have EN2 := Lib.hid (EN.out.mono (R' := fun e w' => e = .returned (.tuple #[secV (List.replicate 8 0), secV (List.replicate 8 0), .bool false]) ∧ Same wr w') (fun e w' q => by unfold EndsPost at q; rw [if_neg h, if_neg h, decide_eq_false h] at q; exact q))
        have SE := Lib.hid (show seen1 N b = N from by unfold seen1; rw [if_neg h])
        clear EN h
        rw [show secV (List.replicate 8 0) = .agg #[.int .u8 0, .int .u8 0, .int .u8 0, .int .u8 0, .int .u8 0, .int .u8 0, .int .u8 0, .int .u8 0] from rfl] at EN2
        go_wp2_with fail
        with_reducible refine EN2.out.mono ?_
        rintro e w4 ⟨rfl, k4⟩
        have K5 := Lib.hid (((K.out.trans k4).alloc (.cells #[.int .u8 0, .int .u8 0, .int .u8 0, .int .u8 0, .int .u8 0, .int .u8 0, .int .u8 0, .int .u8 0] 388)).alloc (.cells #[.int .u8 0, .int .u8 0, .int .u8 0, .int .u8 0, .int .u8 0, .int .u8 0, .int .u8 0, .int .u8 0] 388))
        clear k4 EN2
        go_wp2_with fail
        go_roundw
        case rel => exact ⟨i + 1, by go_num, by omega, by rw [TK.out, SE.out], K5.out⟩
        case measure => simp [intOf]; omega
    · have hin : i = n := by omega
      have g1 : ¬ (i : Int) < (n : Int) := by omega
      have e1 : bs.take i = bs := List.take_of_length_le (by have := HN.out; omega)
      rw [e1]
      go_wp2_with fail
      go_ret
      exact ⟨rfl, K.out⟩
end Go.Proofs.YtlkgdpdnhnakoaaGreatDoor

namespace Go.Proofs.YtlkgdpdnhnakoaaGreatDoor
open Go.RowKit Go.Sort Go.Shelf

theorem u8Info : (Tryz.prog.info? 5).map (fun i => (i.zero, i.size, i.bytes)) = some (some (.int .u8 0), 1, 1) := by kernel_rfl
theorem nats_addr {w : World} {a : Addr} {xs : List Nat} (h : NatsAt w .u8 (some a) xs) : ∀ (j : Nat) (u : Value), (xs.map fun x : Nat => Value.int .u8 ((x : Nat) : Int))[j]? = some u → w.cell? (a.add j) = some u := by
  intro j u hu
  rw [List.getElem?_map] at hu
  obtain ⟨x, hx, rfl⟩ := Option.map_eq_some_iff.1 hu
  rcases h with h0 | ⟨b, off, e, _, hc⟩
  · rw [h0] at hx; cases hx
  · cases e
    have := hc j x hx
    unfold Addr.add
    split
    · subst j; simpa using this
    · exact this
/-- append that must grow: what is told is new. -/
theorem run_appendG (w : World) (ty : TypeId) (b : Addr) (n cap : Nat) (xs : List Nat) (hn : n = xs.length) (hx : NatsAt w .u8 (some b) xs) (a : Addr) (m c : Nat) (ys : List Nat) (hm : m = ys.length) (hy : NatsAt w .u8 (some a) ys) (hg : cap < n + m) (hl : n + m ≤ 100000) :
    ∃ v' w', (Builtin.append_ #[56, 56] ty #[.slice (some b) n cap, .slice (some a) m c]).run Tryz.prog w = .ok v' w' ∧ OwnN w' w.heap.size 5 .u8 v' (xs ++ ys) ∧ Same w w' := by
  obtain ⟨i, hi, hz, hsz, hby⟩ := info_parts u8Info
  subst hn hm
  obtain ⟨v', w', h1, h2, h3⟩ := run_append_arg_grows (P := Tryz.prog) w 56 ty 5 i (.int .u8 0) 1 1 Tryz.underlying56 hi hz hsz hby rfl (by decide) b xs.length cap (xs.map fun x : Nat => Value.int .u8 ((x : Nat) : Int)) (by simp) (nats_addr hx) a ys.length c (ys.map fun x : Nat => Value.int .u8 ((x : Nat) : Int)) (by simp) (nats_addr hy) hg (by unfold maxLen; omega) (by omega)
  refine ⟨v', w', h1, ?_, ⟨h3.os, h3.tape, h3.output, h3.size, fun k hk _ => h3.block k hk (by simp)⟩⟩
  unfold OwnN
  rw [List.length_append, List.map_append]
  exact h2
/-- What has elements, and is one's own, begins a block. -/
theorem OwnN.begins {w : World} {base : Nat} {e : TypeId} {k : IntKind} {v : Value} {xs : List Nat} (h : OwnN w base e k v xs) (hx : xs ≠ []) : ∃ g c, v = .slice (some ⟨g, 0, none⟩) xs.length c ∧ base ≤ g ∧ g < w.heap.size ∧ xs.length ≤ c ∧ NatsAt w k (some ⟨g, 0, none⟩) xs := by
  have h0 := h
  rcases h.2 with ⟨rfl, h1⟩ | ⟨g, cap, cur, rfl, h1, h2, h3, h4, h5, h6⟩
  · exact absurd (List.eq_nil_of_length_eq_zero h1) hx
  · exact ⟨g, cap, rfl, h1, lt_of_block h2, h3, h0.nats⟩
theorem RowsOwn.base {w : World} {base base' : Nat} {v : Value} {bs : List (List Nat)} (h : RowsOwn w base v bs) (hb : base' ≤ base) : RowsOwn w base' v bs := by
  obtain ⟨rs, h1, h2, h3⟩ := h
  exact ⟨rs, h1.rebase hb, h2, fun i r b hr hx => ⟨(h3 i r b hr hx).1, fun y hy => ⟨Nat.le_trans hb ((h3 i r b hr hx).2 y hy).1, ((h3 i r b hr hx).2 y hy).2⟩⟩⟩
theorem RowsOwn.below {w : World} {base : Nat} {v : Value} {bs : List (List Nat)} (h : RowsOwn w base v bs) {g : Nat} (hg : w.heap.size ≤ g) : v.ownBlock ≠ some g := by
  obtain ⟨rs, h1, -, -⟩ := h
  intro q
  have := (h1.far g q).2
  omega
/-- What Put tells. -/
def SputPost (w : World) (g : Int) (b : List Nat) (e : Ending) (w' : World) : Prop := (∃ v, e = .returned (.tuple #[v, .int .i64 ((putSlE g b.length : Nat) : Int)]) ∧ RowsOwn w' w.heap.size v (if putSlE g b.length = 0 then putSl g.toNat b else [])) ∧ Same w w'
theorem put_steps (x y n : Nat) : ((List.replicate (2 + n) 0).set 0 x).set 1 y = [x, y] ++ List.replicate n 0 := by
  rw [← List.replicate_append_replicate]
  rfl
theorem put_copy (b : List Nat) (x y n : Nat) : ([x, y] ++ List.replicate n 0).take 2 ++ b ++ ([x, y] ++ List.replicate n 0).drop (2 + b.length) = x :: y :: (b ++ List.replicate (n - b.length) 0) := by
  rw [List.take_append_of_le_length (by simp), List.drop_append]
  simp [List.drop_replicate]
section
attribute [local go_sem ↓] exec_cpy semAt_cpy exec_app semAt_app
attribute [local go_sem] isCpy_lit isApp_lit appA appX
set_option maxRecDepth 100000 in
set_option maxHeartbeats 3200000 in
theorem sn_put_ok (G : Nat) (hG1 : 1 ≤ G) (hG : G ≤ 1099511627776) (a : Option Addr) (c : Nat) (b : List Nat) (hl : b.length ≤ 954) (hb : Bts b) (w : World) (hat : NatsAt w .u8 a b) (SP : Ending → World → Prop)
    (hfin : ∀ W v, Same w W → RowsOwn W w.heap.size v (putSl G b) → SP (.returned (.tuple #[v, .int .i64 0])) W) :
    Calls Tryz.prog 173 #[.int .i64 (G : Nat), .slice a b.length c] w SP := by
  obtain ⟨i0, hi, hz0, hz1, hz2⟩ := info_parts u8Info
  obtain ⟨w1, hrun, hown, hgr⟩ := run_make_full (P := Tryz.prog) w w.heap.size 56 5 i0 (.int .u8 0) 1 Tryz.underlying56 hi hz0 hz1 .i64 .i64 956 (by rw [hz2]; decide) (by decide) (Nat.le_refl _)
  have ho := OwnN.made hown
  have hmk : (Instr.makeSlice 56 (.int .i64 956) (.int .i64 956)).run Tryz.prog w = .ok (.slice (some ⟨w.heap.size, 0, none⟩) 956 956) w1 := hrun
  have K1 : Same w w1 := ⟨hgr.os, hgr.tape, hgr.output, hgr.size, fun k hk _ => hgr.block k hk (by simp)⟩
  have c0 := ho.cell (j := 0) (x := 0) List.length_replicate (by rw [List.getElem?_replicate]; simp)
  have c1 := ho.cell (j := 1) (x := 0) List.length_replicate (by rw [List.getElem?_replicate]; simp)
  have f0 := fun i => ho.free List.length_replicate i
  have e4 : (b.length : Int) / 256 = ((b.length / 256 : Nat) : Int) := by omega
  have e5 : (b.length : Int) % 256 = ((b.length % 256 : Nat) : Int) := by omega
  have o5 : OwnN ((w1.setCell ⟨w.heap.size, 0, none⟩ (.int .u8 ((b.length : Int) / 256))).setCell ⟨w.heap.size, 1, none⟩ (.int .u8 ((b.length : Int) % 256))) w.heap.size 5 .u8 (.slice (some ⟨w.heap.size, 0, none⟩) 956 956) ([b.length / 256, b.length % 256] ++ List.replicate 954 0) := by
    rw [e4, e5, ← put_steps]
    exact (ho.set List.length_replicate 0 _).set (by rw [List.length_set]; exact List.length_replicate) 1 _
  have k5 : Kept (fun j => j = w.heap.size) w1 ((w1.setCell ⟨w.heap.size, 0, none⟩ (.int .u8 ((b.length : Int) / 256))).setCell ⟨w.heap.size, 1, none⟩ (.int .u8 ((b.length : Int) % 256))) := ((Kept.refl _ _).setG _ _).setG _ _
  have K5 : Same w ((w1.setCell ⟨w.heap.size, 0, none⟩ (.int .u8 ((b.length : Int) / 256))).setCell ⟨w.heap.size, 1, none⟩ (.int .u8 ((b.length : Int) % 256))) := K1.step k5 (fun i hi q => by omega)
  obtain ⟨w3, hcp, o3, k3⟩ := run_copyN (P := Tryz.prog) _ 56 56 3 5 .u8 Tryz.underlying56 (by kernel_rfl) w.heap.size w.heap.size 2 956 956 954 954 _ o5 (by simp) a b.length c b rfl (hat.same K5) (by omega) hl
  rw [put_copy] at o3
  obtain ⟨aok, aV, aW⟩ := cpy_of hcp
  have K3 := Lib.hid (K5.step k3 (fun i hi q => by omega))
  have O3 := Lib.hid (show OwnN w3 w.heap.size 5 .u8 (.slice (some ⟨w.heap.size, 0, none⟩) 956 956) (bodyAll b) from o3)
  have hgl := (ho.lt).2
  have HF := Lib.hid hfin
  have HGG := Lib.hid (show 1 ≤ G ∧ G ≤ 1099511627776 from ⟨hG1, hG⟩)
  have g1 : ¬ (G : Int) < 1 := by omega
  have g2 : ¬ (1099511627776 : Int) < (G : Int) := by omega
  have g3 : ¬ (954 : Int) < (b.length : Int) := by omega
  have HL := Lib.hid hl
  have HBB := Lib.hid hb
  clear hi hz0 hz1 hz2 hgr hown ho hrun hcp o3 k3 o5 k5 K5 K1 e4 e5 hfin hG1 hG hat hl hb
  go_enter Tryz.func173, Tryz.ntmps173
  go_wp2_with fail
  with_reducible refine (sn_of G (by have := HGG.out; omega) w3).mono ?_
  rintro e w4 ⟨rfl, k4⟩
  obtain ⟨b0, b1, b2, b3, b4, b5, b6, b7, e8⟩ := list8 (stmp_len G)
  have E8 := Lib.hid e8
  rw [e8]
  have K4 := Lib.hid (K3.out.trans k4)
  have O4 := Lib.hid (O3.out.same k4)
  clear k4 K3 O3 e8 aok aV aW c0 c1 f0 hmk
  simp only [secV, encB, List.map_cons, List.map_nil]
  go_upto_region 9 with fail
  obtain ⟨y, hy⟩ : ∃ y, w4.heap.size = y := ⟨_, rfl⟩
  obtain ⟨ga, hga⟩ : ∃ ga, w.heap.size = ga := ⟨_, rfl⟩
  rw [hy, hga]
  refine cutWl (fun wn => Blk wn y #[.int .u8 (b0 : Nat), .int .u8 (b1 : Nat), .int .u8 (b2 : Nat), .int .u8 (b3 : Nat), .int .u8 (b4 : Nat), .int .u8 (b5 : Nat), .int .u8 (b6 : Nat), .int .u8 (b7 : Nat)] 388 ∧ OwnN wn ga 5 .u8 (.slice (some ⟨ga, 0, none⟩) 956 956) (bodyAll b) ∧ Same w wn) ⟨Blk.new' _ _ _ hy.symm, by have := O4.out.same ((Kept.refl _ w4).alloc (.cells #[.int .u8 (b0 : Nat), .int .u8 (b1 : Nat), .int .u8 (b2 : Nat), .int .u8 (b3 : Nat), .int .u8 (b4 : Nat), .int .u8 (b5 : Nat), .int .u8 (b6 : Nat), .int .u8 (b7 : Nat)] 388)); rw [hga] at this; exact this, K4.out.alloc _⟩ ?_
  rintro w7 ⟨hb7, ho7, k7⟩
  have SB := Lib.hid (show NatsAt w7 .u8 (some ⟨y, 0, none⟩) (stmp G) from by
    rw [E8.out]
    refine .inr ⟨y, 0, rfl, hb7.lt, fun i x hx => ?_⟩
    rw [Nat.zero_add, cell_blk hb7 i]
    have h1 := congrArg (Option.map fun z : Nat => Value.int .u8 (z : Nat)) hx
    rw [← List.getElem?_map] at h1
    rw [← Array.getElem?_toList]
    exact h1)
  have YL := Lib.hid hb7.lt
  have AB := Lib.hid ho7.nats
  have GL := Lib.hid (ho7.lt).2
  have K7 := Lib.hid k7
  have HGA := Lib.hid hga
  clear hb7 ho7 k7 O4 K4 E8 hy hga
  go_wp2_with fail
  go_loopw [8, 40] (fun v t wr => ∃ (i : Nat), t = .int .i64 i ∧ i ≤ 4 ∧ RowsOwn wr w7.heap.size v ((List.range i).map (slotSec G b)) ∧ Kept (fun j => w7.heap.size ≤ j) w7 wr) (fun _ t _ => 4 - (intOf t).toNat)
  case atStart => exact ⟨0, rfl, by omega, RowsOwn.nil _ _, Kept.refl _ _⟩
  case round =>
    obtain ⟨i, rfl, hi, hr, hk⟩ := hrel
    have K := Lib.hid hk
    have R := Lib.hid hr
    have hsz := hk.size
    clear hk hr
    by_cases hgo : i < 4
    · -- the stamp and the number
      have hgi : (i : Int) < 4 := by omega
      have hyl := YL.out
      have hgal := GL.out
      have kA : Same wr (wr.alloc (.cells #[.int .u8 (i : Nat)] 5)) := (Kept.refl _ wr).alloc _
      have sA : NatsAt (wr.alloc (.cells #[.int .u8 (i : Nat)] 5)) .u8 (some ⟨y, 0, none⟩) (stmp G) := (SB.out.kept K.out (fun x hx => by cases hx; dsimp only; omega)).same kA
      have oneA : NatsAt (wr.alloc (.cells #[.int .u8 (i : Nat)] 5)) .u8 (some ⟨wr.heap.size, 0, none⟩) [i] := .inr ⟨wr.heap.size, 0, rfl, by simp, fun j x hx => by
        have hj : j = 0 := by
          rcases Nat.eq_zero_or_pos j with q | q
          · exact q
          · rw [List.getElem?_eq_none (by simp; omega)] at hx; cases hx
        subst hj
        simp at hx
        subst hx
        exact cell_blk (Blk.new wr _ _) 0⟩
      obtain ⟨v1, x1, hr1, o1, k1⟩ := run_appendG (wr.alloc (.cells #[.int .u8 (i : Nat)] 5)) 56 ⟨y, 0, none⟩ 8 8 (stmp G) (stmp_len G).symm sA ⟨wr.heap.size, 0, none⟩ 1 1 [i] rfl oneA (by omega) (by omega)
      have kw1 : Same wr x1 := kA.trans k1
      have o1 := o1.base (show wr.heap.size ≤ (wr.alloc (.cells #[.int .u8 (i : Nat)] 5)).heap.size by simp)
      obtain ⟨aok1, aV1, aW1⟩ := app_of hr1
      have hpl := partSl_len HL.out (i := i) (by omega)
      have pA : NatsAt x1 .u8 (some ⟨ga, 0 + i * 239, none⟩) (partSl b i) := (((AB.out.kept K.out (fun x hx => by cases hx; dsimp only; omega)).same kw1).drop (i * 239)).take 239
      rw [Nat.zero_add] at pA
      obtain ⟨v2, x2, hr2, o2, g2', -⟩ := run_appendN (P := Tryz.prog) x1 56 56 wr.heap.size 5 .u8 1 Tryz.underlying56 u8Info (by decide) v1 (stmp G ++ [i]) o1 (some ⟨ga, i * 239, none⟩) ((i + 1) * 239 - i * 239) (956 - i * 239) (partSl b i) (by rw [hpl]; omega) pA (fun h => by cases h) (by rw [List.length_append, stmp_len, hpl]; simp) kw1.size
      have kw2 : Same wr x2 := kw1.grown g2' (fun k hk hlt => by have := (World.ownsRow.lt o1 k hk).1; omega)
      obtain ⟨aok2, aV2, aW2⟩ := app_of hr2
      have sB : NatsAt x2 .u8 (some ⟨y, 0, none⟩) (stmp G) := (SB.out.kept K.out (fun x hx => by cases hx; dsimp only; omega)).same kw2
      obtain ⟨v3, x3, hr3, o3, g3', -⟩ := run_appendN (P := Tryz.prog) x2 56 56 wr.heap.size 5 .u8 1 Tryz.underlying56 u8Info (by decide) v2 (stmp G ++ [i] ++ partSl b i) o2 (some ⟨y, 0, none⟩) 8 8 (stmp G) (stmp_len G).symm sB (fun h => by cases h) (by simp [stmp_len, hpl]) kw2.size
      have kw3 : Same wr x3 := kw2.grown g3' (fun k hk hlt => by have := (World.ownsRow.lt o2 k hk).1; omega)
      obtain ⟨aok3, aV3, aW3⟩ := app_of hr3
      obtain ⟨g9, c9, hv9, hg9, hg9l, hc9, hn9⟩ := o3.begins (by simp)
      have h256 : (stmp G ++ [i] ++ partSl b i ++ stmp G).length = 256 := slotSec_len HL.out G (by omega)
      rw [h256] at hv9 hc9
      subst hv9
      obtain ⟨v', w', hr4, ho4, hk4⟩ := rows_append (R.out.same kw3) (by have := kw3.size; omega) (by simp; omega) g9 256 c9 (slotSec G b i) h256.symm hc9 (by omega) hg9l (R.out.below hg9) hn9
      obtain ⟨aok4, aV4, aW4⟩ := app_of hr4
      have KF := Lib.hid ((K.out.trans (kw3.mono (fun _ _ q => q.elim))).trans hk4)
      have RF := Lib.hid (show RowsOwn w' w7.heap.size v' ((List.range (i + 1)).map (slotSec G b)) from by rw [List.range_succ, List.map_append]; exact ho4)
      clear hr1 hr2 hr3 hr4 o1 o2 o3 g2' g3' kw1 kw2 kw3 k1 kA sA sB pA oneA hn9 ho4 hk4 hpl
      go_wp2_with fail
      exact ⟨⟨i + 1, by go_num, by omega, RF.out, KF.out⟩, by simp [intOf]; omega⟩
    · have h4 : i = 4 := by omega
      subst h4
      have FI := Lib.hid (fun (q : RowsOwn wr w7.heap.size u8 (putSl G b)) => HF.out wr u8 (K7.out.step K.out (fun j hj z => by have := K7.out.size; omega)) (q.base (K7.out.size)))
      clear hi hgo
      go_wp2_with fail
      exact FI.out R.out
end
set_option maxRecDepth 100000 in
set_option maxHeartbeats 1600000 in
theorem sn_put (g : Int) (a : Option Addr) (n c : Nat) (b : List Nat) (hn : n = b.length) (hb : Bts b) (w : World) (hat : NatsAt w .u8 a b) :
    Calls Tryz.prog 173 #[.int .i64 g, .slice a n c] w (SputPost w g b) := by
  obtain ⟨SP, hSP⟩ : ∃ SP, SputPost w g b = SP := ⟨_, rfl⟩
  rw [hSP]
  have HSP := Lib.hid hSP
  clear hSP
  by_cases h1 : g < 1 ∨ 1099511627776 < g
  · have FIN := Lib.hid (fun W (k : Same w W) => show SP (.returned (.tuple #[.slice none 0 0, .int .i64 9])) W from by
      rw [← HSP.out]
      have e1 : putSlE g b.length = 9 := by unfold putSlE; rw [if_pos h1]
      unfold SputPost
      rw [e1]
      exact ⟨⟨_, rfl, RowsOwn.nil _ _⟩, k⟩)
    clear hn hb hat
    rcases h1 with h1 | h1
    · go_enter Tryz.func173, Tryz.ntmps173
      go_wp2_with fail
      exact FIN.out _ (Kept.refl _ _)
    · have g1 : ¬ g < 1 := by omega
      go_enter Tryz.func173, Tryz.ntmps173
      go_wp2_with fail
      exact FIN.out _ (Kept.refl _ _)
  · have g1 : ¬ g < 1 := by omega
    have g2 : ¬ 1099511627776 < g := by omega
    by_cases h2 : 954 < n
    · have FIN := Lib.hid (fun W (k : Same w W) => show SP (.returned (.tuple #[.slice none 0 0, .int .i64 5])) W from by
        rw [← HSP.out]
        have e1 : putSlE g b.length = 5 := by unfold putSlE; rw [if_neg h1, if_pos (by omega)]
        unfold SputPost
        rw [e1]
        exact ⟨⟨_, rfl, RowsOwn.nil _ _⟩, k⟩)
      have g3 : (954 : Int) < (n : Int) := by omega
      clear hn hb hat h1 h2
      go_enter Tryz.func173, Tryz.ntmps173
      go_wp2_with fail
      exact FIN.out _ (Kept.refl _ _)
    · have FIN := Lib.hid (fun W v (k : Same w W) (hr : RowsOwn W w.heap.size v (putSl g.toNat b)) => show SP (.returned (.tuple #[v, .int .i64 0])) W from by
        rw [← HSP.out]
        have e1 : putSlE g b.length = 0 := by unfold putSlE; rw [if_neg h1, if_neg (by omega)]
        unfold SputPost
        rw [e1, if_pos rfl]
        exact ⟨⟨_, rfl, hr⟩, k⟩)
      obtain ⟨G, rfl⟩ : ∃ G : Nat, g = (G : Int) := ⟨g.toNat, by omega⟩
      rw [Int.toNat_natCast] at FIN
      have hG : G ≤ 1099511627776 := by omega
      have hn954 : n ≤ 954 := by omega
      have g3 : ¬ (954 : Int) < (n : Int) := by omega
      subst hn
      exact sn_put_ok G (by omega) hG a c b hn954 hb w hat SP (fun W v k hr => FIN.out W v k hr)
end Go.Proofs.YtlkgdpdnhnakoaaGreatDoor

namespace Go.Proofs.YtlkgdpdnhnakoaaGreatDoor
open Go.RowKit Go.Sort Go.Shelf

theorem putSl_bts {g : Nat} {b : List Nat} (hl : b.length ≤ 954) (hb : Bts b) : ∀ x ∈ putSl g b, Bts x := by
  intro x hx
  unfold putSl at hx
  obtain ⟨i, hi, rfl⟩ := List.mem_map.1 hx
  exact slotSec_bts hl hb g (by simpa using hi)
theorem RowsOwn.rowsAt {w : World} {base : Nat} {v : Value} {bs : List (List Nat)} (h : RowsOwn w base v bs) : ∃ a c, v = .slice a bs.length c ∧ RowsAt w a bs := by
  obtain ⟨rs, h1, h2, h3⟩ := h
  obtain ⟨a, l, c, rfl, hl, -, hat, -⟩ := h1.rd
  have := hl.out
  exact ⟨a, c, by rw [this, h2], rs, hat.out, h2, fun i r b hr hb => (h3 i r b hr hb).1⟩
section
attribute [local go_sem ↓] exec_app semAt_app
attribute [local go_sem] isApp_lit appA appX
end
end Go.Proofs.YtlkgdpdnhnakoaaGreatDoor
