/- GFm: Find, GBmC, Mix. -/
import Derived.Test.YtlkgdpdnhnakoaaGreatDoorGBx
import Derived.Test.YtlkgdpdnhnakoaaGreatDoorBmBits
import Derived.Shelf.Spec.TrailingZeros
import Derived.Test.YtlkgdpdnhnakoaaGreatDoorGBmA
import Derived.Lib.MinMax
import Derived.Deep.RegionHeld3
namespace Go.Proofs.YtlkgdpdnhnakoaaGreatDoor
/-- How many of the numbers below n are in. -/
def cnt (ws : List Nat) : Nat → Nat
  | 0 => 0
  | n + 1 => cnt ws n + (bitN ws n).toNat
theorem bitN_at (ws : List Nat) (i j : Nat) (hj : j < 64) : bitN ws (64 * i + j) = (ws.getD i 0).testBit j := by
  unfold bitN
  rw [show (64 * i + j) / 64 = i from by omega, show (64 * i + j) % 64 = j from by omega]
/-- The lowest bit of a word that is not zero. -/
theorem ctz_low (x : Nat) (h0 : x ≠ 0) (h : x < 18446744073709551616) : Lib.ctz 64 x < 64 ∧ x.testBit (Lib.ctz 64 x) = true ∧ (∀ j, j < Lib.ctz 64 x → x.testBit j = false) ∧
    ∀ j, (x &&& (x - 1)).testBit j = (x.testBit j && decide (j ≠ Lib.ctz 64 x)) := by
  obtain ⟨m, hm, hk⟩ := Lib.ctzFrom_spec 64 x (by omega) h
  have e : Lib.ctz 64 x = Lib.ctzFrom 64 x := by simp [Lib.ctz, h0]
  rw [e]
  generalize Lib.ctzFrom 64 x = c at *
  have t : ∀ j, x.testBit j = (decide (c ≤ j) && (2 * m + 1).testBit (j - c)) := fun j => by rw [hm, Nat.mul_comm, Nat.testBit_mul_two_pow]
  have hp : 0 < 2 ^ c := Nat.two_pow_pos c
  have s : x - 1 = 2 ^ c * (2 * m) + (2 ^ c - 1) := by rw [hm, Nat.mul_add]; omega
  refine ⟨hk, by rw [t]; simp [Nat.testBit_zero], fun j hj => by rw [t]; simp; omega, ?_⟩
  intro j
  rw [Nat.testBit_and, s, Nat.testBit_two_pow_mul_add _ (by omega), t j]
  by_cases hj : j < c
  · have : ¬ c ≤ j := by omega
    simp [this]
  · rw [if_neg hj]
    have hc : c ≤ j := by omega
    by_cases hjc : j = c
    · subst hjc; simp [Nat.testBit_zero]
    · obtain ⟨d, rfl⟩ : ∃ d, j = c + (d + 1) := ⟨j - c - 1, by omega⟩
      have e3 : c + (d + 1) - c = d + 1 := by omega
      rw [e3, Nat.testBit_succ, Nat.testBit_succ, show (2 * m + 1) / 2 = m from by omega, show 2 * m / 2 = m from by omega]
      simp
/-- What Next may tell. -/
def NextSpec (s : Int) (ws : List Nat) (f : Int) (on : Bool) : Option Nat → Prop
  | some n => mapOK s ws = true ∧ f ≤ n ∧ (n : Int) < s ∧ bitN ws n = on ∧ ∀ j : Nat, f ≤ j → j < n → bitN ws j = !on
  | none => mapOK s ws = true → ∀ j : Nat, f ≤ j → (j : Int) < s → bitN ws j = !on
theorem next_one {s : Int} {ws : List Nat} {f : Int} {on : Bool} {a b : Option Nat} (ha : NextSpec s ws f on a) (hb : NextSpec s ws f on b) : a = b := by
  cases a with
  | none => cases b with
    | none => rfl
    | some n => obtain ⟨h0, h1, h2, h3, _⟩ := hb; have := ha h0 n h1 h2; rw [h3] at this; cases on <;> cases this
  | some m => cases b with
    | none => obtain ⟨h0, h1, h2, h3, _⟩ := ha; have := hb h0 m h1 h2; rw [h3] at this; cases on <;> cases this
    | some n =>
      obtain ⟨_, h1, h2, h3, h4⟩ := ha
      obtain ⟨_, k1, k2, k3, k4⟩ := hb
      by_cases h : m < n
      · have := k4 m h1 h; rw [h3] at this; cases on <;> cases this
      · by_cases h' : n < m
        · have := h4 n k1 h'; rw [k3] at this; cases on <;> cases this
        · rw [show m = n from by omega]
/-- What Rank tells. -/
def rankN (s : Int) (ws : List Nat) (n : Int) : Nat := if mapOK s ws then cnt ws (min n s).toNat else 0
end Go.Proofs.YtlkgdpdnhnakoaaGreatDoor
namespace Go.Proofs.YtlkgdpdnhnakoaaGreatDoor
open Go.RowKit
theorem Kept.weak {fp : Nat → Prop} {w w' : World} (h : Same w w') : Kept fp w w' := h.mono fun _ _ h => h.elim
set_option maxRecDepth 100000 in
theorem mix_at (s : Int) (a : Option Addr) (cap : Nat) (ws : List Nat) (i : Nat) (w : World) (hat : NatsAt w .u64 a ws) :
    Calls Tryz.prog 471 #[mapV s a ws.length cap, .int .i64 (i : Nat)] w fun e w' => e = .returned (.int .u64 ((ws.getD i 0 : Nat) : Int)) ∧ Same w w' := by
  by_cases hi : i < ws.length
  · obtain ⟨b, off, x, rfl, hb, hx, hc⟩ := hat.at hi
    have hx' : ws.getD i 0 = x := by rw [List.getD, hx]; rfl
    rw [hx']
    clear hx hx' hat
    generalize ws.length = l at *
    have hc2 := ((Kept.refl (fun _ => False) w).alloc (.cells #[.int .i64 s, .slice (some ⟨b, off, none⟩) l cap] 124)).cell (p := ⟨b, off + i, none⟩) hb (fun h => h)
    rw [hc] at hc2
    go_enter Tryz.func471, Tryz.ntmps471
    go_wp2_with fail
    go_ret
    exact ⟨rfl, (Kept.refl _ w).alloc _⟩
  · have hx' : ws.getD i 0 = 0 := by rw [List.getD, List.getElem?_eq_none (by omega)]; rfl
    rw [hx']
    clear hx' hat
    generalize ws.length = l at *
    go_enter Tryz.func471, Tryz.ntmps471
    go_wp2_with fail
    go_ret
    exact ⟨rfl, (Kept.refl _ w).alloc _⟩
/-- A function of two words. -/
def WordFn (f : FuncId) (op : Nat → Nat → Nat) : Prop := ∀ (x y : Nat) (w : World), x < 18446744073709551616 → y < 18446744073709551616 →
  Calls Tryz.prog f #[.int .u64 x, .int .u64 y] w fun e w' => e = .returned (.int .u64 ((op x y : Nat) : Int)) ∧ w = w'
set_option maxRecDepth 100000 in
theorem word_or : WordFn 445 (· ||| ·) := by
  intro x y w hx hy
  have e := u64_or_nat x y hx hy
  go_enter Tryz.func445, Tryz.ntmps445
  go_wp2_with (rw [e])
  go_ret
  exact ⟨by rw [← e]; rfl, rfl⟩
/-- The words of a mix, the first k of them. -/
def mixK (op : Nat → Nat → Nat) (xs ys : List Nat) (l k : Nat) : List Nat := (List.range l).map fun i => if i < k then op (xs.getD i 0) (ys.getD i 0) else 0
theorem mixK_len (op : Nat → Nat → Nat) (xs ys : List Nat) (l k : Nat) : (mixK op xs ys l k).length = l := by simp [mixK]
theorem mixK_zero (op : Nat → Nat → Nat) (xs ys : List Nat) (l : Nat) : mixK op xs ys l 0 = List.replicate l 0 := by
  apply List.ext_getElem?
  intro i
  simp [mixK, List.getElem?_replicate]
  by_cases h : i < l <;> simp [h]
theorem mixK_at (op : Nat → Nat → Nat) (xs ys : List Nat) (l k : Nat) (h : k < l) : (mixK op xs ys l k)[k]? = some 0 := by
  simp only [mixK, List.getElem?_map, List.getElem?_range h]
  simp
theorem mixK_step (op : Nat → Nat → Nat) (xs ys : List Nat) (l k : Nat) : (mixK op xs ys l k).set k (op (xs.getD k 0) (ys.getD k 0)) = mixK op xs ys l (k + 1) := by
  apply List.ext_getElem?
  intro i
  rw [List.getElem?_set]
  simp only [mixK, List.getElem?_map, List.length_map, List.length_range]
  by_cases h : i < l
  · rw [List.getElem?_range h]
    by_cases hk : k = i
    · subst hk; simp [h]
    · rw [if_neg hk]
      have : (i < k + 1) ↔ i < k := by omega
      simp [this]
  · have h2 : (List.range l)[i]? = none := List.getElem?_eq_none (by simpa using Nat.le_of_not_lt h)
    rw [h2]
    by_cases hk : k = i
    · subst hk; simp [h]
    · rw [if_neg hk]; rfl
set_option maxRecDepth 100000 in
set_option maxHeartbeats 1600000 in
theorem bm_mix_ok (fw : FuncId) (op : Nat → Nat → Nat) (hfw : fw = 445 ∨ fw = 445) (hop : WordFn fw op) (s t m : Nat) (a b : Option Addr) (ca cb : Nat) (xs ys : List Nat) (w : World) (hx64 : Words xs) (hy64 : Words ys) (hmx : mapOK s xs = true) (hmy : mapOK t ys = true)
    (hm : max (s : Int) (t : Int) = (m : Int)) (hm4 : m ≤ 4096) (hx : NatsAt w .u64 a xs) (hy : NatsAt w .u64 b ys) :
    Calls Tryz.prog 444 #[mapV s a xs.length ca, mapV t b ys.length cb, .func (.func fw) #[] #[]] w fun e w' => ∃ g, e = .returned (mapV m (some ⟨g, 0, none⟩) ((m + 63) / 64) ((m + 63) / 64)) ∧
      OwnN w' w.heap.size 251 .u64 (.slice (some ⟨g, 0, none⟩) ((m + 63) / 64) ((m + 63) / 64)) (mixK op xs ys ((m + 63) / 64) ((m + 63) / 64)) ∧ Same w w' := by
  have CA := Lib.hid fun w' (h : NatsAt w' .u64 a xs) => (bm_check s a ca xs w' h).mono (R' := fun e w'' => e = .returned (.int .i64 0) ∧ Same w' w'') fun _ _ h => by rw [hmx] at h; exact h
  have CB := Lib.hid fun w' (h : NatsAt w' .u64 b ys) => (bm_check t b cb ys w' h).mono (R' := fun e w'' => e = .returned (.int .i64 0) ∧ Same w' w'') fun _ _ h => by rw [hmy] at h; exact h
  have NW := Lib.hid fun w' => bm_new_ok m w' hm4
  have AX := Lib.hid fun (i : Nat) w' (h : NatsAt w' .u64 a xs) => mix_at s a ca xs i w' h
  have AY := Lib.hid fun (i : Nat) w' (h : NatsAt w' .u64 b ys) => mix_at t b cb ys i w' h
  have HX := Lib.hid hx; have HY := Lib.hid hy
  have HOP := Lib.hid hop
  have X64 := Lib.hid hx64; have Y64 := Lib.hid hy64
  clear hx hy hop hmx hmy hx64 hy64
  have hL : (m + 63) / 64 ≤ 64 := by omega
  generalize (m + 63) / 64 = L at *
  generalize xs.length = l1 at *
  generalize ys.length = l2 at *
  go_enter Tryz.func444, Tryz.ntmps444
  go_wp2_with fail
  refine Calls.boxes3 ?_
  intro W g1 g2 g3 k1 hz
  refine (CA.out W (HX.out.same k1)).mono ?_
  rintro e w2 ⟨rfl, k2⟩
  have K2 := Lib.hid (k1.trans k2)
  have G1 := Lib.hid (g1.kept k2 (fun h => h))
  have G2 := Lib.hid (g2.kept k2 (fun h => h))
  have G3 := Lib.hid (g3.kept k2 (fun h => h))
  have r0 : w2.cell? ⟨w.heap.size + 1, 0, none⟩ = some (.int .i64 t) := G2.out.cell 0 rfl
  have r1 : w2.cell? ⟨w.heap.size + 1, 1, none⟩ = some (.slice b l2 cb) := G2.out.cell 1 rfl
  clear g1 g2 g3 k1 k2 hz CA
  go_wp2_with fail
  refine (CB.out w2 (HY.out.same K2.out)).mono ?_
  rintro e w3 ⟨rfl, k3⟩
  have K3 := Lib.hid (K2.out.trans k3)
  have F1 := Lib.hid (G1.out.kept k3 (fun h => h))
  have F2 := Lib.hid (G2.out.kept k3 (fun h => h))
  have F3 := Lib.hid (G3.out.kept k3 (fun h => h))
  have q0 : w3.cell? ⟨w.heap.size, 0, none⟩ = some (.int .i64 s) := F1.out.cell 0 rfl
  have q1 : w3.cell? ⟨w.heap.size + 1, 0, none⟩ = some (.int .i64 t) := F2.out.cell 0 rfl
  clear r0 r1 k3 CB K2 G1 G2 G3
  go_wp2_with fail
  refine (NW.out w3).mono ?_
  rintro e w4 ⟨g, rfl, ho, k4⟩
  have hgb := ho.lt
  have K4 := Lib.hid (K3.out.trans k4)
  have O4 : Hid (OwnN w4 w.heap.size 251 .u64 (.slice (some ⟨g, 0, none⟩) L L) (mixK op xs ys L 0)) := by
    show OwnN _ _ _ _ _ _
    rw [mixK_zero]
    exact ho.base K3.out.size
  have E1 := Lib.hid (F1.out.kept k4 (fun h => h))
  have E2 := Lib.hid (F2.out.kept k4 (fun h => h))
  have E3 := Lib.hid (F3.out.kept k4 (fun h => h))
  have hgl : w.heap.size + 1 + 1 < g := Nat.lt_of_lt_of_le F3.out.lt hgb.1
  have hg4 : g < w4.heap.size := hgb.2
  clear q0 q1 k4 K3 F1 F2 F3 ho NW hm hgb
  go_wp2_with fail
  go_loopw [10, 32] (fun x i wr => ∃ (k : Nat) (v : Value), k ≤ L ∧ x = v ∧ i = .int .i64 (k : Nat) ∧ Hid (OwnN wr w.heap.size 251 .u64 (.slice (some ⟨g, 0, none⟩) L L) (mixK op xs ys L k)) ∧
      Hid (Blk wr w4.heap.size #[.int .i64 m, .slice (some ⟨g, 0, none⟩) L L] 124) ∧ Hid (Blk wr w.heap.size #[.int .i64 s, .slice a l1 ca] 124) ∧
      Hid (Blk wr (w.heap.size + 1) #[.int .i64 t, .slice b l2 cb] 124) ∧ Hid (Blk wr (w.heap.size + 1 + 1) #[.int .i64 0, .slice none 0 0] 124) ∧ Hid (Same w wr)) (fun _ i _ => L - (intOf i).toNat)
  case atStart => exact ⟨0, _, Nat.zero_le _, rfl, rfl, O4.out.same ((Kept.refl _ w4).alloc _), Blk.new w4 _ _, E1.out.alloc _, E2.out.alloc _, E3.out.alloc _, K4.out.alloc _⟩
  case round =>
    obtain ⟨k, v, hk, rfl, rfl, ho, hb, h1, h2, h3, hs⟩ := hrel
    have q1 : wr.cell? ⟨w4.heap.size, 1, none⟩ = some (.slice (some ⟨g, 0, none⟩) L L) := hb.out.cell 1 rfl
    by_cases hlt : k < L
    · have hlt' : (k : Int) < (L : Int) := by omega
      have hk0 : (0 : Int) ≤ (k : Int) := by omega
      have hf : Hid (∀ j, wr.frozen? ⟨g, j, none⟩ = false) := ho.out.free (mixK_len _ _ _ _ _)
      have hc0 := Lib.hid (ho.out.cell (mixK_len _ _ _ _ _) (mixK_at op xs ys L k hlt))
      have hgr := Lib.hid ho.out.lt.2
      have AXk := Lib.hid fun w' (h : Same wr w') => AX.out k w' (HX.out.same (hs.out.trans h))
      have AYk := Lib.hid fun w' (h : Same wr w') => AY.out k w' (HY.out.same (hs.out.trans h))
      have OPk := Lib.hid fun w' => HOP.out _ _ w' (getD_word X64.out k) (getD_word Y64.out k)
      have tokA : Hid True := trivial
      have tokB : Hid True := trivial
      have ST := Lib.hid (mixK_step op xs ys L k)
      obtain ⟨z, hz⟩ : ∃ z, op (xs.getD k 0) (ys.getD k 0) = z := ⟨_, rfl⟩
      rw [hz] at OPk ST
      clear hz
      generalize xs.getD k 0 = x at *
      generalize ys.getD k 0 = y at *
      have KK := Lib.hid (Kept.refl (fun _ => False) wr)
      have SS : Hid (∀ w', Kept (fun j => j = g) wr w' → w'.cell? ⟨w4.heap.size, 1, none⟩ = some (.slice (some ⟨g, 0, none⟩) L L) ∧ w'.cell? ⟨w.heap.size, 0, none⟩ = some (.int .i64 s) ∧ w'.cell? ⟨w.heap.size, 1, none⟩ = some (.slice a l1 ca) ∧
          w'.cell? ⟨w.heap.size + 1, 0, none⟩ = some (.int .i64 t) ∧ w'.cell? ⟨w.heap.size + 1, 1, none⟩ = some (.slice b l2 cb)) := by
        intro w' kk
        exact ⟨(hb.out.kept kk (by omega)).cell 1 rfl, (h1.out.kept kk (by omega)).cell 0 rfl, (h1.out.kept kk (by omega)).cell 1 rfl, (h2.out.kept kk (by omega)).cell 0 rfl, (h2.out.kept kk (by omega)).cell 1 rfl⟩
      rcases hfw with rfl | rfl
      all_goals
       go_wp2_with fail
       go_region_held3 (fun w' => w'.cell? ⟨w4.heap.size, 1, none⟩ = some (.slice (some ⟨g, 0, none⟩) L L) ∧ w'.cell? ⟨w.heap.size, 0, none⟩ = some (.int .i64 s) ∧ w'.cell? ⟨w.heap.size, 1, none⟩ = some (.slice a l1 ca) ∧
          w'.cell? ⟨w.heap.size + 1, 0, none⟩ = some (.int .i64 t) ∧ w'.cell? ⟨w.heap.size + 1, 1, none⟩ = some (.slice b l2 cb))
        (first | exact SS.out _ (Kept.weak KK.out) | exact SS.out _ (Kept.weak KK.out.drew) | exact SS.out _ ((Kept.weak KK.out).setG _ _) | exact SS.out _ ((Kept.weak KK.out.drew).setG _ _))
        (first
          | (have tk := tokA; clear tk tokA; refine (AXk.out _ (by first | exact KK.out | exact KK.out.drew)).mono ?_; rintro e w5 ⟨rfl, hk5⟩; have KN := Lib.hid (Kept.trans (by first | exact KK.out | exact KK.out.drew) hk5); clear KK hk5; have KK := KN; clear KN)
          | (have tk := tokB; clear tk tokB; refine (AYk.out _ (by first | exact KK.out | exact KK.out.drew)).mono ?_; rintro e w5 ⟨rfl, hk5⟩; have KN := Lib.hid (Kept.trans (by first | exact KK.out | exact KK.out.drew) hk5); clear KK hk5; have KK := KN; clear KN; have fz : ∀ j, w5.frozen? ⟨g, j, none⟩ = false := fun j => (KK.out.frozen (p := ⟨g, j, none⟩) hgr.out (fun h => h)).trans (hf.out j); have cz : w5.cell? ⟨g, k, none⟩ = some (.int .u64 ((0 : Nat) : Int)) := (KK.out.cell (p := ⟨g, k, none⟩) hgr.out (fun h => h)).trans hc0.out)
          | (refine (OPk.out _).mono ?_; rintro e w6 ⟨rfl, rfl⟩))
      all_goals
        go_wp2_with fail
        go_roundw
        case rel =>
          refine ⟨k + 1, _, by omega, rfl, by go_num, ?_, (hb.out.kept KK.out (fun h => h)).other (by show _ ≠ g; omega) _, (h1.out.kept KK.out (fun h => h)).other (by show _ ≠ g; omega) _, (h2.out.kept KK.out (fun h => h)).other (by show _ ≠ g; omega) _, (h3.out.kept KK.out (fun h => h)).other (by show _ ≠ g; omega) _, (hs.out.trans KK.out).setNew (by show _ ≤ g; omega) _⟩
          have o5 := (ho.out.same KK.out).set (mixK_len _ _ _ _ _) k z
          rw [ST.out] at o5
          exact o5
        case measure => simp [intOf]; omega
    · have e : k = L := by omega
      subst e
      have q0 : wr.cell? ⟨w4.heap.size, 0, none⟩ = some (.int .i64 m) := hb.out.cell 0 rfl
      have f3 : ∀ i, wr.frozen? ⟨w.heap.size + 1 + 1, i, none⟩ = false := h3.out.free
      have c0 : wr.cell? ⟨w.heap.size + 1 + 1, 0, none⟩ = some (.int .i64 0) := h3.out.cell 0 rfl
      have c1 : wr.cell? ⟨w.heap.size + 1 + 1, 1, none⟩ = some (.slice none 0 0) := h3.out.cell 1 rfl
      go_wp2_with fail
      have p := (h3.out.set 0 (.int .i64 (m : Nat))).set 1 (.slice (some ⟨g, 0, none⟩) k k)
      have p0 := p.cell 0 (v := .int .i64 (m : Nat)) rfl
      have p1 := p.cell 1 (v := .slice (some ⟨g, 0, none⟩) k k) rfl
      refine bodyPost_ret (v := mapV m (some ⟨g, 0, none⟩) k k) (by simp [results, Tryz.results444, go_sem, p0, p1]) rfl ?_
      have KG := (Kept.refl (fun j => j = w.heap.size + 1 + 1) wr).setG 0 (.int .i64 (m : Nat)) |>.setG 1 (.slice (some ⟨g, 0, none⟩) k k)
      exact ⟨g, rfl, ho.out.kept KG (fun j hj => by simp [Value.ownBlock] at hj; omega), (hs.out.setNew (by show _ ≤ _ + 1 + 1; omega) _).setNew (by show _ ≤ _ + 1 + 1; omega) _⟩
end Go.Proofs.YtlkgdpdnhnakoaaGreatDoor
namespace Go.Proofs.YtlkgdpdnhnakoaaGreatDoor
open Go.RowKit
theorem mapOK_if_false (s : Int) (xs : List Nat) (h : mapOK s xs = false) {e : Ending} (k : e = .returned (.int .i64 (if mapOK s xs then 0 else 4))) : e = .returned (.int .i64 4) := by rw [h] at k; exact k
theorem mapOK_if_true (s : Int) (xs : List Nat) (h : mapOK s xs = true) {e : Ending} (k : e = .returned (.int .i64 (if mapOK s xs then 0 else 4))) : e = .returned (.int .i64 0) := by rw [h] at k; exact k
set_option maxRecDepth 100000 in
set_option maxHeartbeats 400000 in
theorem bm_mix_bad (fw : FuncId) (s t : Int) (a b : Option Addr) (ca cb : Nat) (xs ys : List Nat) (w : World) (h : mapOK s xs = false ∨ mapOK t ys = false) (hx : NatsAt w .u64 a xs) (hy : NatsAt w .u64 b ys) :
    Calls Tryz.prog 444 #[mapV s a xs.length ca, mapV t b ys.length cb, .func (.func fw) #[] #[]] w fun e w' => e = .returned (mapV 0 none 0 0) ∧ Same w w' := by
  cases hmx : mapOK s xs
  · have CA := Lib.hid fun w' (h : NatsAt w' .u64 a xs) => (bm_check s a ca xs w' h).mono (R' := fun e w'' => e = .returned (.int .i64 4) ∧ Same w' w'') fun _ _ h => ⟨mapOK_if_false s xs hmx h.1, h.2⟩
    have HX := Lib.hid hx
    clear hx hy hmx h
    generalize xs.length = l1 at *
    generalize ys.length = l2 at *
    go_enter Tryz.func444, Tryz.ntmps444
    go_wp2_with fail
    refine Calls.boxes3 ?_
    intro W g1 g2 g3 k1 hz
    refine (CA.out W (HX.out.same k1)).mono ?_
    rintro e w2 ⟨rfl, k2⟩
    have K2 := Lib.hid (k1.trans k2)
    have G3 := Lib.hid (g3.kept k2 (fun h => h))
    have f3 : ∀ i, w2.frozen? ⟨w.heap.size + 1 + 1, i, none⟩ = false := G3.out.free
    have c0 : w2.cell? ⟨w.heap.size + 1 + 1, 0, none⟩ = some (.int .i64 0) := G3.out.cell 0 rfl
    have c1 : w2.cell? ⟨w.heap.size + 1 + 1, 1, none⟩ = some (.slice none 0 0) := G3.out.cell 1 rfl
    clear g1 g2 g3 k1 k2 hz CA
    go_wp2_with fail
    have p := (G3.out.set 0 (.int .i64 0)).set 1 (.slice none 0 0)
    have p0 := p.cell 0 (v := .int .i64 0) rfl
    have p1 := p.cell 1 (v := .slice none 0 0) rfl
    exact bodyPost_ret (v := mapV 0 none 0 0) (by simp [results, Tryz.results444, go_sem, p0, p1]) rfl ⟨rfl, (K2.out.setNew (by show _ ≤ _ + 1 + 1; omega) _).setNew (by show _ ≤ _ + 1 + 1; omega) _⟩
  · have hmy : mapOK t ys = false := by rcases h with h | h; rw [hmx] at h; cases h; exact h
    have CA := Lib.hid fun w' (h : NatsAt w' .u64 a xs) => (bm_check s a ca xs w' h).mono (R' := fun e w'' => e = .returned (.int .i64 0) ∧ Same w' w'') fun _ _ h => ⟨mapOK_if_true s xs hmx h.1, h.2⟩
    have CB := Lib.hid fun w' (h : NatsAt w' .u64 b ys) => (bm_check t b cb ys w' h).mono (R' := fun e w'' => e = .returned (.int .i64 4) ∧ Same w' w'') fun _ _ h => ⟨mapOK_if_false t ys hmy h.1, h.2⟩
    have HX := Lib.hid hx; have HY := Lib.hid hy
    clear hx hy hmx hmy h
    generalize xs.length = l1 at *
    generalize ys.length = l2 at *
    go_enter Tryz.func444, Tryz.ntmps444
    go_wp2_with fail
    refine Calls.boxes3 ?_
    intro W g1 g2 g3 k1 hz
    refine (CA.out W (HX.out.same k1)).mono ?_
    rintro e w2 ⟨rfl, k2⟩
    have K2 := Lib.hid (k1.trans k2)
    have G2 := Lib.hid (g2.kept k2 (fun h => h))
    have G3 := Lib.hid (g3.kept k2 (fun h => h))
    have r0 : w2.cell? ⟨w.heap.size + 1, 0, none⟩ = some (.int .i64 t) := G2.out.cell 0 rfl
    have r1 : w2.cell? ⟨w.heap.size + 1, 1, none⟩ = some (.slice b l2 cb) := G2.out.cell 1 rfl
    clear g1 g2 g3 k1 k2 hz CA
    go_wp2_with fail
    refine (CB.out w2 (HY.out.same K2.out)).mono ?_
    rintro e w3 ⟨rfl, k3⟩
    have K3 := Lib.hid (K2.out.trans k3)
    have F3 := Lib.hid (G3.out.kept k3 (fun h => h))
    have f3 : ∀ i, w3.frozen? ⟨w.heap.size + 1 + 1, i, none⟩ = false := F3.out.free
    have c0 : w3.cell? ⟨w.heap.size + 1 + 1, 0, none⟩ = some (.int .i64 0) := F3.out.cell 0 rfl
    have c1 : w3.cell? ⟨w.heap.size + 1 + 1, 1, none⟩ = some (.slice none 0 0) := F3.out.cell 1 rfl
    clear r0 r1 k3 CB K2 G2 G3
    go_wp2_with fail
    have p := (F3.out.set 0 (.int .i64 0)).set 1 (.slice none 0 0)
    have p0 := p.cell 0 (v := .int .i64 0) rfl
    have p1 := p.cell 1 (v := .slice none 0 0) rfl
    exact bodyPost_ret (v := mapV 0 none 0 0) (by simp [results, Tryz.results444, go_sem, p0, p1]) rfl ⟨rfl, (K3.out.setNew (by show _ ≤ _ + 1 + 1; omega) _).setNew (by show _ ≤ _ + 1 + 1; omega) _⟩
/-- What a mix of two is: its size and words. -/
def mixS (s t : Int) (xs ys : List Nat) : Int := if mapOK s xs && mapOK t ys then max s t else 0
def mixW (op : Nat → Nat → Nat) (s t : Int) (xs ys : List Nat) : List Nat :=
  if mapOK s xs && mapOK t ys then mixK op xs ys (((max s t).toNat + 63) / 64) (((max s t).toNat + 63) / 64) else []
/-- What a call tells that makes a map. -/
def MadeMap (w : World) (s : Int) (ws : List Nat) (e : Ending) (w' : World) : Prop :=
  ∃ v c, e = .returned (mapV s v ws.length c) ∧ OwnN w' w.heap.size 251 .u64 (.slice v ws.length c) ws ∧ Same w w'
theorem ownN_nil (w : World) (base : Nat) (e : TypeId) (k : IntKind) : OwnN w base e k (.slice none 0 0) [] := World.ownsRow_nil w base e 1
set_option maxRecDepth 100000 in
theorem bm_mix (fw : FuncId) (op : Nat → Nat → Nat) (hfw : fw = 445 ∨ fw = 445) (hop : WordFn fw op) (s t : Int) (a b : Option Addr) (ca cb : Nat) (xs ys : List Nat) (w : World) (hx64 : Words xs) (hy64 : Words ys)
    (hx : NatsAt w .u64 a xs) (hy : NatsAt w .u64 b ys) :
    Calls Tryz.prog 444 #[mapV s a xs.length ca, mapV t b ys.length cb, .func (.func fw) #[] #[]] w (MadeMap w (mixS s t xs ys) (mixW op s t xs ys)) := by
  cases hok : mapOK s xs && mapOK t ys
  · have h : mapOK s xs = false ∨ mapOK t ys = false := by
      cases h1 : mapOK s xs
      · exact .inl rfl
      · exact .inr (by rw [h1] at hok; exact hok)
    refine (bm_mix_bad fw s t a b ca cb xs ys w h hx hy).mono fun e w' r => ?_
    have e1 : mixS s t xs ys = 0 := by simp [mixS, hok]
    have e2 : mixW op s t xs ys = [] := by simp [mixW, hok]
    rw [e1, e2]
    exact ⟨none, 0, r.1, ownN_nil _ _ _ _, r.2⟩
  · have h1 : mapOK s xs = true := by rw [Bool.and_eq_true] at hok; exact hok.1
    have h2 : mapOK t ys = true := by rw [Bool.and_eq_true] at hok; exact hok.2
    have p1 := mapOK_pos h1
    have p2 := mapOK_pos h2
    obtain ⟨S, rfl⟩ := Int.eq_ofNat_of_zero_le p1.1
    obtain ⟨T, rfl⟩ := Int.eq_ofNat_of_zero_le p2.1
    obtain ⟨m, hm⟩ := Int.eq_ofNat_of_zero_le (show 0 ≤ max (S : Int) T by omega)
    have hm' : max (S : Int) (T : Int) = (m : Int) := hm
    refine (bm_mix_ok fw op hfw hop S T m a b ca cb xs ys w hx64 hy64 h1 h2 hm' (by omega) hx hy).mono fun e w' r => ?_
    obtain ⟨g, r1, r2, r3⟩ := r
    have e1 : mixS S T xs ys = m := by simp only [mixS, hok, if_true]; exact hm'
    have e2 : mixW op S T xs ys = mixK op xs ys ((m + 63) / 64) ((m + 63) / 64) := by simp only [mixW, hok, if_true, hm', Int.toNat_natCast]
    rw [e1, e2]
    refine ⟨some ⟨g, 0, none⟩, (m + 63) / 64, ?_, ?_, r3⟩
    · rw [mixK_len]; exact r1
    · rw [mixK_len]; exact r2
end Go.Proofs.YtlkgdpdnhnakoaaGreatDoor
namespace Go.Proofs.YtlkgdpdnhnakoaaGreatDoor
open Go.RowKit
set_option maxRecDepth 100000 in
set_option maxHeartbeats 400000 in
theorem bm_either (s t : Int) (a b : Option Addr) (ca cb : Nat) (xs ys : List Nat) (w : World) (hx64 : Words xs) (hy64 : Words ys) (hx : NatsAt w .u64 a xs) (hy : NatsAt w .u64 b ys) :
    Calls Tryz.prog 391 #[mapV s a xs.length ca, mapV t b ys.length cb] w (MadeMap w (mixS s t xs ys) (mixW (· ||| ·) s t xs ys)) := by
  have M := Lib.hid fun w' hx' hy' => bm_mix 445 (· ||| ·) (.inr rfl) word_or s t a b ca cb xs ys w' hx64 hy64 hx' hy'
  have HX := Lib.hid hx; have HY := Lib.hid hy
  clear hx hy hx64 hy64
  generalize mixS s t xs ys = m at *
  generalize mixW (· ||| ·) s t xs ys = zs at *
  generalize xs.length = l1 at *
  generalize ys.length = l2 at *
  go_enter Tryz.func391, Tryz.ntmps391
  go_wp2_with fail
  refine Calls.boxes3 ?_
  intro W g1 g2 g3 k1 hz
  refine (M.out W (HX.out.same k1) (HY.out.same k1)).mono ?_
  rintro e w2 ⟨v, c, rfl, ho, k2⟩
  have O := Lib.hid (ho.base k1.size)
  have K2 := Lib.hid (k1.trans k2)
  have G3 := Lib.hid (g3.kept k2 (fun h => h))
  have f3 : ∀ i, w2.frozen? ⟨w.heap.size + 1 + 1, i, none⟩ = false := G3.out.free
  have c0 : w2.cell? ⟨w.heap.size + 1 + 1, 0, none⟩ = some (.int .i64 0) := G3.out.cell 0 rfl
  have c1 : w2.cell? ⟨w.heap.size + 1 + 1, 1, none⟩ = some (.slice none 0 0) := G3.out.cell 1 rfl
  have hb : Hid (∀ q, (Value.slice v zs.length c).ownBlock = some q → W.heap.size ≤ q) := fun q hq => (World.ownsRow.lt ho q hq).1
  have hz' := Lib.hid hz
  clear g1 g2 g3 k1 k2 hz M ho
  go_wp2_with fail
  have p := (G3.out.set 0 (.int .i64 m)).set 1 (.slice v zs.length c)
  have p0 := p.cell 0 (v := .int .i64 m) rfl
  have p1 := p.cell 1 (v := .slice v zs.length c) rfl
  have KG := (Kept.refl (fun j => j = w.heap.size + 1 + 1) w2).setG 0 (.int .i64 m) |>.setG 1 (.slice v zs.length c)
  exact bodyPost_ret (v := mapV m v zs.length c) (by simp [results, Tryz.results391, go_sem, p0, p1]) rfl ⟨v, c, rfl, O.out.kept KG (fun j hj => by have h1 := hb.out j hj; have h2 := hz'.out; omega), (K2.out.setNew (by show _ ≤ _ + 1 + 1; omega) _).setNew (by show _ ≤ _ + 1 + 1; omega) _⟩
end Go.Proofs.YtlkgdpdnhnakoaaGreatDoor
namespace Go.Proofs.YtlkgdpdnhnakoaaGreatDoor
def combN (all : Bool) (x y : Nat) : Nat := if all then x &&& y else x ||| y
theorem combN_lt (all : Bool) {x y : Nat} (hx : x < 18446744073709551616) (hy : y < 18446744073709551616) : combN all x y < 18446744073709551616 := by
  unfold combN
  cases all
  · have h1 : x < 2 ^ 64 := by simpa using hx
    have h2 : y < 2 ^ 64 := by simpa using hy
    simpa using Nat.or_lt_two_pow h1 h2
  · simpa using Nat.lt_of_le_of_lt Nat.and_le_left hx
theorem mixK_bit (op : Nat → Nat → Nat) (xs ys : List Nat) (L j : Nat) (hj : j < 64 * L) : bitN (mixK op xs ys L L) j = (op (xs.getD (j / 64) 0) (ys.getD (j / 64) 0)).testBit (j % 64) := by
  unfold bitN mixK
  have h : j / 64 < L := by omega
  rw [List.getD, List.getElem?_map, List.getElem?_range h]
  simp [h]
theorem mixK_words (all : Bool) {xs ys : List Nat} (hx : Words xs) (hy : Words ys) (L : Nat) : Words (mixK (combN all) xs ys L L) := by
  intro z hz
  unfold mixK at hz
  obtain ⟨i, _, rfl⟩ := List.mem_map.1 hz
  split
  · exact combN_lt all (getD_word hx i) (getD_word hy i)
  · decide
theorem combN_false : combN false = (· ||| ·) := by funext x y; simp [combN]
end Go.Proofs.YtlkgdpdnhnakoaaGreatDoor
