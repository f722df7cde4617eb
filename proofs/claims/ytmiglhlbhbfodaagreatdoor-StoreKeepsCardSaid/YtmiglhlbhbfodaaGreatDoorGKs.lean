/- GKs: KsP, KsQ, KsR, KsS. -/
import Derived.Test.YtmiglhlbhbfodaaGreatDoorGGiv
namespace Go.Proofs.YtmiglhlbhbfodaaGreatDoor
open Go.RowKit

theorem stmp_small {g : Nat} (h : g < 256) : stmp g = [0, 0, 0, 0, 0, 0, 0, g] := by
  rw [stmp_all]
  simp
  omega
theorem stmp_inj {f g : Nat} (hf : f < 256) (hg : g < 256) (h : stmp f = stmp g) : f = g := by
  rw [stmp_small hf, stmp_small hg] at h
  simpa using h
/-- A sector with stamps up to n, in front and at the back. -/
structure Stp (x : List Nat) (n : Nat) : Prop where
  len : x.length = 256
  bts : Bts x
  st : ∃ f b, f ≤ n ∧ b ≤ n ∧ x.take 8 = stmp f ∧ x.drop 248 = stmp b
theorem Stp.mono {x : List Nat} {n m : Nat} (h : Stp x n) (q : n ≤ m) : Stp x m := by
  obtain ⟨h1, h2, f, b, h3, h4, h5, h6⟩ := h
  exact ⟨h1, h2, f, b, by omega, by omega, h5, h6⟩
theorem stp_zeros : Stp zeros 0 := ⟨zeros_len, zeros_bts, 0, 0, Nat.le_refl _, Nat.le_refl _, by kernel_rfl, by kernel_rfl⟩
theorem stp_new {b : List Nat} (h : b.length ≤ 954) (hb : Bts b) (g : Nat) {i : Nat} (hi : i < 4) : Stp (slotSec g b i) g := by
  refine ⟨slotSec_len h g hi, slotSec_bts h hb g hi, g, g, Nat.le_refl _, Nat.le_refl _, slotSec_front b i, ?_⟩
  have := slotSec_back (g := g) h hi
  unfold backS at this
  rw [slotSec_len h g hi] at this
  exact this
/-- The stamp of a sector, if it has one, is its front's. -/
theorem Stp.stamp {x : List Nat} {n g : Nat} (h : Stp x n) (hn : n < 256) (hg : stampE x = some g) : g ≤ n := by
  obtain ⟨h1, h2, f, b, h3, h4, h5, h6⟩ := h
  unfold stampE at hg
  split at hg
  · injection hg with hg
    unfold frontS at hg
    rw [h5, genS_stmp (by omega)] at hg
    omega
  · cases hg
theorem mixGet (a b : List Nat) (k j : Nat) (hk : k ≤ a.length) : (a.take k ++ b.drop k)[j]? = if j < k then a[j]? else b[j]? := by
  by_cases h : j < k
  · rw [if_pos h, List.getElem?_append_left (by simp; omega), List.getElem?_take, if_pos h]
  · rw [if_neg h, List.getElem?_append_right (by simp; omega), List.getElem?_drop, List.length_take]
    congr 1
    omega
/-- A new sector, written over an old one, and torn. -/
theorem torn_slot {b y : List Nat} {g n i k : Nat} (hb : b.length ≤ 954) (hbb : Bts b) (hi : i < 4) (hy : Stp y n) (hn : n < g) (hg : g < 256) (hk : k ≤ 256) :
    Stp ((slotSec g b i).take k ++ y.drop k) g ∧ ((slotSec g b i).take k ++ y.drop k = slotSec g b i ∨ (slotSec g b i).take k ++ y.drop k = y ∨ stampE ((slotSec g b i).take k ++ y.drop k) = none) := by
  have hS := stp_new hb hbb g hi
  obtain ⟨y1, y2, f, c, y3, y4, y5, y6⟩ := hy
  obtain ⟨s1, s2, f', c', s3, s4, s5, s6⟩ := hS
  have hs5 : (slotSec g b i).take 8 = stmp g := slotSec_front b i
  have hs6 : (slotSec g b i).drop 248 = stmp g := by
    have := slotSec_back (g := g) hb hi
    unfold backS at this
    rw [slotSec_len hb g hi] at this
    exact this
  clear s5 s6 s3 s4
  have hy0 : ∀ j, j < 7 → y[j]? = some 0 := fun j hj => by
    have : y[j]? = (y.take 8)[j]? := by rw [List.getElem?_take, if_pos (by omega)]
    rw [this, y5, stmp_small (by omega)]
    rcases (show j = 0 ∨ j = 1 ∨ j = 2 ∨ j = 3 ∨ j = 4 ∨ j = 5 ∨ j = 6 by omega) with rfl | rfl | rfl | rfl | rfl | rfl | rfl <;> rfl
  have hs0 : ∀ j, j < 7 → (slotSec g b i)[j]? = some 0 := fun j hj => by
    have : (slotSec g b i)[j]? = ((slotSec g b i).take 8)[j]? := by rw [List.getElem?_take, if_pos (by omega)]
    rw [this, hs5, stmp_small hg]
    rcases (show j = 0 ∨ j = 1 ∨ j = 2 ∨ j = 3 ∨ j = 4 ∨ j = 5 ∨ j = 6 by omega) with rfl | rfl | rfl | rfl | rfl | rfl | rfl <;> rfl
  have hyb : ∀ j, j < 7 → y[248 + j]? = some 0 := fun j hj => by
    have : y[248 + j]? = (y.drop 248)[j]? := by rw [List.getElem?_drop]
    rw [this, y6, stmp_small (by omega)]
    rcases (show j = 0 ∨ j = 1 ∨ j = 2 ∨ j = 3 ∨ j = 4 ∨ j = 5 ∨ j = 6 by omega) with rfl | rfl | rfl | rfl | rfl | rfl | rfl <;> rfl
  have hsb : ∀ j, j < 7 → (slotSec g b i)[248 + j]? = some 0 := fun j hj => by
    have : (slotSec g b i)[248 + j]? = ((slotSec g b i).drop 248)[j]? := by rw [List.getElem?_drop]
    rw [this, hs6, stmp_small hg]
    rcases (show j = 0 ∨ j = 1 ∨ j = 2 ∨ j = 3 ∨ j = 4 ∨ j = 5 ∨ j = 6 by omega) with rfl | rfl | rfl | rfl | rfl | rfl | rfl <;> rfl
  generalize slotSec g b i = s at *
  have hlen : (s.take k ++ y.drop k).length = 256 := by simp; omega
  have hbts : Bts (s.take k ++ y.drop k) := (s2.take k).app (y2.drop k)
  by_cases h8 : k < 8
  · have e : s.take k ++ y.drop k = y := by
      apply List.ext_getElem?
      intro j
      rw [mixGet _ _ _ _ (by omega)]
      split
      · rename_i hj
        rw [hs0 j (by omega), hy0 j (by omega)]
      · rfl
    rw [e]
    exact ⟨⟨y1, y2, f, c, by omega, by omega, y5, y6⟩, .inr (.inl rfl)⟩
  by_cases h256 : k = 256
  · have e : s.take k ++ y.drop k = s := by rw [List.take_of_length_le (by omega), List.drop_of_length_le (by omega), List.append_nil]
    rw [e]
    exact ⟨⟨s1, s2, g, g, Nat.le_refl _, Nat.le_refl _, hs5, hs6⟩, .inl rfl⟩
  have ht : (s.take k ++ y.drop k).take 8 = stmp g := by
    rw [List.take_append_of_le_length (by simp; omega), List.take_take, Nat.min_eq_left (by omega), hs5]
  have hd : (s.take k ++ y.drop k).drop 248 = stmp c := by
    rw [← y6]
    apply List.ext_getElem?
    intro j
    rw [List.getElem?_drop, List.getElem?_drop, mixGet _ _ _ _ (by omega)]
    split
    · rename_i hj
      rw [hsb j (by omega), hyb j (by omega)]
    · rfl
  refine ⟨⟨hlen, hbts, g, c, Nat.le_refl _, by omega, ht, hd⟩, .inr (.inr ?_)⟩
  unfold stampE
  rw [if_neg]
  rintro ⟨-, q, -⟩
  unfold frontS backS at q
  rw [hlen, ht, hd] at q
  have := stmp_inj hg (by omega) q
  omega
/-- What four sectors say of a root. -/
def getX (N : Nat) (X : List (List Nat)) (n : Nat) : Option Rt :=
  if (getSl X).2.2 = 0 ∧ getOK1 N (getSl X).2.1 = true ∧ getOK2 (getSl X).2.1 = true ∧ getOK3 (getSl X).1 n (getSl X).2.1 = true then some (rtOf (getSl X).1 n (getSl X).2.1) else none
theorem getR_X (D : Dsk) (n : Nat) : getR D n = getX D.s.length (secsS D n) n := rfl
theorem getX_bad {N : Nat} {X : List (List Nat)} {n : Nat} (h : okSl X = false) : getX N X n = none := by
  unfold getX getSl
  rw [if_pos h]
  rw [if_neg]
  rintro ⟨q, -⟩
  cases q
/-- Four sectors, each the old one, the new one, or without a stamp: all old, all new, or no slot. -/
theorem four_torn {b : List Nat} {g n : Nat} {X Y : Nat → List Nat} (hb : b.length ≤ 954) (hg0 : n < g) (hg : g < 256) (hX : ∀ i, i < 4 → Stp (X i) n)
    (hY : ∀ i, i < 4 → Y i = slotSec g b i ∨ Y i = X i ∨ stampE (Y i) = none) :
    okSl [Y 0, Y 1, Y 2, Y 3] = false ∨ [Y 0, Y 1, Y 2, Y 3] = putSl g b ∨ [Y 0, Y 1, Y 2, Y 3] = [X 0, X 1, X 2, X 3] := by
  cases hok : okSl [Y 0, Y 1, Y 2, Y 3] with
  | false => exact .inl rfl
  | true =>
    right
    obtain ⟨G, hG⟩ : ∃ G, genSl [Y 0, Y 1, Y 2, Y 3] = G := ⟨_, rfl⟩
    unfold okSl at hok
    rw [hG] at hok
    simp only [List.all_cons, List.all_nil, Bool.and_true, Bool.and_eq_true, decide_eq_true_eq] at hok
    have hst : ∀ i, i < 4 → stampE (Y i) = some G := fun i hi => by
      rcases (show i = 0 ∨ i = 1 ∨ i = 2 ∨ i = 3 by omega) with rfl | rfl | rfl | rfl
      · exact hok.1
      · exact hok.2.1
      · exact hok.2.2.1
      · exact hok.2.2.2
    have h2 : ∀ i, i < 4 → (Y i = slotSec g b i ∧ G = g) ∨ (Y i = X i ∧ G ≤ n) := fun i hi => by
      rcases hY i hi with q | q | q
      · refine .inl ⟨q, ?_⟩
        have := hst i hi
        rw [q, stampE_put hb (by omega) (by omega) hi] at this
        injection this with this
        exact this.symm
      · refine .inr ⟨q, ?_⟩
        have := hst i hi
        rw [q] at this
        exact (hX i hi).stamp (by omega) this
      · rw [hst i hi] at q; cases q
    by_cases hGg : G = g
    · left
      have k : ∀ i, i < 4 → Y i = slotSec g b i := fun i hi => by
        rcases h2 i hi with q | q
        · exact q.1
        · omega
      rw [putSl_four, k 0 (by decide), k 1 (by decide), k 2 (by decide), k 3 (by decide)]
    · right
      have k : ∀ i, i < 4 → Y i = X i := fun i hi => by
        rcases h2 i hi with q | q
        · exact absurd q.2 hGg
        · exact q.1
      rw [k 0 (by decide), k 1 (by decide), k 2 (by decide), k 3 (by decide)]
/-- The best of two slots. -/
theorem bst_two {D : Dsk} {r : Rt} {s : Nat} (hs : s ≤ 1) (h : getR D s = some r) (ho : ∀ r', getR D (1 - s) = some r' → r'.gen < r.gen) : bstN D 2 = some r := by
  have h2 : bstN D 2 = match getR D 1 with
    | none => bstN D 1
    | some x => match bstN D 1 with
      | none => some x
      | some b => if b.gen < x.gen then some x else some b := rfl
  have h1 : bstN D 1 = getR D 0 := by
    show (match getR D 0 with | none => none | some x => some x) = getR D 0
    cases getR D 0 <;> rfl
  rw [h2, h1]
  rcases (show s = 0 ∨ s = 1 by omega) with rfl | rfl
  · rw [h]
    cases hq : getR D 1 with
    | none => rfl
    | some x =>
      have := ho x hq
      show (if r.gen < x.gen then some x else some r) = some r
      rw [if_neg (by omega)]
  · rw [h]
    cases hq : getR D 0 with
    | none => rfl
    | some x =>
      have := ho x hq
      show (if x.gen < r.gen then some r else some x) = some r
      rw [if_pos this]
end Go.Proofs.YtmiglhlbhbfodaaGreatDoor

namespace Go.Proofs.YtmiglhlbhbfodaaGreatDoor
open Go.RowKit

def onD (s : List Sec) : Dsk := ⟨s, false, 0, -1, false⟩
def recD (s : List Sec) (ring size n : Nat) : List Nat :=
  [n / 256 % 256, n % 256, (readB (onD s) ((8 + ring : Nat) : Int) (size : Nat) (n : Nat)).2 % 256, (readB (onD s) ((8 + ring : Nat) : Int) (size : Nat) (n : Nat)).1.length / 256 % 256, (readB (onD s) ((8 + ring : Nat) : Int) (size : Nat) (n : Nat)).1.length % 256] ++ (readB (onD s) ((8 + ring : Nat) : Int) (size : Nat) (n : Nat)).1
/-- A store's body, its used blocks, and what they have. -/
def imgD (s : List Sec) (ring size : Nat) (body words : List Nat) : List Nat := body ++ ([124] ++ (List.range size).flatMap fun n => if bitN words n = true then recD s ring size n else [])
theorem readB_on {D : Dsk} (h : D.off = false) (f k n : Int) : readB D f k n = readB (onD D.s) f k n := by
  unfold readB hasAt onD
  rw [h]
theorem readB_ext {s t : List Sec} (hl : t.length = s.length) {ring size n : Nat} (h : ∀ i, i < 4 → (t.getD (8 + ring + 4 * n + i) sec0).has = (s.getD (8 + ring + 4 * n + i) sec0).has) :
    readB (onD t) ((8 + ring : Nat) : Int) (size : Nat) (n : Nat) = readB (onD s) ((8 + ring : Nat) : Int) (size : Nat) (n : Nat) := by
  have e : ((((8 + ring : Nat) : Int) + 4 * ((n : Nat) : Int)).toNat) = 8 + ring + 4 * n := by omega
  have h0 := h 0 (by decide); have h1 := h 1 (by decide); have h2 := h 2 (by decide); have h3 := h 3 (by decide)
  rw [Nat.add_zero] at h0
  unfold readB hasAt onD
  dsimp only
  rw [hl, e, h0, h1, h2, h3]
theorem imgD_ext {s t : List Sec} (hl : t.length = s.length) {ring size : Nat} (body : List Nat) {words : List Nat} (h : ∀ n, n < size → bitN words n = true → ∀ i, i < 4 → (t.getD (8 + ring + 4 * n + i) sec0).has = (s.getD (8 + ring + 4 * n + i) sec0).has) :
    imgD t ring size body words = imgD s ring size body words := by
  unfold imgD
  have e : ((List.range size).flatMap fun n => if bitN words n = true then recD t ring size n else []) = (List.range size).flatMap fun n => if bitN words n = true then recD s ring size n else [] := by
    rw [List.flatMap_def, List.flatMap_def]
    congr 1
    apply List.map_congr_left
    intro n hn
    split
    · rename_i hb
      unfold recD
      rw [readB_ext hl (h n (List.mem_range.1 hn) hb)]
    · rfl
  rw [e]
/-- The slots of a disk, one that counts (r); what waits in the other is a new root (r2), if anything. -/
structure DK (s : List Sec) (r : Rt) (n : Nat) (P : Prop) (r2 : Rt) : Prop where
  own : ∀ i, i < 4 → (s.getD (r.slot * 4 + i) sec0).has = slotSec r.gen (putR r) i ∧ (s.getD (r.slot * 4 + i) sec0).safe = slotSec r.gen (putR r) i
  spare : ∀ i, i < 4 → Stp (s.getD ((1 - r.slot) * 4 + i) sec0).safe n ∧ ((s.getD ((1 - r.slot) * 4 + i) sec0).has = (s.getD ((1 - r.slot) * 4 + i) sec0).safe ∨ (P ∧ (s.getD ((1 - r.slot) * 4 + i) sec0).has = slotSec r2.gen (putR r2) i))
  old : ∀ r', getX 60 [(s.getD ((1 - r.slot) * 4 + 0) sec0).safe, (s.getD ((1 - r.slot) * 4 + 1) sec0).safe, (s.getD ((1 - r.slot) * 4 + 2) sec0).safe, (s.getD ((1 - r.slot) * 4 + 3) sec0).safe] (1 - r.slot) = some r' → r'.gen < r.gen
  blk : ∀ k, k < 12 → bitN r.words k = true → ∀ i, i < 4 → (s.getD (12 + 4 * k + i) sec0).has = (s.getD (12 + 4 * k + i) sec0).safe
/-- A root that may count. -/
structure RK (r : Rt) (n : Nat) : Prop where
  ok : RtOK r 60
  ring : r.ring = 4
  slot : r.slot ≤ 1
  gen : r.gen ≤ n
/-- A store that is well. -/
structure SK (S : Sto) (last : List Nat) (n : Nat) : Prop where
  fit : S.Fit
  ok : S.D.OK
  on : S.D.off = false
  good : S.bad = false
  len : S.D.s.length = 60
  size : S.nsize = 12
  r : RK S.r n
  dk : DK S.D.s S.r n False S.r
  img : last = imgD S.D.s 4 12 S.r.body S.r.words
theorem RK.more {r : Rt} {n m : Nat} (h : RK r n) (q : n ≤ m) : RK r m := ⟨h.ok, h.ring, h.slot, Nat.le_trans h.gen q⟩
theorem RK.size {r : Rt} {n : Nat} (h : RK r n) : r.size = 12 := by rw [h.ok.size, h.ring]; rfl
theorem DK.more {s : List Sec} {r r2 : Rt} {n m : Nat} {P : Prop} (h : DK s r n P r2) (q : n ≤ m) : DK s r m P r2 := ⟨h.own, fun i hi => ⟨(h.spare i hi).1.mono q, (h.spare i hi).2⟩, h.old, h.blk⟩
theorem SK.more {S : Sto} {last : List Nat} {n m : Nat} (h : SK S last n) (q : n ≤ m) : SK S last m := ⟨h.fit, h.ok, h.on, h.good, h.len, h.size, h.r.more q, h.dk.more q, h.img⟩
/-- What is found upon a disk whose slots are still. -/
theorem DK.opens {D : Dsk} {r r2 : Rt} {n : Nat} (h : DK D.s r n False r2) (hr : RK r n) (hok : D.OK) (hon : D.off = false) (hl : D.s.length = 60) :
    ∃ S', openS D = some S' ∧ SK S' (imgD D.s 4 12 r.body r.words) n := by
  have hs := hr.slot
  have e0 : secsS D r.slot = putSl r.gen (putR r) := by
    have k0 := (h.own 0 (by decide)).1
    rw [Nat.add_zero] at k0
    rw [secsS_get hon (by omega), k0, (h.own 1 (by decide)).1, (h.own 2 (by decide)).1, (h.own 3 (by decide)).1]
    rfl
  have hsp : ∀ i, i < 4 → (D.s.getD ((1 - r.slot) * 4 + i) sec0).has = (D.s.getD ((1 - r.slot) * 4 + i) sec0).safe := fun i hi => (h.spare i hi).2.resolve_right (fun q => q.1)
  have e1 : secsS D (1 - r.slot) = [(D.s.getD ((1 - r.slot) * 4 + 0) sec0).safe, (D.s.getD ((1 - r.slot) * 4 + 1) sec0).safe, (D.s.getD ((1 - r.slot) * 4 + 2) sec0).safe, (D.s.getD ((1 - r.slot) * 4 + 3) sec0).safe] := by
    rw [secsS_get hon (by omega), ← hsp 0 (by decide), ← hsp 1 (by decide), ← hsp 2 (by decide), ← hsp 3 (by decide)]
    rfl
  have hb := bst_two hs (getR_of (by rw [hl]; exact hr.ok) e0) (fun r' hr' => h.old r' (by rw [← e1, ← hl, ← getR_X]; exact hr'))
  have ho : openS D = some ⟨D, r, r.size, r.words, false⟩ := by unfold openS; rw [hb]; rfl
  refine ⟨_, ho, openS_fit hok ho, hok, hon, rfl, hl, hr.size, hr, ⟨h.own, fun i hi => ⟨(h.spare i hi).1, .inl (hsp i hi)⟩, h.old, h.blk⟩, rfl⟩
/-- A loss of power, sector by sector. -/
theorem pow_mix {D : Dsk} (h : D.OK) {f : List Nat} (hf : Bts f) (j : Nat) : ∃ k, k ≤ 256 ∧ ((powS D.s f).getD j sec0).has = (D.s.getD j sec0).has.take k ++ (D.s.getD j sec0).safe.drop k ∧ ((powS D.s f).getD j sec0).safe = ((powS D.s f).getD j sec0).has := by
  obtain ⟨p1, p2⟩ := powS_at (s := D.s) hf j
  have hx := getD_ok h.secs j
  have hs : ((powS D.s f).getD j sec0).safe = ((powS D.s f).getD j sec0).has := by
    unfold powS
    rw [settle_get]
    rfl
  cases hw : waitsAt D.s j with
  | false => exact ⟨256, Nat.le_refl _, by rw [p1 hw, List.take_of_length_le (by rw [hx.hasL]; exact Nat.le_refl _), List.drop_of_length_le (by rw [hx.safeL]; exact Nat.le_refl _), List.append_nil], hs⟩
  | true =>
    obtain ⟨k, hk, e⟩ := p2 hw
    exact ⟨k, hk, by rw [e]; rfl, hs⟩
/-- Behind a loss of power it is the old root that counts, or the new one. -/
theorem DK.up {D : Dsk} {r r2 : Rt} {n : Nat} {P : Prop} (h : DK D.s r n P r2) (hr : RK r n) (hok : D.OK) (hl : D.s.length = 60) (hn : n < 250)
    (h2 : P → RK r2 (n + 1) ∧ r2.slot = 1 - r.slot ∧ n < r2.gen ∧ ∀ k, k < 12 → bitN r2.words k = true → ∀ i, i < 4 → (D.s.getD (12 + 4 * k + i) sec0).has = (D.s.getD (12 + 4 * k + i) sec0).safe) {f : List Nat} (hf : Bts f) :
    ∃ S', openS (powerD D f) = some S' ∧ (SK S' (imgD D.s 4 12 r.body r.words) (n + 1) ∨ (P ∧ SK S' (imgD D.s 4 12 r2.body r2.words) (n + 1))) := by
  have hs := hr.slot
  have hgn := hr.gen
  have hpl := powS_len D.s f
  have hlen : (powerD D f).s.length = 60 := by unfold powerD; dsimp only; rw [hpl, hl]
  have hokp := powerD_ok hok hf
  have hson : (powerD D f).off = false := rfl
  have hsp : (powerD D f).s = powS D.s f := rfl
  have still : ∀ j, (D.s.getD j sec0).has = (D.s.getD j sec0).safe → ((powS D.s f).getD j sec0).has = (D.s.getD j sec0).has ∧ ((powS D.s f).getD j sec0).safe = (D.s.getD j sec0).has := fun j hj => by
    obtain ⟨k, hk, e1, e2⟩ := pow_mix hok hf j
    have : ((powS D.s f).getD j sec0).has = (D.s.getD j sec0).has := by rw [e1, ← hj, List.take_append_drop]
    exact ⟨this, by rw [e2, this]⟩
  have own' : ∀ i, i < 4 → ((powS D.s f).getD (r.slot * 4 + i) sec0).has = slotSec r.gen (putR r) i ∧ ((powS D.s f).getD (r.slot * 4 + i) sec0).safe = slotSec r.gen (putR r) i := fun i hi => by
    obtain ⟨a, b⟩ := h.own i hi
    obtain ⟨c, d⟩ := still _ (a.trans b.symm)
    exact ⟨c.trans a, d.trans a⟩
  have img1 : imgD (powS D.s f) 4 12 r.body r.words = imgD D.s 4 12 r.body r.words := imgD_ext hpl _ fun k hk hb i hi => (still _ (h.blk k hk hb i hi)).1
  have blk' : ∀ k, k < 12 → bitN r.words k = true → ∀ i, i < 4 → ((powS D.s f).getD (12 + 4 * k + i) sec0).has = ((powS D.s f).getD (12 + 4 * k + i) sec0).safe := fun k hk hb i hi => by
    obtain ⟨c, d⟩ := still _ (h.blk k hk hb i hi)
    rw [c, d]
  have hY : ∀ i, i < 4 → Stp ((powS D.s f).getD ((1 - r.slot) * 4 + i) sec0).safe (n + 1) ∧ ((powS D.s f).getD ((1 - r.slot) * 4 + i) sec0).has = ((powS D.s f).getD ((1 - r.slot) * 4 + i) sec0).safe := fun i hi => by
    obtain ⟨k, hk, e1, e2⟩ := pow_mix hok hf ((1 - r.slot) * 4 + i)
    refine ⟨?_, e2.symm⟩
    obtain ⟨a, b⟩ := h.spare i hi
    rcases b with b | ⟨p, b⟩
    · rw [(still _ b).2, b]
      exact a.mono (by omega)
    · obtain ⟨q1, q2, q3, q4⟩ := h2 p
      have hp := q1.ok.putLen
      have hgg := q1.gen
      rw [e2, e1, b]
      exact (torn_slot (by omega) (putR_bts q1.ok.bts) hi a q3 (by omega) hk).1.mono hgg
  by_cases hP : P
  · obtain ⟨q1, q2, q3, q4⟩ := h2 hP
    have hp := q1.ok.putLen
    have hgg := q1.gen
    have hT : ∀ i, i < 4 → ((powS D.s f).getD ((1 - r.slot) * 4 + i) sec0).safe = slotSec r2.gen (putR r2) i ∨ ((powS D.s f).getD ((1 - r.slot) * 4 + i) sec0).safe = (D.s.getD ((1 - r.slot) * 4 + i) sec0).safe ∨ stampE ((powS D.s f).getD ((1 - r.slot) * 4 + i) sec0).safe = none := fun i hi => by
      obtain ⟨k, hk, e1, e2⟩ := pow_mix hok hf ((1 - r.slot) * 4 + i)
      obtain ⟨a, b⟩ := h.spare i hi
      rcases b with b | ⟨p, b⟩
      · exact .inr (.inl (by rw [(still _ b).2, b]))
      · rw [e2, e1, b]
        exact (torn_slot (by omega) (putR_bts q1.ok.bts) hi a q3 (by omega) hk).2
    have key := four_torn (X := fun i => (D.s.getD ((1 - r.slot) * 4 + i) sec0).safe) (Y := fun i => ((powS D.s f).getD ((1 - r.slot) * 4 + i) sec0).safe) (b := putR r2) (g := r2.gen) (n := n) (by omega) q3 (by omega) (fun i hi => (h.spare i hi).1) hT
    by_cases hnew : ∀ i, i < 4 → ((powS D.s f).getD ((1 - r.slot) * 4 + i) sec0).safe = slotSec r2.gen (putR r2) i
    · have img2 : imgD (powS D.s f) 4 12 r2.body r2.words = imgD D.s 4 12 r2.body r2.words := imgD_ext hpl _ fun k hk hb i hi => (still _ (q4 k hk hb i hi)).1
      have hback : 1 - r2.slot = r.slot := by omega
      have dk2 : DK (powerD D f).s r2 (n + 1) False r2 := by
        rw [hsp]
        refine ⟨fun i hi => ?_, fun i hi => ?_, fun r' hr' => ?_, fun k hk hb i hi => ?_⟩
        · rw [q2]
          exact ⟨(hY i hi).2.trans (hnew i hi), hnew i hi⟩
        · rw [hback, (own' i hi).1, (own' i hi).2]
          have hp1 := hr.ok.putLen
          exact ⟨(stp_new (by omega) (putR_bts hr.ok.bts) r.gen hi).mono (by omega), .inl rfl⟩
        · rw [hback, (own' 0 (by decide)).2, (own' 1 (by decide)).2, (own' 2 (by decide)).2, (own' 3 (by decide)).2] at hr'
          have hp1 := hr.ok.putLen
          have hg := getSl_put (b := putR r) (by omega) hr.ok.gen1 hr.ok.gen2
          unfold getX at hr'
          rw [← putSl_four, hg] at hr'
          split at hr'
          · injection hr' with hr'
            rw [← hr']
            show r.gen < r2.gen
            omega
          · cases hr'
        · obtain ⟨c, d⟩ := still _ (q4 k hk hb i hi)
          rw [c, d]
      obtain ⟨S', o1, o2⟩ := dk2.opens q1 hokp hson hlen
      refine ⟨S', o1, .inr ⟨hP, ?_⟩⟩
      rw [hsp, img2] at o2
      exact o2
    · have dk1 : DK (powerD D f).s r (n + 1) False r := by
        rw [hsp]
        refine ⟨own', fun i hi => ⟨(hY i hi).1, .inl (hY i hi).2⟩, fun r' hr' => ?_, blk'⟩
        rcases key with q | q | q
        · rw [getX_bad q] at hr'; cases hr'
        · rw [putSl_four] at q
          simp only [List.cons.injEq] at q
          refine absurd (fun i hi => ?_) hnew
          rcases (show i = 0 ∨ i = 1 ∨ i = 2 ∨ i = 3 by omega) with rfl | rfl | rfl | rfl
          · exact q.1
          · exact q.2.1
          · exact q.2.2.1
          · exact q.2.2.2.1
        · rw [q] at hr'
          exact h.old r' hr'
      obtain ⟨S', o1, o2⟩ := dk1.opens (hr.more (by omega)) hokp hson hlen
      refine ⟨S', o1, .inl ?_⟩
      rw [hsp, img1] at o2
      exact o2
  · have hsame : ∀ i, i < 4 → ((powS D.s f).getD ((1 - r.slot) * 4 + i) sec0).safe = (D.s.getD ((1 - r.slot) * 4 + i) sec0).safe := fun i hi => by
      have b := (h.spare i hi).2.resolve_right (fun q => hP q.1)
      rw [(still _ b).2, b]
    have dk1 : DK (powerD D f).s r (n + 1) False r := by
      rw [hsp]
      refine ⟨own', fun i hi => ⟨(hY i hi).1, .inl (hY i hi).2⟩, fun r' hr' => ?_, blk'⟩
      rw [hsame 0 (by decide), hsame 1 (by decide), hsame 2 (by decide), hsame 3 (by decide)] at hr'
      exact h.old r' hr'
    obtain ⟨S', o1, o2⟩ := dk1.opens (hr.more (by omega)) hokp hson hlen
    refine ⟨S', o1, .inl ?_⟩
    rw [hsp, img1] at o2
    exact o2
end Go.Proofs.YtmiglhlbhbfodaaGreatDoor

namespace Go.Proofs.YtmiglhlbhbfodaaGreatDoor
open Go.RowKit

/-- Behind a loss of power there is a store that has the one, or the other. -/
def UP (D : Dsk) (a b : List Nat) (n : Nat) : Prop := ∀ f, Bts f → ∃ S', openS (powerD D f) = some S' ∧ (SK S' a n ∨ SK S' b n)
theorem openS_now {D : Dsk} {S : Sto} (h : openS D = some S) : S.nwords = S.r.words ∧ S.D = D := by
  unfold openS at h
  cases hb : bstN D 2 with
  | none => rw [hb] at h; cases h
  | some r => rw [hb] at h; injection h with h; subst h; exact ⟨rfl, rfl⟩
def imgS (S : Sto) : List Nat := imgD S.D.s S.r.ring S.nsize S.r.body S.nwords
def nextL (S : Sto) (b : List Nat) : List Nat := imgD S.D.s S.r.ring S.nsize b S.nwords
theorem SK.imgNow {S : Sto} {last : List Nat} {n : Nat} (h : SK S last n) (hw : S.nwords = S.r.words) : imgS S = last := by
  unfold imgS
  rw [h.r.ring, h.size, hw, h.img]
theorem SK.alloc {S : Sto} {last : List Nat} {n : Nat} (h : SK S last n) : SK S.alloc.1 last n := by
  have hf := h.fit.alloc
  revert hf
  unfold Sto.alloc
  split
  · exact fun _ => h
  · split
    · exact fun _ => h
    · exact fun hf => ⟨hf, h.ok, h.on, h.good, h.len, h.size, h.r, h.dk, h.img⟩
theorem SK.free {S : Sto} {last : List Nat} {n : Nat} (h : SK S last n) (k : Int) : SK (S.free k).1 last n := by
  have hf := h.fit.free k
  revert hf
  unfold Sto.free
  split
  · exact fun _ => h
  · exact fun hf => ⟨hf, h.ok, h.on, h.good, h.len, h.size, h.r, h.dk, h.img⟩
theorem SK.forget {S : Sto} {last : List Nat} {n : Nat} (h : SK S last n) : SK S.forget.1 last n := by
  have hf := h.fit.forget
  revert hf
  unfold Sto.forget
  split
  · exact fun _ => h
  · exact fun hf => ⟨hf, h.ok, h.on, h.good, h.len, h.r.size, h.r, h.dk, h.img⟩
theorem SK.brk {S : Sto} {last : List Nat} {n : Nat} (h : SK S last n) {a : Int} (ha : 0 ≤ a) (ha2 : a < 9223372036854775808) (o : Bool) : SK { S with D := (breakD S.D a o).1 } last n := by
  have hok := breakD_ok h.ok ha2 o
  have e : (breakD S.D a o).1 = ⟨S.D.s, false, S.D.calls, a, o⟩ := by unfold breakD; rw [h.on, if_neg (by decide), if_neg (by omega)]
  rw [e] at hok ⊢
  exact ⟨h.fit.disk _ _, hok, rfl, h.good, h.len, h.size, h.r, h.dk, h.img⟩
/-- Where only blocks have turned that do not count. -/
theorem SK.down {S : Sto} {last : List Nat} {n : Nat} (h : SK S last n) (hn : n < 250) {D : Dsk} (hok : D.OK) (hl : D.s.length = 60) (hs : ∀ j, (j < 8 ∨ ∃ k i, k < 12 ∧ i < 4 ∧ bitN S.r.words k = true ∧ j = 12 + 4 * k + i) → (D.s.getD j sec0).has = (S.D.s.getD j sec0).has ∧ (D.s.getD j sec0).safe = (S.D.s.getD j sec0).safe) :
    DK D.s S.r n False S.r ∧ last = imgD D.s 4 12 S.r.body S.r.words ∧ UP D last last (n + 1) := by
  have hsl := h.r.slot
  have dk : DK D.s S.r n False S.r := by
    refine ⟨fun i hi => ?_, fun i hi => ?_, fun r' hr' => ?_, fun k hk hb i hi => ?_⟩
    · rw [(hs _ (.inl (by omega))).1, (hs _ (.inl (by omega))).2]
      exact h.dk.own i hi
    · rw [(hs _ (.inl (by omega))).1, (hs _ (.inl (by omega))).2]
      exact h.dk.spare i hi
    · rw [(hs _ (.inl (by omega))).2, (hs _ (.inl (by omega))).2, (hs _ (.inl (by omega))).2, (hs _ (.inl (by omega))).2] at hr'
      exact h.dk.old r' hr'
    · rw [(hs _ (.inr ⟨k, i, hk, hi, hb, rfl⟩)).1, (hs _ (.inr ⟨k, i, hk, hi, hb, rfl⟩)).2]
      exact h.dk.blk k hk hb i hi
  have im : last = imgD D.s 4 12 S.r.body S.r.words := by
    rw [h.img]
    refine (imgD_ext (hl.trans h.len.symm) _ fun k hk hb i hi => ?_).symm
    exact (hs _ (.inr ⟨k, i, hk, hi, hb, rfl⟩)).1
  refine ⟨dk, im, fun f hf => ?_⟩
  obtain ⟨S', o1, o2⟩ := dk.up h.r hok hl hn (fun q => q.elim) hf
  rw [← im] at o2
  exact ⟨S', o1, .inl (o2.resolve_right fun q => q.1)⟩
theorem SK.power {S : Sto} {last : List Nat} {n : Nat} (h : SK S last n) (hn : n < 250) : UP S.D last last (n + 1) := (h.down hn h.ok h.len (fun _ _ => ⟨rfl, rfl⟩)).2.2
theorem wrs_all : ∀ (cs : List (List Nat)) (D : Dsk) (F : Nat), wrs D F cs = wrAll D F cs
  | [], _, _ => rfl
  | c :: cs, D, F => by
    show (if (writeD D (F : Nat) c).2 = 0 then wrs (writeD D (F : Nat) c).1 (F + 1) cs else writeD D (F : Nat) c) = (if (writeD D (F : Nat) c).2 = 0 then wrAll (writeD D (F : Nat) c).1 (F + 1) cs else writeD D (F : Nat) c)
    rw [wrs_all cs]
theorem chunks_ok {b : List Nat} (h : b.length ≤ 1016) (hb : Bts b) : ∀ c ∈ chunks (sealC b), c.length = 256 ∧ Bts c := by
  intro c hc
  have hl := sealC_len h
  have hbb := sealC_bts h hb
  simp only [chunks, List.mem_cons, List.not_mem_nil, or_false] at hc
  rcases hc with rfl | rfl | rfl | rfl
  · exact ⟨chunk_len hl (by decide), chunk_bts hbb _⟩
  · exact ⟨chunk_len hl (by decide), chunk_bts hbb _⟩
  · exact ⟨chunk_len hl (by decide), chunk_bts hbb _⟩
  · exact ⟨chunk_len hl (by decide), chunk_bts hbb _⟩
theorem SK.write {S : Sto} {last : List Nat} {n : Nat} (h : SK S last n) (hn : n < 250) (k : Int) {b : List Nat} (hb : Bts b) :
    ((S.wr k b).1.D.off = false → SK (S.wr k b).1 last n) ∧ ((S.wr k b).1.D.off = true → UP (S.wr k b).1.D last last (n + 1)) := by
  have hf := h.fit.wr k b
  have stay : ∀ e : Nat, (((S, e) : Sto × Nat).1.D.off = false → SK ((S, e) : Sto × Nat).1 last n) ∧ (((S, e) : Sto × Nat).1.D.off = true → UP ((S, e) : Sto × Nat).1.D last last (n + 1)) := fun _ => ⟨fun _ => h, fun _ => h.power hn⟩
  revert hf
  unfold Sto.wr
  split
  · exact fun _ => stay _
  · rename_i he
    split
    · exact fun _ => stay _
    · rename_i hm
      have hin : hasM (S.nsize : Nat) S.nwords k = true := by
        have he' : S.hasE k = 0 := by simpa using he
        unfold Sto.hasE at he'
        rw [h.good, if_neg (by decide)] at he'
        split at he'
        · assumption
        · cases he'
      have hib : inB (S.nsize : Nat) S.nwords k = true := by unfold hasM at hin; simp at hin; exact hin.1
      have hix := inB_index hib
      rw [h.size] at hix
      obtain ⟨K, rfl⟩ := Int.eq_ofNat_of_zero_le hix.1
      have hK : K < 12 := by omega
      have hnot : bitN S.r.words K = false := by
        have h1 := hasM_in (s := S.r.size) (ws := S.r.words) (by rw [h.fit.one]; exact h.fit.cnt) (n := K) (by rw [h.r.size]; exact hK)
        rw [h1] at hm
        simpa using hm
      have hat : atA S.D.s.length ((8 + S.r.ring : Nat) : Int) (S.nsize : Nat) (K : Nat) = 0 := by
        have e1 : errA S.D.s.length ((8 + S.r.ring : Nat) : Int) (S.nsize : Nat) = 0 := by
          unfold errA
          rw [h.len, h.r.ring, h.size]
          exact if_pos ⟨mayB_iff.2 (by omega), by omega⟩
        unfold atA
        rw [if_pos e1, h.size, if_pos (hasB_iff.2 (by omega))]
      by_cases hbig : b.length ≤ 1016
      · have hq : S.wq (K : Nat) b = wrAll S.D (12 + 4 * K) (chunks (sealC b)) := by
          unfold Sto.wq writeB
          rw [if_pos hat, if_pos hbig, wrs_all, h.r.ring, show (((8 + 4 : Nat) : Int) + 4 * ((K : Nat) : Int)).toNat = 12 + 4 * K from by omega]
        rw [hq]
        have W := wrAll_ok (chunks (sealC b)) (D := S.D) (12 + 4 * K) h.ok h.on (chunks_ok hbig hb) (by rw [h.len]; show 12 + 4 * K + 4 ≤ 60; omega)
        generalize wrAll S.D (12 + 4 * K) (chunks (sealC b)) = q at W
        have hl : q.1.s.length = 60 := W.len.trans h.len
        have Dn := h.down hn W.ok hl (fun j hj => by
          have : q.1.s.getD j sec0 = S.D.s.getD j sec0 := W.out j (by
            show j < 12 + 4 * K ∨ 12 + 4 * K + 4 ≤ j
            rcases hj with hj | ⟨k', i, hk', hi, hb', rfl⟩
            · omega
            · have : k' ≠ K := fun e => by subst e; rw [hnot] at hb'; cases hb'
              omega)
          rw [this]
          exact ⟨rfl, rfl⟩)
        split
        · rename_i h5
          exact fun hf => ⟨fun q0 => absurd (W.no (by omega)) (by dsimp only at q0; rw [q0]; decide), fun _ => Dn.2.2⟩
        · intro hf
          refine ⟨fun q0 => ?_, fun _ => Dn.2.2⟩
          have h0 : q.2 = 0 := by
            by_cases hz : q.2 = 0
            · exact hz
            · have := W.no hz
              have q0' : q.1.off = false := q0
              rw [q0'] at this
              cases this
          refine ⟨hf, W.ok, q0, ?_, hl, h.size, h.r, Dn.1, Dn.2.1⟩
          show (S.bad || decide (q.2 ≠ 0)) = false
          rw [h.good, h0]
          rfl
      · have hq : S.wq (K : Nat) b = (S.D, 5) := by
          unfold Sto.wq writeB
          rw [if_pos hat, if_neg hbig]
        rw [hq]
        rw [if_pos rfl]
        exact fun _ => ⟨fun _ => h, fun _ => h.power hn⟩
theorem getX_own {r r' : Rt} {N s : Nat} (h : RtOK r N) (hr : getX N (putSl r.gen (putR r)) s = some r') : r'.gen = r.gen := by
  have hp := h.putLen
  have hg := getSl_put (b := putR r) (by omega) h.gen1 h.gen2
  unfold getX at hr
  rw [hg] at hr
  split at hr
  · injection hr with hr
    rw [← hr]
    rfl
  · cases hr
/-- What was seen of four sectors is no less than their stamps. -/
theorem seen_four {X : Nat → List Nat} {n : Nat} (hn : n < 256) (h : ∀ i, i < 4 → Stp (X i) n) : seenSl [X 0, X 1, X 2, X 3] ≤ n ∧ ∀ i, i < 4 → Stp (X i) (seenSl [X 0, X 1, X 2, X 3]) := by
  have one : ∀ i, i < 4 → ∃ f c, f ≤ n ∧ c ≤ n ∧ (X i).take 8 = stmp f ∧ (X i).drop 248 = stmp c ∧ ∀ m, seen1 m (X i) = max m (max f c) := fun i hi => by
    obtain ⟨l1, l2, f, c, l3, l4, l5, l6⟩ := h i hi
    refine ⟨f, c, l3, l4, l5, l6, fun m => ?_⟩
    unfold seen1 frontS backS
    rw [l1, if_pos rfl, l5, l6, genS_stmp (by omega), genS_stmp (by omega)]
  obtain ⟨f0, c0, a0, b0, x0, y0, z0⟩ := one 0 (by decide)
  obtain ⟨f1, c1, a1, b1, x1, y1, z1⟩ := one 1 (by decide)
  obtain ⟨f2, c2, a2, b2, x2, y2, z2⟩ := one 2 (by decide)
  obtain ⟨f3, c3, a3, b3, x3, y3, z3⟩ := one 3 (by decide)
  have e : seenSl [X 0, X 1, X 2, X 3] = max (max (max (max 0 (max f0 c0)) (max f1 c1)) (max f2 c2)) (max f3 c3) := by
    unfold seenSl
    simp only [List.foldl_cons, List.foldl_nil]
    rw [z0, z1, z2, z3]
  rw [e]
  refine ⟨by omega, fun i hi => ?_⟩
  rcases (show i = 0 ∨ i = 1 ∨ i = 2 ∨ i = 3 by omega) with rfl | rfl | rfl | rfl
  · exact ⟨(h 0 hi).len, (h 0 hi).bts, f0, c0, by omega, by omega, x0, y0⟩
  · exact ⟨(h 1 hi).len, (h 1 hi).bts, f1, c1, by omega, by omega, x1, y1⟩
  · exact ⟨(h 2 hi).len, (h 2 hi).bts, f2, c2, by omega, by omega, x2, y2⟩
  · exact ⟨(h 3 hi).len, (h 3 hi).bts, f3, c3, by omega, by omega, x3, y3⟩
theorem SK.commit {S : Sto} {last : List Nat} {n : Nat} (h : SK S last n) (hn : n < 240) {b : List Nat} (hb : Bts b) (hbl : b.length ≤ 700) :
    ((S.commit b).2 = 0 → (S.commit b).1.D.off = false ∧ SK (S.commit b).1 (nextL S b) (n + 2)) ∧ ((S.commit b).2 ≠ 0 → (S.commit b).1.D.off = true ∧ UP (S.commit b).1.D last (nextL S b) (n + 2)) := by
  have hf := h.fit.commit b
  have hrw : (S.nextR b).words = S.nwords := rfl
  have Y := syncD_out h.ok h.on
  have hsl := h.r.slot
  have h0 : S.commit b = if (syncD S.D).2 ≠ 0 then (S.did (syncD S.D), (syncD S.D).2) else ({ S with D := S.synD } : Sto).write (S.nextR b) := by
    unfold Sto.commit
    rw [h.good, if_neg (by decide), if_neg (by omega)]
  rw [h0] at hf ⊢
  have hsyn : S.synD = (syncD S.D).1 := rfl
  -- the slots and what counts are still when a Sync has failed
  have same1 : ∀ j, (S.D.s.getD j sec0).has = (S.D.s.getD j sec0).safe → ((syncD S.D).1.s.getD j sec0).has = (S.D.s.getD j sec0).has ∧ ((syncD S.D).1.s.getD j sec0).safe = (S.D.s.getD j sec0).safe := fun j hj => by
    rcases Y.any with q | q
    · rw [q j]; exact ⟨rfl, hj⟩
    · rw [q]; exact ⟨rfl, rfl⟩
  have slots : ∀ j, j < 8 → (S.D.s.getD j sec0).has = (S.D.s.getD j sec0).safe := fun j hj => by
    by_cases hq : S.r.slot * 4 ≤ j ∧ j < S.r.slot * 4 + 4
    · obtain ⟨a, c⟩ := h.dk.own (j - S.r.slot * 4) (by omega)
      rw [show S.r.slot * 4 + (j - S.r.slot * 4) = j from by omega] at a c
      rw [a, c]
    · have a := (h.dk.spare (j - (1 - S.r.slot) * 4) (by omega)).2.resolve_right (fun q => q.1)
      rw [show (1 - S.r.slot) * 4 + (j - (1 - S.r.slot) * 4) = j from by omega] at a
      exact a
  have hl1 : (syncD S.D).1.s.length = 60 := Y.len.trans h.len
  by_cases hs : (syncD S.D).2 = 0
  rotate_left
  · rw [if_pos hs] at hf ⊢
    refine ⟨fun q => absurd q hs, fun _ => ⟨Y.no hs, ?_⟩⟩
    have Dn := h.down (by omega) Y.ok hl1 (fun j hj => same1 j (by
      rcases hj with hj | ⟨k, i, hk, hi, hb', rfl⟩
      · exact slots j hj
      · exact h.dk.blk k hk hb' i hi))
    intro f hff
    obtain ⟨S', o1, o2⟩ := Dn.2.2 f hff
    exact ⟨S', o1, .inl ((o2.elim (fun z => z) (fun z => z)).more (by omega))⟩
  rw [if_neg (by omega)] at hf ⊢
  obtain ⟨x1, x2⟩ := Y.yes hs
  -- all is settled now
  have st : ∀ j, (S.synD.s.getD j sec0).has = (S.D.s.getD j sec0).has ∧ (S.synD.s.getD j sec0).safe = (S.D.s.getD j sec0).has := fun j => by rw [hsyn, x2 j]; exact ⟨rfl, rfl⟩
  have hlS : S.synD.s.length = 60 := hl1
  have xon : S.synD.off = false := x1
  -- the stamps of all eight sectors, and the greatest of them
  have stp : ∀ s, s ≤ 1 → ∀ i, i < 4 → Stp (S.synD.s.getD (s * 4 + i) sec0).has n := fun s hs1 i hi => by
    rw [(st _).1]
    by_cases q : s = S.r.slot
    · subst q
      have hp := h.r.ok.putLen
      rw [(h.dk.own i hi).1]
      exact (stp_new (by omega) (putR_bts h.r.ok.bts) _ hi).mono h.r.gen
    · have e : s = 1 - S.r.slot := by omega
      rw [e, slots _ (by omega)]
      exact (h.dk.spare i hi).1
  have sn : ∀ s, s ≤ 1 → seenSl (secsS S.synD s) ≤ n ∧ ∀ i, i < 4 → Stp (S.synD.s.getD (s * 4 + i) sec0).has (seenSl (secsS S.synD s)) := fun s hs1 => by
    have := seen_four (X := fun i => (S.synD.s.getD (s * 4 + i) sec0).has) (n := n) (by omega) (stp s hs1)
    rw [secsS_get xon (by rw [hlS]; omega)]
    exact this
  obtain ⟨m, hm⟩ : ∃ m, max S.r.gen (seenD S.synD) = m := ⟨_, rfl⟩
  have hsd : ∀ s, s ≤ 1 → seenSl (secsS S.synD s) ≤ seenD S.synD := fun s hs1 => by
    unfold seenD
    rcases (show s = 0 ∨ s = 1 by omega) with rfl | rfl <;> omega
  have hmn : m ≤ n ∧ S.r.gen ≤ m ∧ seenD S.synD ≤ m := by
    have h1 := (sn 0 (by decide)).1; have h2 := (sn 1 (by decide)).1; have h3 := h.r.gen
    have : seenD S.synD ≤ n := by unfold seenD; omega
    omega
  obtain ⟨r2, hr2⟩ : ∃ r2, S.nextR b = r2 := ⟨_, rfl⟩
  have e2 : r2.gen = m + 1 ∧ r2.slot = 1 - S.r.slot ∧ r2.ring = 4 ∧ r2.size = 12 ∧ r2.words = S.nwords ∧ r2.body = b := by
    rw [← hr2, ← hm]
    exact ⟨rfl, rfl, h.r.ring, h.size, rfl, rfl⟩
  rw [hr2] at hf ⊢
  clear hr2 hm
  obtain ⟨g2, s2, q2, z2, w2, b2⟩ := e2
  have mapn := h.fit.now
  rw [h.size] at mapn
  have ok2 : RtOK r2 60 := ⟨by omega, by omega, by omega, by rw [z2, q2]; rfl, by omega, by rw [z2, w2]; exact mapn, by rw [w2]; exact h.fit.nw, by rw [b2]; exact hbl, by rw [b2]; exact hb⟩
  have rk2 : RK r2 (m + 1) := ⟨ok2, q2, by omega, by omega⟩
  have hp2 := ok2.putLen
  have hpb2 := putR_bts ok2.bts
  have rkm : RK S.r m := ⟨h.r.ok, h.r.ring, h.r.slot, hmn.2.1⟩
  have e1 : putSlE (r2.gen : Int) (putR r2).length = 0 := by unfold putSlE; rw [if_neg (by omega), if_neg (by omega)]
  have W := wrAll_ok (putSl r2.gen (putR r2)) (D := S.synD) (r2.slot * 4) Y.ok xon (slot_secs (by omega) hpb2) (by rw [putSl_len, hlS]; omega)
  obtain ⟨q, hq⟩ : ∃ q, wrAll S.synD (r2.slot * 4) (putSl r2.gen (putR r2)) = q := ⟨_, rfl⟩
  rw [hq] at W
  have hE : ({ S with D := S.synD } : Sto).write r2 = if q.2 ≠ 0 then (({ S with D := S.synD } : Sto).did q, q.2) else if (syncD q.1).2 ≠ 0 then (({ S with D := S.synD } : Sto).did (syncD q.1), (syncD q.1).2) else ({ D := (syncD q.1).1, r := r2, nsize := r2.size, nwords := r2.words, bad := S.bad }, 0) := by
    unfold Sto.write
    dsimp only
    rw [hq, if_neg (by rw [e1]; decide)]
  rw [hE] at hf ⊢
  clear hE hq
  have hlq : q.1.s.length = 60 := W.len.trans hlS
  have out : ∀ j, (j < r2.slot * 4 ∨ r2.slot * 4 + 4 ≤ j) → (q.1.s.getD j sec0).has = (S.D.s.getD j sec0).has ∧ (q.1.s.getD j sec0).safe = (S.D.s.getD j sec0).has := fun j hj => by rw [W.out j (by rw [putSl_len]; exact hj)]; exact st j
  have ins : ∀ i, i < 4 → (q.1.s.getD (r2.slot * 4 + i) sec0).safe = (S.D.s.getD (r2.slot * 4 + i) sec0).has ∧ ((q.1.s.getD (r2.slot * 4 + i) sec0).has = (q.1.s.getD (r2.slot * 4 + i) sec0).safe ∨ (True ∧ (q.1.s.getD (r2.slot * 4 + i) sec0).has = slotSec r2.gen (putR r2) i)) := fun i hi => by
    have hget : (putSl r2.gen (putR r2))[i]? = some (slotSec r2.gen (putR r2) i) := by
      rw [putSl_four]
      rcases (show i = 0 ∨ i = 1 ∨ i = 2 ∨ i = 3 by omega) with rfl | rfl | rfl | rfl <;> rfl
    rcases W.ins i _ hget with z | z
    · rw [z]
      obtain ⟨a, c⟩ := st (r2.slot * 4 + i)
      exact ⟨c, .inl (a.trans c.symm)⟩
    · rw [z]
      exact ⟨(st _).2, .inr ⟨trivial, rfl⟩⟩
  have hback : 1 - r2.slot = S.r.slot := by omega
  have himg1 : ∀ t : List Sec, t.length = 60 → (∀ j, 12 ≤ j → (t.getD j sec0).has = (S.D.s.getD j sec0).has) → imgD t 4 12 S.r.body S.r.words = last ∧ imgD t 4 12 r2.body r2.words = nextL S b := fun t ht hj => by
    refine ⟨?_, ?_⟩
    · rw [h.img]
      exact imgD_ext (ht.trans h.len.symm) _ fun k hk _ i hi => hj _ (by omega)
    · unfold nextL
      rw [b2, w2, h.r.ring, h.size]
      exact imgD_ext (ht.trans h.len.symm) _ fun k hk _ i hi => hj _ (by omega)
  have hold : ∀ t : List Sec, (∀ i, i < 4 → (t.getD (r2.slot * 4 + i) sec0).safe = (S.D.s.getD (r2.slot * 4 + i) sec0).has) → ∀ r', getX 60 [(t.getD ((1 - S.r.slot) * 4 + 0) sec0).safe, (t.getD ((1 - S.r.slot) * 4 + 1) sec0).safe, (t.getD ((1 - S.r.slot) * 4 + 2) sec0).safe, (t.getD ((1 - S.r.slot) * 4 + 3) sec0).safe] (1 - S.r.slot) = some r' → r'.gen < S.r.gen := fun t ht r' hr' => by
    rw [← s2, ht 0 (by decide), ht 1 (by decide), ht 2 (by decide), ht 3 (by decide), slots _ (by omega), slots _ (by omega), slots _ (by omega), slots _ (by omega), s2] at hr'
    exact h.dk.old r' hr'
  have dkq : DK q.1.s S.r m True r2 := by
    refine ⟨fun i hi => ?_, fun i hi => ?_, hold q.1.s (fun i hi => (ins i hi).1), fun k hk hb' i hi => ?_⟩
    · obtain ⟨a, c⟩ := out (S.r.slot * 4 + i) (by omega)
      rw [a, c]
      exact ⟨(h.dk.own i hi).1, (h.dk.own i hi).1⟩
    · rw [← s2]
      refine ⟨?_, (ins i hi).2⟩
      rw [(ins i hi).1, ← (st _).1]
      exact ((sn r2.slot (by omega)).2 i hi).mono (Nat.le_trans (hsd _ (by omega)) hmn.2.2)
    · obtain ⟨a, c⟩ := out (12 + 4 * k + i) (by omega)
      rw [a, c]
  have upq : ∀ D2 : Dsk, D2.OK → D2.s = q.1.s → UP D2 last (nextL S b) (n + 2) := fun D2 hok hs2 f hff => by
    have dk := dkq
    rw [← hs2] at dk
    obtain ⟨S', o1, o2⟩ := dk.up rkm hok (by rw [hs2]; exact hlq) (by omega) (fun _ => ⟨rk2, s2, by omega, fun k hk _ i hi => by
      rw [hs2]
      obtain ⟨a, c⟩ := out (12 + 4 * k + i) (by omega)
      rw [a, c]⟩) hff
    obtain ⟨i1, i2⟩ := himg1 D2.s (by rw [hs2]; exact hlq) (fun j hj => by rw [hs2]; exact (out j (by omega)).1)
    rw [i1, i2] at o2
    exact ⟨S', o1, o2.elim (fun z => .inl (z.more (by omega))) (fun z => .inr (z.2.more (by omega)))⟩
  by_cases hq0 : q.2 = 0
  rotate_left
  · rw [if_pos hq0] at hf ⊢
    exact ⟨fun z => absurd z hq0, fun _ => ⟨W.no hq0, upq q.1 W.ok rfl⟩⟩
  rw [if_neg (by omega)] at hf ⊢
  obtain ⟨w1, w3⟩ := W.yes hq0
  have Z := syncD_out W.ok w1
  have hlz : (syncD q.1).1.s.length = 60 := Z.len.trans hlq
  have dkz : ∀ D2 : Dsk, (∀ j, D2.s.getD j sec0 = settleS (q.1.s.getD j sec0)) → DK D2.s r2 (m + 1) False r2 := fun D2 hz => by
    have hin : ∀ i, i < 4 → D2.s.getD (r2.slot * 4 + i) sec0 = ⟨slotSec r2.gen (putR r2) i, slotSec r2.gen (putR r2) i, false⟩ := fun i hi => by
      have hget : (putSl r2.gen (putR r2))[i]? = some (slotSec r2.gen (putR r2) i) := by
        rw [putSl_four]
        rcases (show i = 0 ∨ i = 1 ∨ i = 2 ∨ i = 3 by omega) with rfl | rfl | rfl | rfl <;> rfl
      rw [hz, w3 i _ hget]
      rfl
    have hown : ∀ i, i < 4 → (D2.s.getD (S.r.slot * 4 + i) sec0).has = slotSec S.r.gen (putR S.r) i ∧ (D2.s.getD (S.r.slot * 4 + i) sec0).safe = slotSec S.r.gen (putR S.r) i := fun i hi => by
      rw [hz]
      have := (out (S.r.slot * 4 + i) (by omega)).1
      show (q.1.s.getD (S.r.slot * 4 + i) sec0).has = _ ∧ (q.1.s.getD (S.r.slot * 4 + i) sec0).has = _
      rw [this, (h.dk.own i hi).1]
      exact ⟨rfl, rfl⟩
    refine ⟨fun i hi => by rw [hin i hi]; exact ⟨rfl, rfl⟩, fun i hi => ?_, fun r' hr' => ?_, fun k hk hb' i hi => by rw [hz]; rfl⟩
    · rw [hback, (hown i hi).1, (hown i hi).2]
      have hp1 := h.r.ok.putLen
      exact ⟨(stp_new (by omega) (putR_bts h.r.ok.bts) S.r.gen hi).mono (by omega), .inl rfl⟩
    · rw [hback, (hown 0 (by decide)).2, (hown 1 (by decide)).2, (hown 2 (by decide)).2, (hown 3 (by decide)).2, ← putSl_four] at hr'
      have := getX_own h.r.ok hr'
      omega
  have hzh : ∀ D2 : Dsk, (∀ j, D2.s.getD j sec0 = settleS (q.1.s.getD j sec0)) → ∀ j, 12 ≤ j → (D2.s.getD j sec0).has = (S.D.s.getD j sec0).has := fun D2 hz j hj => by
    rw [hz]
    exact (out j (by omega)).1
  by_cases hz0 : (syncD q.1).2 = 0
  · rw [if_neg (by omega)] at hf ⊢
    obtain ⟨z1, z3⟩ := Z.yes hz0
    refine ⟨fun _ => ⟨z1, hf, Z.ok, z1, h.good, hlz, z2, rk2.more (by omega), (dkz _ z3).more (by omega), ?_⟩, fun z => absurd rfl z⟩
    exact ((himg1 _ hlz (hzh _ z3)).2).symm
  · rw [if_pos hz0] at hf ⊢
    refine ⟨fun z => absurd z hz0, fun _ => ⟨Z.no hz0, ?_⟩⟩
    rcases Z.any with z | z
    · intro f hff
      obtain ⟨S', o1, o2⟩ := (dkz _ z).up (r2 := r2) rk2 Z.ok hlz (by omega) (fun y => y.elim) hff
      rw [(himg1 _ hlz (hzh _ z)).2] at o2
      exact ⟨S', o1, .inr ((o2.resolve_right fun y => y.1).more (by omega))⟩
    · exact upq _ Z.ok z
end Go.Proofs.YtmiglhlbhbfodaaGreatDoor

namespace Go.Proofs.YtmiglhlbhbfodaaGreatDoor
open Go.RowKit

def kS0 : Sto := (fmtS (newD 60) 4).2.1.getD (sto0 (newD 60))
set_option maxRecDepth 1000000 in
theorem k_fmt : fmtS (newD 60) 4 = ((fmtS (newD 60) 4).1, some kS0, 0) := by kernel_rfl
theorem k_fit : kS0.Fit := fit_of (by kernel_rfl)
theorem k_rt : kS0.r = ⟨1, 0, 4, 12, [0], []⟩ := by kernel_rfl
theorem k_len : kS0.D.s.length = 60 := by kernel_rfl
def secIs (s : List Sec) (j : Nat) (x : List Nat) : Bool := decide ((s.getD j sec0).has = x) && decide ((s.getD j sec0).safe = x)
set_option maxRecDepth 1000000 in
theorem k_own : ((List.range 4).all fun i => secIs kS0.D.s i (slotSec 1 (putR ⟨1, 0, 4, 12, [0], []⟩) i)) = true := by kernel_rfl
set_option maxRecDepth 1000000 in
theorem k_spare : ((List.range 4).all fun i => secIs kS0.D.s (4 + i) zeros) = true := by kernel_rfl
set_option maxRecDepth 1000000 in
theorem k_old : okSl [zeros, zeros, zeros, zeros] = false := by kernel_rfl
theorem secIs_of {s : List Sec} {j : Nat} {x : List Nat} (h : secIs s j x = true) : (s.getD j sec0).has = x ∧ (s.getD j sec0).safe = x := by
  unfold secIs at h
  simpa using h
theorem k_start : SK kS0 (imgS kS0) 1 := by
  have hD : kS0.D.OK := by
    have h8 : kS0.D = (fmtS (newD 60) 4).1 := by kernel_rfl
    have G := fmt_gi (N := 60) (by decide) (by decide)
    obtain ⟨S, e, gi, -⟩ := G
    have e2 : (fmtS (newD ((60 : Nat) : Int)) 4).2 = (some kS0, 0) := by show (fmtS (newD 60) 4).2 = _; rw [k_fmt]
    rw [e2] at e
    injection e with e _
    injection e with e
    rw [e]
    exact gi.ok
  have own := List.all_eq_true.1 k_own
  have spare := List.all_eq_true.1 k_spare
  have ho : ∀ i, i < 4 → (kS0.D.s.getD i sec0).has = slotSec 1 (putR ⟨1, 0, 4, 12, [0], []⟩) i ∧ (kS0.D.s.getD i sec0).safe = slotSec 1 (putR ⟨1, 0, 4, 12, [0], []⟩) i := fun i hi => secIs_of (own i (List.mem_range.2 hi))
  have hs : ∀ i, i < 4 → (kS0.D.s.getD (4 + i) sec0).has = zeros ∧ (kS0.D.s.getD (4 + i) sec0).safe = zeros := fun i hi => secIs_of (spare i (List.mem_range.2 hi))
  have hm : mapOK (12 : Nat) [0] = true := by decide
  refine ⟨k_fit, hD, by kernel_rfl, by kernel_rfl, k_len, by kernel_rfl, ?_, ?_, ?_⟩
  · rw [k_rt]
    exact ⟨⟨by decide, by decide, by decide, by decide, by decide, hm, fun x hx => by simp at hx; omega, by decide, bts_nil⟩, rfl, by decide, by decide⟩
  · rw [k_rt]
    refine ⟨fun i hi => ?_, fun i hi => ?_, fun r' hr' => ?_, fun k hk hb => ?_⟩
    · have := ho i hi
      show (kS0.D.s.getD (0 * 4 + i) sec0).has = _ ∧ (kS0.D.s.getD (0 * 4 + i) sec0).safe = _
      rw [show 0 * 4 + i = i from by omega]
      exact this
    · have := hs i hi
      show Stp (kS0.D.s.getD ((1 - 0) * 4 + i) sec0).safe 1 ∧ ((kS0.D.s.getD ((1 - 0) * 4 + i) sec0).has = (kS0.D.s.getD ((1 - 0) * 4 + i) sec0).safe ∨ _)
      rw [show (1 - 0) * 4 + i = 4 + i from by omega, this.1, this.2]
      exact ⟨stp_zeros.mono (by decide), .inl rfl⟩
    · have e : getX 60 [(kS0.D.s.getD (4 + 0) sec0).safe, (kS0.D.s.getD (4 + 1) sec0).safe, (kS0.D.s.getD (4 + 2) sec0).safe, (kS0.D.s.getD (4 + 3) sec0).safe] 1 = some r' := hr'
      rw [(hs 0 (by decide)).2, (hs 1 (by decide)).2, (hs 2 (by decide)).2, (hs 3 (by decide)).2, getX_bad k_old] at e
      cases e
    · exfalso
      have hz : ∀ j, bitN [0] j = false := fun j => bitN_zero 1 j
      rw [hz k] at hb
      cases hb
  · unfold imgS
    rw [show kS0.nwords = kS0.r.words from by kernel_rfl, show kS0.r.ring = 4 from by rw [k_rt], show kS0.nsize = 12 from by kernel_rfl]
end Go.Proofs.YtmiglhlbhbfodaaGreatDoor
