/- GGw: Runs, GGiv, Wf. -/
import Derived.Test.YtlkgdpdnhnakoaaGreatDoorGFm
import Derived.Test.YtlkgdpdnhnakoaaGreatDoorGNo
import Derived.Test.YtlkgdpdnhnakoaaGreatDoorGStB
import Derived.Test.YtlkgdpdnhnakoaaGreatDoorGBz
import Derived.Test.YtlkgdpdnhnakoaaGreatDoorGWl
namespace Go.Proofs.YtlkgdpdnhnakoaaGreatDoor
end Go.Proofs.YtlkgdpdnhnakoaaGreatDoor
namespace Go.Proofs.YtlkgdpdnhnakoaaGreatDoor
open Go.RowKit
theorem slotSec_front {g : Nat} (b : List Nat) (i : Nat) : frontS (slotSec g b i) = stmp g := by
  unfold frontS slotSec
  rw [List.append_assoc, List.append_assoc, List.take_append_of_le_length (by rw [stmp_len]; omega), List.take_of_length_le (by rw [stmp_len]; omega)]
theorem slotSec_back {g : Nat} {b : List Nat} (h : b.length ≤ 954) {i : Nat} (hi : i < 4) : backS (slotSec g b i) = stmp g := by
  unfold backS
  rw [slotSec_len h g hi]
  unfold slotSec
  rw [List.drop_append_of_le_length (by simp [stmp_len, partSl_len h hi]), List.drop_of_length_le (by simp [stmp_len, partSl_len h hi]), List.nil_append]
theorem putSl_four (g : Nat) (b : List Nat) : putSl g b = [slotSec g b 0, slotSec g b 1, slotSec g b 2, slotSec g b 3] := rfl
theorem seen1_put {b : List Nat} (h : b.length ≤ 954) {g : Nat} (h2 : g ≤ 1099511627776) {i : Nat} (hi : i < 4) (n : Nat) : seen1 n (slotSec g b i) = max n g := by
  unfold seen1
  rw [slotSec_front, slotSec_back h hi, slotSec_len h g hi, genS_stmp h2, if_pos rfl]
  omega
theorem seenSl_put {b : List Nat} (h : b.length ≤ 954) {g : Nat} (h2 : g ≤ 1099511627776) : seenSl (putSl g b) = g := by
  unfold seenSl
  rw [putSl_four]
  simp only [List.foldl_cons, List.foldl_nil]
  rw [seen1_put h h2 (by decide), seen1_put h h2 (by decide), seen1_put h h2 (by decide), seen1_put h h2 (by decide)]
  omega
theorem putW_len' (ws : List Nat) : (putW ws).length = 8 * ws.length := by
  induction ws with
  | nil => rfl
  | cons x ws ih => rw [show putW (x :: ws) = be 8 x ++ putW ws from by simp [putW], List.length_append, be_length, ih, List.length_cons]; omega
/-- A root that may be in a slot of a disk of N sectors. -/
structure RtOK (r : Rt) (N : Nat) : Prop where
  gen1 : 1 ≤ r.gen
  gen2 : r.gen ≤ 1099511627776
  ring : r.ring ≤ 256
  size : r.size = roomN N r.ring
  four : 4 ≤ r.size
  map : mapOK (r.size : Nat) r.words = true
  words : Words r.words
  body : r.body.length ≤ 700
  bts : Bts r.body
theorem RtOK.len {r : Rt} {N : Nat} (h : RtOK r N) : r.words.length = (r.size + 63) / 64 := by
  have := mapOK_len h.map
  rw [Int.toNat_natCast] at this
  exact this
end Go.Proofs.YtlkgdpdnhnakoaaGreatDoor
namespace Go.Proofs.YtlkgdpdnhnakoaaGreatDoor
open Go.RowKit
theorem callD_out (D : Dsk) (s : List Sec) : ((callD D s).2 = 0 → (callD D s).1.off = false ∧ (callD D s).1.s = s) ∧ ((callD D s).2 ≠ 0 → (callD D s).1.off = true) ∧ ((callD D s).1.s = s ∨ (callD D s).1.s = D.s) ∧ (D.after = -1 → (callD D s).2 = 0 ∧ (callD D s).1.after = -1) := by
  unfold callD
  simp only
  by_cases h : D.after = 0
  · refine ⟨fun q => ?_, fun _ => by simp [h], ?_, fun q => by omega⟩
    · rw [if_pos h] at q; cases q
    · split
      · exact .inr rfl
      · exact .inl rfl
  · refine ⟨fun _ => ⟨by simp [h], by rw [if_neg (fun q => h q.1)]⟩, fun q => ?_, .inl (by rw [if_neg (fun q => h q.1)]), fun q => ⟨if_neg h, by rw [if_pos q]⟩⟩
    rw [if_neg h] at q
    exact absurd rfl q
/-- A sector is as it was, or has something new that waits. -/
def Wrt (x y : Sec) (c : List Nat) : Prop := y = x ∨ y = ⟨c, x.safe, true⟩
/-- What writing a range of sectors leaves. -/
structure WrOK (D : Dsk) (F : Nat) (cs : List (List Nat)) (q : Dsk × Nat) : Prop where
  ok : q.1.OK
  len : q.1.s.length = D.s.length
  out : ∀ j, j < F ∨ F + cs.length ≤ j → q.1.s.getD j sec0 = D.s.getD j sec0
  ins : ∀ k c, cs[k]? = some c → Wrt (D.s.getD (F + k) sec0) (q.1.s.getD (F + k) sec0) c
  yes : q.2 = 0 → q.1.off = false ∧ ∀ k c, cs[k]? = some c → q.1.s.getD (F + k) sec0 = ⟨c, (D.s.getD (F + k) sec0).safe, true⟩
  no : q.2 ≠ 0 → q.1.off = true
  live : D.after = -1 → q.2 = 0 ∧ q.1.after = -1
theorem writeD_one {D : Dsk} (ho : D.off = false) {n : Nat} (hn : n < D.s.length) {b : List Nat} (hb : b.length = 256) : writeD D (n : Nat) b = callD D (putS D.s n b) := by
  have e : errD D (n : Nat) = 0 := by unfold errD; rw [ho]; simp; omega
  unfold writeD
  rw [if_pos e, if_pos hb, Int.toNat_natCast]
theorem putS_get (s : List Sec) (n : Nat) (b : List Nat) (m : Nat) : (putS s n b).getD m sec0 = if m = n ∧ n < s.length then ⟨b, (s.getD n sec0).safe, true⟩ else s.getD m sec0 := getD_set _ _ _ _
theorem wrAll_ok : ∀ (cs : List (List Nat)) {D : Dsk} (F : Nat), D.OK → D.off = false → (∀ c ∈ cs, c.length = 256 ∧ Bts c) → F + cs.length ≤ D.s.length → WrOK D F cs (wrAll D F cs)
  | [], D, F, h, ho, _, _ => ⟨h, rfl, fun _ _ => rfl, fun k c hk => by simp at hk, fun _ => ⟨ho, fun k c hk => by simp at hk⟩, fun q => absurd rfl q, fun q => ⟨rfl, q⟩⟩
  | c :: cs, D, F, h, ho, hc, hl => by
    have hc0 := hc c (by simp)
    have hl' : F + (cs.length + 1) ≤ D.s.length := hl
    have e := writeD_one ho (n := F) (by omega) hc0.1
    have hok := writeD_ok h (F : Nat) hc0.2
    have hlen : (writeD D (F : Nat) c).1.s.length = D.s.length := by
      rw [e]
      rcases (callD_out D (putS D.s F c)).2.2.1 with q | q
      · rw [q, putS_len]
      · rw [q]
    obtain ⟨c1, c2, c3, c4⟩ := callD_out D (putS D.s F c)
    rw [← e] at c1 c2 c3 c4
    have hget : ∀ j, (putS D.s F c).getD j sec0 = if j = F ∧ F < D.s.length then ⟨c, (D.s.getD F sec0).safe, true⟩ else D.s.getD j sec0 := putS_get _ _ _
    have gout : ∀ j, j ≠ F → (writeD D (F : Nat) c).1.s.getD j sec0 = D.s.getD j sec0 := fun j hj => by
      rcases c3 with q | q
      · rw [q, hget, if_neg (fun z => hj z.1)]
      · rw [q]
    have gin : Wrt (D.s.getD F sec0) ((writeD D (F : Nat) c).1.s.getD F sec0) c := by
      rcases c3 with q | q
      · exact .inr (by rw [q, hget, if_pos ⟨rfl, by omega⟩])
      · exact .inl (by rw [q])
    show WrOK D F (c :: cs) (if (writeD D (F : Nat) c).2 = 0 then wrAll (writeD D (F : Nat) c).1 (F + 1) cs else writeD D (F : Nat) c)
    by_cases h0 : (writeD D (F : Nat) c).2 = 0
    · rw [if_pos h0]
      obtain ⟨o1, o2⟩ := c1 h0
      have R := wrAll_ok cs (F + 1) hok o1 (fun x hx => hc x (by simp [hx])) (by rw [hlen]; omega)
      have g0 : (writeD D (F : Nat) c).1.s.getD F sec0 = ⟨c, (D.s.getD F sec0).safe, true⟩ := by rw [o2, hget, if_pos ⟨rfl, by omega⟩]
      refine ⟨R.ok, R.len.trans hlen, fun j hj => ?_, fun k x hk => ?_, fun q => ⟨(R.yes q).1, fun k x hk => ?_⟩, R.no, fun q => R.live (c4 q).2⟩
      · simp only [List.length_cons] at hj
        rw [R.out j (by omega), gout j (by omega)]
      · cases k with
        | zero =>
          simp at hk
          subst hk
          simp only [Nat.add_zero]
          rw [R.out F (by omega)]
          exact gin
        | succ k =>
          have := R.ins k x (by simpa using hk)
          rw [show F + (k + 1) = F + 1 + k from by omega]
          rw [gout (F + 1 + k) (by omega)] at this
          exact this
      · cases k with
        | zero =>
          simp at hk
          subst hk
          simp only [Nat.add_zero]
          rw [R.out F (by omega)]
          exact g0
        | succ k =>
          have := (R.yes q).2 k x (by simpa using hk)
          rw [show F + (k + 1) = F + 1 + k from by omega]
          rw [gout (F + 1 + k) (by omega)] at this
          exact this
    · rw [if_neg h0]
      refine ⟨hok, hlen, fun j hj => gout j (by simp only [List.length_cons] at hj; omega), fun k x hk => ?_, fun q => absurd q h0, c2, fun q => absurd (c4 q).1 h0⟩
      cases k with
      | zero =>
        simp at hk
        subst hk
        exact gin
      | succ k => exact .inl (gout _ (by omega))
theorem settle_get (s : List Sec) (n : Nat) : (settle s).getD n sec0 = settleS (s.getD n sec0) := by
  unfold settle
  rw [List.getD_eq_getElem?_getD, List.getD_eq_getElem?_getD, List.getElem?_map]
  cases s[n]? with
  | none => rfl
  | some x => rfl
/-- What a Sync leaves. -/
structure SyOK (D : Dsk) (q : Dsk × Nat) : Prop where
  ok : q.1.OK
  len : q.1.s.length = D.s.length
  any : (∀ j, q.1.s.getD j sec0 = settleS (D.s.getD j sec0)) ∨ q.1.s = D.s
  yes : q.2 = 0 → q.1.off = false ∧ ∀ j, q.1.s.getD j sec0 = settleS (D.s.getD j sec0)
  no : q.2 ≠ 0 → q.1.off = true
  live : D.after = -1 → q.2 = 0 ∧ q.1.after = -1
theorem syncD_out {D : Dsk} (h : D.OK) (ho : D.off = false) : SyOK D (syncD D) := by
  have e : syncD D = callD D (settle D.s) := by unfold syncD; rw [ho]; rfl
  have hok := syncD_ok h
  obtain ⟨c1, c2, c3, c4⟩ := callD_out D (settle D.s)
  rw [← e] at c1 c2 c3 c4
  refine ⟨hok, ?_, ?_, fun q => ⟨(c1 q).1, fun j => by rw [(c1 q).2, settle_get]⟩, c2, c4⟩
  · rcases c3 with q | q
    · rw [q, settle_len]
    · rw [q]
  · rcases c3 with q | q
    · exact .inl fun j => by rw [q, settle_get]
    · exact .inr q
/-- What is read off four sectors of a slot. -/
theorem secsS_get {D : Dsk} (ho : D.off = false) {n : Nat} (hn : n * 4 + 4 ≤ D.s.length) : secsS D n = [(D.s.getD (n * 4) sec0).has, (D.s.getD (n * 4 + 1) sec0).has, (D.s.getD (n * 4 + 2) sec0).has, (D.s.getD (n * 4 + 3) sec0).has] := by
  unfold secsS
  have e : ∀ i, i < 4 → (readD D ((n * 4 + i : Nat) : Int)).1 = (D.s.getD (n * 4 + i) sec0).has := fun i hi => by rw [read_live ho (by omega)]
  show [(readD D ((n * 4 + 0 : Nat) : Int)).1, (readD D ((n * 4 + 1 : Nat) : Int)).1, (readD D ((n * 4 + 2 : Nat) : Int)).1, (readD D ((n * 4 + 3 : Nat) : Int)).1] = _
  rw [e 0 (by decide), e 1 (by decide), e 2 (by decide), e 3 (by decide)]
  rfl
/-- A sector has the stamps of its slot. -/
theorem secsS_ext {D E : Dsk} (hD : D.off = false) (hE : E.off = false) {n : Nat} (hn : n * 4 + 4 ≤ D.s.length) (hl : E.s.length = D.s.length) (h : ∀ i, i < 4 → (E.s.getD (n * 4 + i) sec0).has = (D.s.getD (n * 4 + i) sec0).has) : secsS E n = secsS D n := by
  have h0 := h 0 (by decide)
  rw [Nat.add_zero] at h0
  rw [secsS_get hD hn, secsS_get hE (by omega), h0, h 1 (by decide), h 2 (by decide), h 3 (by decide)]
end Go.Proofs.YtlkgdpdnhnakoaaGreatDoor
namespace Go.Proofs.YtlkgdpdnhnakoaaGreatDoor
open Go.RowKit
/-- A store on a disk that does not fail, n generations on. -/
structure GI (S : Sto) (n N : Nat) : Prop where
  fit : S.Fit
  ok : S.D.OK
  live : Live S.D
  good : S.bad = false
  seen : seenD S.D ≤ n
  gen : S.r.gen ≤ n
  len : S.D.s.length = N
  eight : 8 ≤ N
  slot : S.r.slot ≤ 1
  ring : S.r.ring = 4
  few : S.nsize ≤ 512
theorem GI.alloc {S : Sto} {n N : Nat} (h : GI S n N) : GI S.alloc.1 n N := by
  have hf := h.fit.alloc
  revert hf
  unfold Sto.alloc
  split
  · exact fun _ => h
  · split
    · exact fun _ => h
    · exact fun hf => ⟨hf, h.ok, h.live, h.good, h.seen, h.gen, h.len, h.eight, h.slot, h.ring, h.few⟩
theorem GI.free {S : Sto} {n N : Nat} (h : GI S n N) (k : Int) : GI (S.free k).1 n N := by
  have hf := h.fit.free k
  revert hf
  unfold Sto.free
  split
  · exact fun _ => h
  · exact fun hf => ⟨hf, h.ok, h.live, h.good, h.seen, h.gen, h.len, h.eight, h.slot, h.ring, h.few⟩
theorem putR_len {r : Rt} (h : r.words.length = (r.size + 63) / 64) (hs : r.size ≤ 512) (hb : r.body.length ≤ 700) : (putR r).length ≤ 800 := by
  have h3 := putW_len' r.words
  have h4 := putSmall_len r.ring; have h5 := putSmall_len r.size
  unfold putR
  simp only [List.length_append]
  omega
theorem slot_secs {g : Nat} {b : List Nat} (h : b.length ≤ 954) (hb : Bts b) : ∀ c ∈ putSl g b, c.length = 256 ∧ Bts c := by
  intro c hc
  unfold putSl at hc
  obtain ⟨i, hi, rfl⟩ := List.mem_map.1 hc
  exact ⟨slotSec_len h g (List.mem_range.1 hi), slotSec_bts h hb g (List.mem_range.1 hi)⟩
/-- A root is written to a slot of a disk that does not fail. -/
theorem write_gi {S : Sto} {n N : Nat} (hok : S.D.OK) (hlive : Live S.D) (hseen : seenD S.D ≤ n) (hl : S.D.s.length = N) (h8 : 8 ≤ N) (r : Rt) (hr : r.slot ≤ 1) (g1 : 1 ≤ r.gen) (g2 : r.gen ≤ n + 1) (hn : n ≤ 1000)
    (hm : mapOK (r.size : Nat) r.words = true) (hs : r.size ≤ 512) (hb : r.body.length ≤ 700) (hbb : Bts r.body) :
    (S.write r).2 = 0 ∧ (S.write r).1.r = r ∧ (S.write r).1.nsize = r.size ∧ (S.write r).1.nwords = r.words ∧ (S.write r).1.bad = S.bad ∧ (S.write r).1.D.OK ∧ Live (S.write r).1.D ∧ seenD (S.write r).1.D ≤ n + 1 ∧ (S.write r).1.D.s.length = N := by
  have hlen : r.words.length = (r.size + 63) / 64 := by have := mapOK_len hm; rw [Int.toNat_natCast] at this; exact this
  have hp := putR_len hlen hs hb
  have hpb := putR_bts hbb
  have e1 : putSlE (r.gen : Int) (putR r).length = 0 := by unfold putSlE; rw [if_neg (by omega), if_neg (by omega)]
  have W := wrAll_ok (putSl r.gen (putR r)) (D := S.D) (r.slot * 4) hok hlive.1 (slot_secs (by omega) hpb) (by rw [putSl_len]; omega)
  obtain ⟨w1, w2⟩ := W.live hlive.2
  obtain ⟨y1, y2⟩ := W.yes w1
  have Y := syncD_out W.ok y1
  obtain ⟨z1, z2⟩ := Y.live w2
  obtain ⟨x1, x2⟩ := Y.yes z1
  have E : S.write r = ({ D := (syncD (wrAll S.D (r.slot * 4) (putSl r.gen (putR r))).1).1, r := r, nsize := r.size, nwords := r.words, bad := S.bad }, 0) := by
    unfold Sto.write
    rw [if_neg (by rw [e1]; decide), if_neg (by rw [w1]; decide), if_neg (by rw [z1]; decide)]
  rw [E]
  have hlen2 : (syncD (wrAll S.D (r.slot * 4) (putSl r.gen (putR r))).1).1.s.length = S.D.s.length := Y.len.trans W.len
  refine ⟨rfl, rfl, rfl, rfl, rfl, Y.ok, ⟨x1, z2⟩, ?_, hlen2.trans hl⟩
  dsimp only
  generalize hD2 : (syncD (wrAll S.D (r.slot * 4) (putSl r.gen (putR r))).1).1 = D2 at *
  generalize hD1 : (wrAll S.D (r.slot * 4) (putSl r.gen (putR r))).1 = D1 at *
  have own : secsS D2 r.slot = putSl r.gen (putR r) := by
    rw [secsS_get x1 (by omega), putSl_four]
    have k : ∀ i c, (putSl r.gen (putR r))[i]? = some c → (D2.s.getD (r.slot * 4 + i) sec0).has = c := fun i c hc => by
      rw [x2, y2 i c hc]
      rfl
    rw [putSl_four] at k
    have k0 := k 0 _ rfl
    rw [Nat.add_zero] at k0
    rw [k0, k 1 _ rfl, k 2 _ rfl, k 3 _ rfl]
  have other : secsS D2 (1 - r.slot) = secsS S.D (1 - r.slot) := secsS_ext hlive.1 x1 (by omega) hlen2 fun i hi => by
    rw [x2, ← hD1, W.out _ (by rw [putSl_len]; omega)]
    rfl
  have hsl := seenSl_put (b := putR r) (by omega) (g := r.gen) (by omega)
  rcases (show r.slot = 0 ∨ r.slot = 1 by omega) with q | q
  · rw [q] at own other
    unfold seenD at hseen ⊢
    rw [own, hsl, show (1 : Nat) = 1 - 0 from rfl, other]
    have : seenSl (secsS S.D (1 - 0)) ≤ n := by have := Nat.le_max_right (seenSl (secsS S.D 0)) (seenSl (secsS S.D 1)); exact Nat.le_trans this hseen
    omega
  · rw [q] at own other
    unfold seenD at hseen ⊢
    rw [own, hsl]
    have e0 : secsS D2 0 = secsS S.D 0 := other
    rw [e0]
    have : seenSl (secsS S.D 0) ≤ n := by have := Nat.le_max_left (seenSl (secsS S.D 0)) (seenSl (secsS S.D 1)); exact Nat.le_trans this hseen
    omega
theorem GI.commit {S : Sto} {n N : Nat} (h : GI S n N) (hn : n ≤ 900) {b : List Nat} (hb : b.length ≤ 700) (hbb : Bts b) :
    (S.commit b).2 = 0 ∧ GI (S.commit b).1 (n + 1) N ∧ (S.commit b).1.nwords = S.nwords ∧ (S.commit b).1.r.words = S.nwords ∧ (S.commit b).1.nsize = S.nsize := by
  have hf := h.fit.commit b
  have Y := syncD_out h.ok h.live.1
  obtain ⟨z1, z2⟩ := Y.live h.live.2
  obtain ⟨x1, x2⟩ := Y.yes z1
  have e : S.commit b = ({ S with D := S.synD } : Sto).write (S.nextR b) := by
    unfold Sto.commit
    rw [h.good, if_neg (by decide), if_neg (by omega), if_neg (by rw [z1]; decide)]
  have hs : seenD S.synD = seenD S.D := by
    have h8 := h.eight; have hl := h.len
    unfold seenD
    rw [secsS_ext (E := S.synD) h.live.1 x1 (by omega) Y.len (fun i _ => by rw [show S.synD = (syncD S.D).1 from rfl, x2]; rfl), secsS_ext (E := S.synD) h.live.1 x1 (by omega) Y.len (fun i _ => by rw [show S.synD = (syncD S.D).1 from rfl, x2]; rfl)]
  have hse := h.seen; have hge := h.gen
  obtain ⟨w1, w2, w3, w4, w5, w6, w7, w8, w9⟩ := write_gi (S := { S with D := S.synD }) (n := n) (N := N) Y.ok ⟨x1, z2⟩ (by show seenD S.synD ≤ n; rw [hs]; exact hse) (Y.len.trans h.len) h.eight (S.nextR b) (by show 1 - S.r.slot ≤ 1; omega)
    (by show 1 ≤ max S.r.gen (seenD S.synD) + 1; omega) (by show max S.r.gen (seenD S.synD) + 1 ≤ n + 1; rw [hs]; omega) (by omega) h.fit.now h.few hb hbb
  rw [e] at hf ⊢
  refine ⟨w1, ⟨hf, w6, w7, w5.trans h.good, w8, ?_, w9, h.eight, ?_, ?_, ?_⟩, w4, ?_, w3⟩
  · rw [w2]; show max S.r.gen (seenD S.synD) + 1 ≤ n + 1; rw [hs]; omega
  · rw [w2]; show 1 - S.r.slot ≤ 1; omega
  · rw [w2]; exact h.ring
  · rw [w3]; exact h.few
  · rw [w2]; rfl
theorem seen_new {n : Nat} (h : 8 ≤ n) (h2 : n ≤ 4096) : seenD (newD (n : Nat)) = 0 := by
  have hs : (newD (n : Nat)).s = List.replicate n sec0 := by unfold newD secsOf; simp; omega
  have hl : (newD (n : Nat)).s.length = n := by rw [hs]; simp
  have hg : ∀ j, (newD (n : Nat)).s.getD j sec0 = sec0 := fun j => by
    rw [hs, List.getD_eq_getElem?_getD, List.getElem?_replicate]
    split <;> rfl
  unfold seenD
  rw [secsS_get rfl (by omega), secsS_get rfl (by omega)]
  simp only [hg]
  show max (seenSl [sec0.has, sec0.has, sec0.has, sec0.has]) (seenSl [sec0.has, sec0.has, sec0.has, sec0.has]) = 0
  kernel_rfl
/-- Taking, counted. -/
theorem cnt_ext {xs ys : List Nat} (k : Nat) (h : ∀ j, j < k → bitN xs j = bitN ys j) : cnt xs k = cnt ys k := by
  induction k with
  | zero => rfl
  | succ k ih => simp only [cnt]; rw [ih (fun j hj => h j (by omega)), h k (by omega)]
theorem cnt_put {ws : List Nat} {n : Nat} (hn : n / 64 < ws.length) (hb : bitN ws n = false) (k : Nat) : cnt (putN ws n true) k = cnt ws k + (if n < k then 1 else 0) := by
  induction k with
  | zero => rfl
  | succ k ih =>
    simp only [cnt]
    rw [ih, putN_bit _ _ _ hn]
    by_cases e : k = n
    · subst e
      rw [if_pos rfl, hb, if_neg (by omega), if_pos (by omega)]
      rfl
    · rw [if_neg e]
      by_cases q : n < k
      · rw [if_pos q, if_pos (by omega)]; omega
      · rw [if_neg q, if_neg (by omega)]; omega
theorem cnt_all {ws : List Nat} {k : Nat} (h : ∀ j, j < k → bitN ws j = true) : cnt ws k = k := by
  induction k with
  | zero => rfl
  | succ k ih => simp only [cnt]; rw [ih (fun j hj => h j (by omega)), h k (by omega)]; rfl
theorem cnt_less {ws : List Nat} {k j : Nat} (hj : j < k) (h : bitN ws j = false) : cnt ws k < k := by
  induction k with
  | zero => omega
  | succ k ih =>
    simp only [cnt]
    have := cnt_le ws k
    by_cases e : j = k
    · subst e; rw [h]; simp; omega
    · have := ih (by omega); cases bitN ws k <;> simp <;> omega
theorem cnt_full {ws : List Nat} {k : Nat} (h : k ≤ cnt ws k) : ∀ j, j < k → bitN ws j = true := by
  intro j hj
  cases hb : bitN ws j with
  | true => rfl
  | false => have := cnt_less hj hb; omega
theorem rankN_eq {s : Nat} {ws : List Nat} (h : mapOK (s : Nat) ws = true) : rankN (s : Nat) ws (s : Nat) = cnt ws s := by
  unfold rankN
  rw [if_pos h, show min (s : Int) (s : Int) = (s : Int) from by omega, Int.toNat_natCast]
theorem both_bit {S : Sto} (_h : S.Fit) {j : Nat} (hj : j < S.nsize) : bitN S.both j = (bitN S.nwords j || bitN S.r.words j) := or_bits _ _ _ _ (by omega)
theorem roomS_eq {S : Sto} (h : S.Fit) : S.roomS = S.nsize - cnt S.both S.nsize := by unfold Sto.roomS; rw [rankN_eq h.bothOK]
theorem pick_none {S : Sto} (h : S.Fit) (hp : S.pick = none) : ∀ j, j < S.nsize → bitN S.both j = true := by
  have := nextF_spec (S.nsize : Nat) S.both 0 false
  unfold Sto.pick at hp
  rw [hp] at this
  intro j hj
  have := this h.bothOK j (by omega) (by omega)
  simpa using this
theorem pick_some {S : Sto} (h : S.Fit) {n : Nat} (hp : S.pick = some n) : n < S.nsize ∧ bitN S.nwords n = false ∧ bitN S.r.words n = false := by
  have hs := nextF_spec (S.nsize : Nat) S.both 0 false
  have hn := h.pick_lt hp
  unfold Sto.pick at hp
  rw [hp] at hs
  have := hs.2.2.2.1
  rw [both_bit h hn] at this
  simp at this
  exact ⟨hn, this.1, this.2⟩
theorem inB_of {s : Nat} {ws : List Nat} (h : mapOK (s : Nat) ws = true) {n : Nat} (hn : n < s) : inB (s : Nat) ws (n : Nat) = true := by
  simp only [inB, h, Bool.true_and, Bool.and_eq_true, decide_eq_true_eq]
  omega
theorem setN_in {s : Nat} {ws : List Nat} (h : mapOK (s : Nat) ws = true) {n : Nat} (hn : n < s) (on : Bool) : setN (s : Nat) ws (n : Nat) on = putN ws n on ∧ n / 64 < ws.length := by
  have hi := inB_of h hn
  refine ⟨by unfold setN; rw [hi, if_pos rfl, Int.toNat_natCast], ?_⟩
  have := (inB_index hi).2.2.2.1
  rw [Int.toNat_natCast] at this
  exact this
theorem hasM_in {s : Nat} {ws : List Nat} (h : mapOK (s : Nat) ws = true) {n : Nat} (hn : n < s) : hasM (s : Nat) ws (n : Nat) = bitN ws n := by
  unfold hasM
  rw [inB_of h hn, Bool.true_and, Int.toNat_natCast]
end Go.Proofs.YtlkgdpdnhnakoaaGreatDoor
namespace Go.Proofs.YtlkgdpdnhnakoaaGreatDoor
open Go.RowKit
/-- What is given out counts j; all that counts is among it. -/
structure L2 (S : Sto) (r : Rt) (C : List Nat) (size j : Nat) : Prop where
  fit : S.Fit
  good : S.bad = false
  sz : S.nsize = size
  r_ : S.r = r
  c_ : r.words = C
  sup : ∀ k, k < size → bitN C k = true → bitN S.nwords k = true
  cnt_ : cnt S.nwords size = j
/-- All is given out, but what counts below n. -/
structure L3 (S : Sto) (r : Rt) (C : List Nat) (size n : Nat) : Prop where
  fit : S.Fit
  good : S.bad = false
  sz : S.nsize = size
  r_ : S.r = r
  c_ : r.words = C
  bits : ∀ k, k < size → bitN S.nwords k = !(bitN C k && decide (k < n))
theorem L2.both {S : Sto} {r : Rt} {C : List Nat} {size j : Nat} (h : L2 S r C size j) (k : Nat) (hk : k < size) : bitN S.both k = bitN S.nwords k := by
  rw [both_bit h.fit (by rw [h.sz]; exact hk), h.r_, h.c_]
  have := h.sup k hk
  cases hb : bitN C k
  · simp
  · rw [this hb]; rfl
theorem L2.start {S : Sto} {n N size : Nat} {C : List Nat} (h : GI S n N) (h1 : S.nwords = C) (h2 : S.r.words = C) (h3 : S.nsize = size) : L2 S S.r C size (cnt C size) ∧ S.roomS = size - cnt C size := by
  have hl : L2 S S.r C size (cnt C size) := ⟨h.fit, h.good, h3, rfl, h2, fun k _ hb => by rw [h1]; exact hb, by rw [h1]⟩
  refine ⟨hl, ?_⟩
  rw [roomS_eq h.fit, h3, cnt_ext size (fun k hk => hl.both k hk), h1]
theorem L2.step {S : Sto} {r : Rt} {C : List Nat} {size j : Nat} (h : L2 S r C size j) (hj : j < size) : ∃ n, S.alloc.2.1 = n ∧ S.alloc.2.2 = 0 ∧ n < size ∧ bitN C n = false ∧ L2 S.alloc.1 r C size (j + 1) := by
  cases hp : S.pick with
  | none =>
    have := pick_none h.fit hp
    rw [h.sz] at this
    have h1 := cnt_all (ws := S.nwords) (k := size) (fun k hk => by rw [← h.both k hk]; exact this k hk)
    have := h.cnt_
    omega
  | some n =>
    obtain ⟨p1, p2, p3⟩ := pick_some h.fit hp
    have hf := h.fit.alloc
    have e : S.alloc = ({ S with nwords := setN (S.nsize : Nat) S.nwords (n : Nat) true }, n, 0) := by unfold Sto.alloc; rw [h.good, hp, if_neg (by decide)]
    rw [e] at hf ⊢
    obtain ⟨q1, q2⟩ := setN_in h.fit.now p1 true
    rw [h.r_, h.c_] at p3
    rw [h.sz] at p1
    refine ⟨n, rfl, rfl, p1, p3, hf, h.good, h.sz, h.r_, h.c_, fun k hk hb => ?_, ?_⟩
    · show bitN (setN (S.nsize : Nat) S.nwords (n : Nat) true) k = true
      rw [q1, putN_bit _ _ _ q2]
      split
      · rfl
      · exact h.sup k hk hb
    · show cnt (setN (S.nsize : Nat) S.nwords (n : Nat) true) size = j + 1
      rw [q1, cnt_put q2 p2, h.cnt_, if_pos p1]
theorem L2.full {S : Sto} {r : Rt} {C : List Nat} {size : Nat} (h : L2 S r C size size) : S.alloc = (S, 0, 7) ∧ S.roomS = 0 ∧ rankN (size : Nat) S.nwords (size : Nat) = size ∧ L3 S r C size 0 := by
  have hall := cnt_full (Nat.le_of_eq h.cnt_.symm)
  have hb : ∀ k, k < size → bitN S.both k = true := fun k hk => by rw [h.both k hk]; exact hall k hk
  have hnow := h.fit.now
  rw [h.sz] at hnow
  refine ⟨?_, ?_, by rw [rankN_eq hnow]; exact h.cnt_, h.fit, h.good, h.sz, h.r_, h.c_, fun k hk => by rw [hall k hk]; simp⟩
  · cases hp : S.pick with
    | none => unfold Sto.alloc; rw [h.good, hp, if_neg (by decide)]
    | some n =>
      obtain ⟨p1, p2, -⟩ := pick_some h.fit hp
      rw [h.sz] at p1
      rw [hall n p1] at p2
      cases p2
  · rw [roomS_eq h.fit, h.sz, cnt_all hb]
    omega
theorem L3.room {S : Sto} {r : Rt} {C : List Nat} {size n : Nat} (h : L3 S r C size n) : S.roomS = 0 := by
  rw [roomS_eq h.fit, h.sz, cnt_all fun k hk => ?_]
  · omega
  · rw [both_bit h.fit (by rw [h.sz]; exact hk), h.r_, h.c_, h.bits k hk]
    cases bitN C k <;> simp
theorem L3.free {S : Sto} {r : Rt} {C : List Nat} {size n : Nat} (h : L3 S r C size n) (hn : n < size) (hb : bitN C n = true) : (S.free (n : Nat)).2 = 0 ∧ L3 (S.free (n : Nat)).1 r C size (n + 1) := by
  have hf := h.fit.free (n : Nat)
  have hin : hasM (S.nsize : Nat) S.nwords (n : Nat) = true := by
    rw [hasM_in h.fit.now (by rw [h.sz]; exact hn), h.bits n hn]
    simp
  have he : S.hasE (n : Nat) = 0 := by unfold Sto.hasE; rw [h.good, if_neg (by decide), if_pos hin]
  have e : S.free (n : Nat) = ({ S with nwords := setN (S.nsize : Nat) S.nwords (n : Nat) false }, 0) := by unfold Sto.free; rw [if_neg (fun q => q he)]
  rw [e] at hf ⊢
  obtain ⟨q1, q2⟩ := setN_in h.fit.now (by rw [h.sz]; exact hn) false
  refine ⟨rfl, hf, h.good, h.sz, h.r_, h.c_, fun k hk => ?_⟩
  show bitN (setN (S.nsize : Nat) S.nwords (n : Nat) false) k = _
  rw [q1, putN_bit _ _ _ q2]
  by_cases e : k = n
  · subst e
    rw [if_pos rfl, hb]
    simp
  · rw [if_neg e, h.bits k hk]
    congr 2
    simp
    omega
theorem L3.skip {S : Sto} {r : Rt} {C : List Nat} {size n : Nat} (h : L3 S r C size n) (hb : bitN C n = false) : L3 S r C size (n + 1) := by
  refine ⟨h.fit, h.good, h.sz, h.r_, h.c_, fun k hk => ?_⟩
  rw [h.bits k hk]
  by_cases e : k = n
  · subst e
    rw [hb]; rfl
  · congr 2
    simp
    omega
end Go.Proofs.YtlkgdpdnhnakoaaGreatDoor
namespace Go.Proofs.YtlkgdpdnhnakoaaGreatDoor
open Go.RowKit Go.Sort Go.Shelf
theorem wrs_allW : ∀ (cs : List (List Nat)) (D : Dsk) (F : Nat), wrs D F cs = wrAll D F cs
  | [], _, _ => rfl
  | c :: cs, D, F => by
    show (if (writeD D (F : Nat) c).2 = 0 then wrs (writeD D (F : Nat) c).1 (F + 1) cs else writeD D (F : Nat) c) = (if (writeD D (F : Nat) c).2 = 0 then wrAll (writeD D (F : Nat) c).1 (F + 1) cs else writeD D (F : Nat) c)
    rw [wrs_allW cs]
theorem chunks_okW {b : List Nat} (h : b.length ≤ 1016) (hb : Bts b) : ∀ c ∈ chunks (sealC b), c.length = 256 ∧ Bts c := by
  intro c hc
  have hl := sealC_len h
  have hbb := sealC_bts h hb
  simp only [chunks, List.mem_cons, List.not_mem_nil, or_false] at hc
  rcases hc with rfl | rfl | rfl | rfl
  · exact ⟨chunk_len hl (by decide), chunk_bts hbb _⟩
  · exact ⟨chunk_len hl (by decide), chunk_bts hbb _⟩
  · exact ⟨chunk_len hl (by decide), chunk_bts hbb _⟩
  · exact ⟨chunk_len hl (by decide), chunk_bts hbb _⟩
/-- What holds of the stores on the way. -/
structure FrS (S : Sto) (log bl N : Nat) : Prop where
  fit : S.Fit
  ok : S.D.OK
  live : Live S.D
  good : S.bad = false
  len : S.D.s.length = N
  ring : S.r.ring = log
  gen : S.r.gen = 1
  slot : S.r.slot = 0
  size : S.nsize = bl
  zero : S.r.words = List.replicate ((bl + 63) / 64) 0
theorem fr_fmt {log bl N : Nat} (h1 : log ≤ 256) (h2 : 4 ≤ bl) (h3 : bl ≤ 512) (hN : N = 8 + log + 4 * bl) : ∃ S, fmtS (newD (N : Nat)) (log : Nat) = (S.D, some S, 0) ∧ FrS S log bl N ∧ S.nwords = List.replicate ((bl + 63) / 64) 0 ∧ seenD S.D ≤ 1 := by
  have hl : (newD (N : Nat)).s.length = N := by unfold newD secsOf; simp; omega
  have hr : roomN N log = bl := by unfold roomN; omega
  have hfr : fmtR (newD (N : Nat)) log = ⟨0 + 1, 0, log, bl, List.replicate ((bl + 63) / 64) 0, []⟩ := by unfold fmtR; rw [seen_new (by omega) (by omega), hl, hr]
  have hz := zeros_ok (n := bl) (by omega)
  obtain ⟨w1, w2, w3, w4, w5, w6, w7, w8, w9⟩ := write_gi (S := sto0 (newD (N : Nat))) (n := 0) (N := N) (newD_ok _) ⟨rfl, rfl⟩ (by show seenD (newD (N : Nat)) ≤ 0; rw [seen_new (by omega) (by omega)]; omega) hl (by omega) (fmtR (newD (N : Nat)) log) (by rw [hfr]; simp) (by rw [hfr]; simp) (by rw [hfr]; simp) (by omega)
    (by rw [hfr]; exact hz) (by rw [hfr]; exact h3) (by rw [hfr]; simp) (by rw [hfr]; exact bts_nil)
  have hq : fmtS (newD (N : Nat)) (log : Nat) = (((sto0 (newD (N : Nat))).write (fmtR (newD (N : Nat)) log)).1.D, some ((sto0 (newD (N : Nat))).write (fmtR (newD (N : Nat)) log)).1, 0) := by
    unfold fmtS
    rw [if_neg (by rw [show (newD (N : Nat)).off = false from rfl]; decide), Int.toNat_natCast, if_neg (by rw [hl, hr]; omega)]
    rw [if_neg (by rw [w1]; decide)]
  refine ⟨_, hq, ⟨fmtS_fit (D := newD (N : Nat)) (log := (log : Nat)) (by rw [hq]), w6, w7, w5, w9, ?_, ?_, ?_, ?_, ?_⟩, ?_, w8⟩
  · rw [w2, hfr]
  · rw [w2, hfr]
  · rw [w2, hfr]
  · rw [w3, hfr]
  · rw [w2, hfr]
  · rw [w4, hfr]
theorem fr_alloc {S : Sto} {log bl N : Nat} (h : FrS S log bl N) (hz : S.nwords = List.replicate ((bl + 63) / 64) 0) (h2 : 4 ≤ bl) : ∃ S1, S.alloc = (S1, 0, 0) ∧ FrS S1 log bl N ∧ S1.D = S.D ∧ bitN S1.nwords 0 = true := by
  have hb : bitN S.both 0 = false := by rw [both_bit h.fit (by rw [h.size]; omega), hz, h.zero, bitN_zero]; rfl
  have hp : S.pick = some 0 := by
    have hs := nextF_spec (S.nsize : Nat) S.both 0 false
    cases hp : S.pick with
    | none => have := pick_none h.fit hp 0 (by rw [h.size]; omega); rw [hb] at this; cases this
    | some k =>
      unfold Sto.pick nextF at hp
      rw [if_pos h.fit.bothOK] at hp
      have hf := find_range (fun j : Nat => decide ((0 : Int) ≤ (j : Int)) && (bitN S.both j == false)) ((S.nsize : Nat) : Int).toNat
      rw [hp] at hf
      obtain ⟨_, _, f3⟩ := hf
      rcases Nat.eq_zero_or_pos k with rfl | hk
      · rfl
      · have := f3 0 hk; simp [hb] at this
  have hfit := h.fit.alloc
  have e : S.alloc = ({ S with nwords := setN (S.nsize : Nat) S.nwords ((0 : Nat) : Int) true }, 0, 0) := by unfold Sto.alloc; rw [h.good, hp, if_neg (by decide)]
  rw [e] at hfit
  refine ⟨_, e, ⟨hfit, h.ok, h.live, h.good, h.len, h.ring, h.gen, h.slot, h.size, h.zero⟩, rfl, ?_⟩
  obtain ⟨q1, q2⟩ := setN_in h.fit.now (n := 0) (by rw [h.size]; omega) true
  show bitN (setN (S.nsize : Nat) S.nwords ((0 : Nat) : Int) true) 0 = true
  rw [q1, putN_bit _ _ _ q2, if_pos rfl]
theorem fr_wr {S : Sto} {log bl N : Nat} (h : FrS S log bl N) (h1 : log ≤ 256) (h2 : 4 ≤ bl) (h3 : bl ≤ 512) (hN : N = 8 + log + 4 * bl) (hb0 : bitN S.nwords 0 = true) {b : List Nat} (hbl : b.length ≤ 1016) (hb : Bts b) (hseen : seenD S.D ≤ 1) : ∃ S2, S.wr ((0 : Nat) : Int) b = (S2, 0) ∧ FrS S2 log bl N ∧ seenD S2.D ≤ 1 := by
  have hf := h.fit.wr ((0 : Nat) : Int) b
  have hin : hasM (S.nsize : Nat) S.nwords ((0 : Nat) : Int) = true := by rw [hasM_in h.fit.now (by rw [h.size]; omega)]; exact hb0
  have hout : hasM (S.r.size : Nat) S.r.words ((0 : Nat) : Int) = false := by
    rw [hasM_in (by rw [h.fit.one]; exact h.fit.cnt) (by rw [h.fit.one, h.size]; omega), h.zero, bitN_zero]
  have hE : S.hasE ((0 : Nat) : Int) = 0 := by unfold Sto.hasE; rw [h.good, hin]; rfl
  have hat : atA S.D.s.length ((8 + S.r.ring : Nat) : Int) (S.nsize : Nat) ((0 : Nat) : Int) = 0 := by
    have e1 : errA S.D.s.length ((8 + S.r.ring : Nat) : Int) (S.nsize : Nat) = 0 := by
      unfold errA
      rw [h.len, h.ring, h.size]
      exact if_pos ⟨mayB_iff.2 (by omega), by omega⟩
    unfold atA
    rw [if_pos e1, h.size, if_pos (hasB_iff.2 (by omega))]
  have hq : S.wq ((0 : Nat) : Int) b = wrAll S.D (8 + log) (chunks (sealC b)) := by
    unfold Sto.wq writeB
    rw [if_pos hat, if_pos hbl, wrs_allW, h.ring, show (((8 + log : Nat) : Int) + 4 * ((0 : Nat) : Int)).toNat = 8 + log from by omega]
  have W := wrAll_ok (chunks (sealC b)) (D := S.D) (8 + log) h.ok h.live.1 (chunks_okW hbl hb) (by rw [h.len]; show 8 + log + 4 ≤ N; omega)
  obtain ⟨l1, l2⟩ := W.live h.live.2
  obtain ⟨y1, -⟩ := W.yes l1
  have e : S.wr ((0 : Nat) : Int) b = ({ S with D := (S.wq ((0 : Nat) : Int) b).1 }, 0) := by
    unfold Sto.wr
    rw [if_neg (by rw [hE]; decide), if_neg (by rw [hout]; decide), hq, if_neg (by rw [l1]; decide), l1]
    unfold Sto.did
    rw [l1, h.good]
    rfl
  rw [e] at hf
  refine ⟨_, e, ⟨hf, by rw [hq]; exact W.ok, by rw [hq]; exact ⟨y1, l2⟩, h.good, by rw [hq]; exact W.len.trans h.len, h.ring, h.gen, h.slot, h.size, h.zero⟩, ?_⟩
  rw [hq]
  show seenD (wrAll S.D (8 + log) (chunks (sealC b))).1 ≤ 1
  have hl := h.len
  have hx : ∀ n, n < 2 → secsS (wrAll S.D (8 + log) (chunks (sealC b))).1 n = secsS S.D n := fun n hn => secsS_ext h.live.1 y1 (by omega) W.len (fun i hi => by rw [W.out _ (.inl (by omega))])
  unfold seenD at hseen ⊢
  rw [hx 0 (by decide), hx 1 (by decide)]
  exact hseen
theorem fr_commit {S : Sto} {log bl N : Nat} (h : FrS S log bl N) (h3 : bl ≤ 512) (hN : N = 8 + log + 4 * bl) (hseen : seenD S.D ≤ 1) {b : List Nat} (hbl : b.length ≤ 700) (hb : Bts b) : ∃ S3, S.commit b = (S3, 0) := by
  have Y := syncD_out h.ok h.live.1
  obtain ⟨z1, z2⟩ := Y.live h.live.2
  obtain ⟨x1, x2⟩ := Y.yes z1
  have hl := h.len
  have e : S.commit b = ({ S with D := S.synD } : Sto).write (S.nextR b) := by
    unfold Sto.commit
    rw [h.good, if_neg (by decide), if_neg (by omega), if_neg (by rw [z1]; decide)]
  have hs : seenD S.synD = seenD S.D := by
    unfold seenD
    rw [secsS_ext (E := S.synD) h.live.1 x1 (by omega) Y.len (fun i _ => by rw [show S.synD = (syncD S.D).1 from rfl, x2]; rfl), secsS_ext (E := S.synD) h.live.1 x1 (by omega) Y.len (fun i _ => by rw [show S.synD = (syncD S.D).1 from rfl, x2]; rfl)]
  have hg := h.gen; have hsl := h.slot
  obtain ⟨w1, -⟩ := write_gi (S := { S with D := S.synD }) (n := 1) (N := N) Y.ok ⟨x1, z2⟩ (by show seenD S.synD ≤ 1; rw [hs]; exact hseen) (Y.len.trans h.len) (by omega) (S.nextR b) (by show 1 - S.r.slot ≤ 1; omega)
    (by show 1 ≤ max S.r.gen (seenD S.synD) + 1; omega) (by show max S.r.gen (seenD S.synD) + 1 ≤ 1 + 1; rw [hs]; omega) (by omega) h.fit.now (by show S.nsize ≤ 512; rw [h.size]; exact h3) hbl hb
  exact ⟨_, by rw [e]; exact Prod.ext rfl w1⟩
/-- All of it. -/
theorem fr_all {log bl N : Nat} (h1 : log ≤ 256) (h2 : 4 ≤ bl) (h3 : bl ≤ 512) (hN : N = 8 + log + 4 * bl) : ∃ S S1 S2 S3, fmtS (newD (N : Nat)) (log : Nat) = (S.D, some S, 0) ∧ S.Fit ∧ S.bad = false ∧ S.r.ring = log ∧ S.r.gen = 1 ∧ newE S.D 8 (log : Nat) 1 = 0 ∧
    S.alloc = (S1, 0, 0) ∧ S1.wr ((0 : Nat) : Int) [0, 0] = (S2, 0) ∧ S2.Fit ∧ S2.commit [0, 0, 1, 2, 0, 0] = (S3, 0) := by
  obtain ⟨S, e0, f0, z0, s0⟩ := fr_fmt h1 h2 h3 hN
  obtain ⟨S1, e1, f1, d1, b1⟩ := fr_alloc f0 z0 h2
  obtain ⟨S2, e2, f2, s2⟩ := fr_wr f1 h1 h2 h3 hN b1 (b := [0, 0]) (by decide) (by intro x hx; simp at hx; omega) (by rw [d1]; exact s0)
  obtain ⟨S3, e3⟩ := fr_commit f2 h3 hN s2 (b := [0, 0, 1, 2, 0, 0]) (by decide) (by intro x hx; simp at hx; omega)
  refine ⟨S, S1, S2, S3, e0, f0.fit, f0.good, f0.ring, f0.gen, ?_, e1, e2, f2.fit, e3⟩
  unfold newE
  rw [f0.live.1, f0.len, if_neg (by decide), if_neg (by omega), if_neg (by decide)]
end Go.Proofs.YtlkgdpdnhnakoaaGreatDoor
