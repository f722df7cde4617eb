/- Walks over package bitmap: Get. -/
import Derived.Test.YtmolmamfmboeoaaDoorStr
import Derived.Test.YtmolmamfmboeoaaDoorGetP
import Derived.IntWalk
namespace Go.Proofs.YtmolmamfmboeoaaDoor
open Go.RowKit

/-- What Get hands back: a map of its own, or none. -/
def GotMap (b : List Nat) (w : World) (e : Ending) (w' : World) : Prop :=
  ∃ r : Option (Nat × List Nat), GetSpec b r ∧ Same w w' ∧
    match r with
    | some (s, ws) => ∃ v c, e = .returned (.tuple #[mapV s v ws.length c, .int .i64 0]) ∧ NatsAt w' .u64 v ws ∧ (v = none → c = 0)
    | none => e = .returned (.tuple #[mapV 0 none 0 0, .int .i64 4])

/-- What is set so far, at a reader's state. -/
structure GInv (b : List Nat) (s : Nat) (xs : List Nat) (er f : Nat) (o : Bool) (ws : List Nat) : Prop where
  le : f ≤ s
  s4 : s ≤ 4096
  len : ws.length = (s + 63) / 64
  words : Words ws
  free : ∀ j, f ≤ j → j < 64 * ws.length → bitN ws j = false
  cons : Cons b s xs er f o ws
theorem GInv.ok {b : List Nat} {s : Nat} {xs : List Nat} {er f : Nat} {o : Bool} {ws : List Nat} (h : GInv b s xs er f o ws) : mapOK s ws = true :=
  (mapOK_iff h.words).2 ⟨h.s4, h.len, fun n h1 h2 => h.free n (by have := h.le; omega) h2⟩
theorem ginv_start {b : List Nat} (h : (rdSmall b 0).2.2 ≤ 4096) : GInv b (rdSmall b 0).2.2 (rdSmall b 0).1 (rdSmall b 0).2.1 0 false (List.replicate (((rdSmall b 0).2.2 + 63) / 64) 0) := by
  refine ⟨Nat.zero_le _, h, by simp, fun x hx => by rw [List.eq_of_mem_replicate hx]; decide, fun j _ _ => ?_, cons_start b⟩
  have : (List.replicate (((rdSmall b 0).2.2 + 63) / 64) 0).getD (j / 64) 0 = 0 := by
    rw [List.getD, List.getElem?_replicate]; split <;> rfl
  unfold bitN
  rw [this]
  simp

/-- Between: the numbers from f on, below i, are set, if o. -/
structure GMid (s : Nat) (ws : List Nat) (f i : Nat) (o : Bool) (zs : List Nat) : Prop where
  len : zs.length = ws.length
  words : Words zs
  bits : ∀ j, j < 64 * ws.length → bitN zs j = (bitN ws j || (o && (decide (f ≤ j) && decide (j < min s i))))
theorem gmid_start {s : Nat} {ws : List Nat} {f : Nat} {o : Bool} (hw : Words ws) : GMid s ws f f o ws := by
  refine ⟨rfl, hw, fun j _ => ?_⟩
  by_cases c : f ≤ j
  · have : ¬ j < min s f := by omega
    simp [this]
  · simp [c]
theorem gmid_step {s : Nat} {ws : List Nat} {f i : Nat} {zs : List Nat} (h : GMid s ws f i true zs) (hf : f ≤ i) (hi : i < s) (hl : ws.length = (s + 63) / 64) : GMid s ws f (i + 1) true (putN zs i true) := by
  refine ⟨by rw [putN_length]; exact h.len, putN_words h.words _ _, fun j hj => ?_⟩
  rw [putN_bit zs i true (by rw [h.len, hl]; omega)]
  by_cases e : j = i
  · subst e
    have h1 : j < min s (j + 1) := by omega
    simp [h1, hf]
  · rw [if_neg e, h.bits j hj]
    have : j < min s (i + 1) ↔ j < min s i := by omega
    simp [this]
theorem gmid_off {s : Nat} {ws : List Nat} {f i : Nat} (hw : Words ws) : GMid s ws f i false ws := ⟨rfl, hw, fun j _ => by simp⟩

theorem gmid_false {s : Nat} {ws : List Nat} {f i j : Nat} {zs : List Nat} (h : GMid s ws f i false zs) : GMid s ws f j false zs := ⟨h.len, h.words, fun n hn => by rw [h.bits n hn]; simp⟩
theorem putMap_bytes (s : Nat) (ws : List Nat) : Bytes (putMap s ws) := by
  intro x hx
  rcases List.mem_append.1 hx with h | h
  · exact putSmall_bytes _ x h
  · exact putRuns_bytes _ x h

theorem ginv_step {b : List Nat} {s : Nat} {xs : List Nat} {er f : Nat} {o : Bool} {ws zs : List Nat} (h : GInv b s xs er f o ws) (hx : xs ≠ []) (hm : GMid s ws f (f + (rdSmall xs er).2.2) o zs) (hn : f + (rdSmall xs er).2.2 ≤ s) :
    GInv b s (rdSmall xs er).1 (rdSmall xs er).2.1 (f + (rdSmall xs er).2.2) (!o) zs := by
  refine ⟨hn, h.s4, by rw [hm.len]; exact h.len, hm.words, fun j h1 h2 => ?_, cons_step h.cons hx hm.len hm.bits⟩
  rw [hm.len] at h2
  rw [hm.bits j h2, h.free j (by omega) h2]
  have : ¬ j < min s (f + (rdSmall xs er).2.2) := by omega
  simp [this]

/-- The length that a reader has left, read off the world. -/
def rdLen (w : World) (g : Nat) : Nat :=
  match w.cell? ⟨g, 0, none⟩ with
  | some (.slice _ n _) => n
  | _ => 0
theorem rdLen_of {w : World} {g : Nat} {a : Option Addr} {cap : Nat} {xs : List Nat} {er : Nat} (h : Rdr w g a cap xs er) : rdLen w g = xs.length := by
  have := h.1.cell 0 (v := .slice a xs.length cap) rfl
  unfold rdLen
  rw [this]
theorem Rdr.kept {w w' : World} {g : Nat} {a : Option Addr} {cap : Nat} {xs : List Nat} {er : Nat} {fp : Nat → Prop} (h : Rdr w g a cap xs er) (k : Kept fp w w') (h1 : ¬ fp g) (h2 : ∀ x, a = some x → ¬ fp x.block) : Rdr w' g a cap xs er :=
  ⟨h.1.kept k h1, h.2.1.kept k h2, h.2.2.1, h.2.2.2.1, h.2.2.2.2⟩
theorem Rdr.same {w w' : World} {g : Nat} {a : Option Addr} {cap : Nat} {xs : List Nat} {er : Nat} (h : Rdr w g a cap xs er) (k : Same w w') : Rdr w' g a cap xs er := h.kept k (fun h => h) (fun _ _ h => h)
theorem rdSmall_bytes {xs : List Nat} {er : Nat} (h : Bytes xs) : Bytes (rdSmall xs er).1 := by
  unfold rdSmall
  split
  · exact h
  · split
    · exact h
    · split
      · exact h
      · exact fun x hx => h x (List.mem_of_mem_drop hx)
theorem rdSmall_le (xs : List Nat) (er : Nat) : (rdSmall xs er).1.length ≤ xs.length ∧ (rdSmall xs er).2.2 ≤ 1099511627776 := by
  unfold rdSmall
  split
  · exact ⟨Nat.le_refl _, by simp⟩
  · split
    · exact ⟨Nat.le_refl _, by simp⟩
    · split
      · exact ⟨Nat.le_refl _, by simp⟩
      · exact ⟨by simp, by simp; omega⟩

theorem got_none {b : List Nat} {w : World} (h : ∀ s0 ws0, Words ws0 → mapOK (s0 : Nat) ws0 = true → putMap s0 ws0 ≠ b) {w' : World} (k : Same w w') : GotMap b w (.returned (.tuple #[mapV 0 none 0 0, .int .i64 4])) w' := ⟨none, h, k, rfl⟩

set_option maxHeartbeats 1000000 in
theorem bm_get (a : Option Addr) (l cap : Nat) (b : List Nat) (w : World) (hl : l = b.length) (hb : Bytes b) (hlen : b.length ≤ 100000) (hat : NatsAt w .u8 a b) (hnil : a = none → b = []) (hT : TabOK w) :
    Calls Tryd.prog 33 #[.slice a l cap] w (GotMap b w) := by
  have ON := Lib.hid fun w' (h : NatsAt w' .u8 a b) => hl ▸ ord_new a cap b w' h (by omega) hnil
  have SM := Lib.hid fun g a' cap' xs er w' hr hb => ord_small g a' cap' xs er w' hr hb
  have AT := Lib.hid hat; have TT := Lib.hid hT; have HL := Lib.hid hl; have HB := Lib.hid hb
  clear hat hT hl hb hnil
  go_enter Tryd.func33, Tryd.ntmps33
  go_wp2_with fail
  refine Calls.fr1 ?_; intro W F' K' hz'; have F := Lib.hid F'; have K := Lib.hid K'; have hz := Lib.hid hz'; clear F' K' hz'; obtain ⟨p0, f0, -⟩ := F.out.rules; have z0 := F.out.1.lt
  refine (ON.out _ (AT.out.same K.out)).mono ?_
  rintro e w2 ⟨g, a1, c1, rfl, hg, ha, hr, k⟩
  have hsz : w.heap.size + 1 ≤ W.heap.size := by have := hz.out; omega
  have K' := Lib.hid (K.out.trans k); have F' := Lib.hid (F.out.same k); clear K F p0 f0 z0 k; have K := K'; have F := F'; clear K' F'; obtain ⟨p0, f0, -⟩ := F.out.rules; have z0 := F.out.1.lt
  go_wp2_with fail
  refine (SM.out g a1 c1 b 0 w2 hr HB.out).mono ?_
  rintro e w3 ⟨rfl, ⟨a3, c3, hr3, ha3⟩, k3⟩
  have K3 := Lib.hid (K.out.turn k3 (by omega))
  have F3 := Lib.hid (F.out.kept k3 (by simp; omega))
  have R3 := Lib.hid hr3
  have hk3 := k3.size
  have A3 : Hid (∀ x, a3 = some x → x.block < w3.heap.size) := by
    intro x hx
    obtain ⟨y, hy, e⟩ := ha3 x hx
    have := (ha y hy).2
    omega
  have hg3 := hr3.1.lt
  have gs := Lib.hid (cons_start b)
  have gn := Lib.hid (fun h => ginv_start (b := b) h)
  have gx := Lib.hid (fun h => cons_size (b := b) h)
  have bx := Lib.hid (rdSmall_bytes (er := 0) HB.out)
  clear hr hr3 ha3 ha k3 K F p0 f0 z0
  have K := K3; have F := F3; clear K3 F3
  obtain ⟨p0, f0, -⟩ := F.out.rules; have z0 := F.out.1.lt
  obtain ⟨s, hs⟩ : ∃ s, (rdSmall b 0).2.2 = s := ⟨_, rfl⟩
  rw [hs] at gs gn gx ⊢
  clear hs
  by_cases h4 : s ≤ 4096
  · have gi := Lib.hid (gn.out h4)
    clear gn gx gs
    go_wp2_with fail
    refine (bm_new_ok s _ h4).mono ?_
    rintro e w4 ⟨gw, rfl, ho, k⟩
    have O := Lib.hid ho
    have hgw := ho.lt
    clear ho
    have R4 := Lib.hid (R3.out.same k)
    have hw4 := k.size
    have K' := Lib.hid (K.out.trans k); have F' := Lib.hid (F.out.same k); clear K F p0 f0 z0 k; have K := K'; have F := F'; clear K' F'; obtain ⟨p0, f0, -⟩ := F.out.rules; have z0 := F.out.1.lt
    go_wp2_with fail
    have GT : Hid (∀ w', Same w w' → TabOK w') := fun w' k => TT.out.same k
    go_loopw [7, 8, 9, 10, 11] (fun fr on sl sn si wr => ∃ (xs : List Nat) (er f : Nat) (o : Bool) (zs : List Nat) (a' : Option Addr) (c' : Nat) (u9 u10 u11 : Value), fr = .int .i64 (f : Nat) ∧ on = .bool o ∧ sl = u9 ∧ sn = u10 ∧ si = u11 ∧
        Hid (GInv b s xs er f o zs) ∧ Hid (Rdr wr g a' c' xs er) ∧ Hid (∀ x, a' = some x → x.block < w3.heap.size) ∧ Hid (OwnN wr w3.heap.size 36 .u64 (.slice (some ⟨gw, 0, none⟩) ((s + 63) / 64) ((s + 63) / 64)) zs) ∧
        Hid (Fr wr [(w4.heap.size, #[.int .i64 (s : Nat), .slice (some ⟨gw, 0, none⟩) ((s + 63) / 64) ((s + 63) / 64)], 27), (w.heap.size, #[.int .i64 0, .slice none 0 0], 27)]) ∧ Hid (Same w wr) ∧ Hid (Bytes xs))
      (fun _ _ _ _ _ wr => rdLen wr g)
    case atStart => exact ⟨(rdSmall b 0).1, (rdSmall b 0).2.1, 0, false, _, a3, c3, _, _, _, rfl, rfl, rfl, rfl, rfl, gi.out, R4.out.same ((Kept.refl _ w4).alloc _), A3.out, O.out.same ((Kept.refl _ w4).alloc _), ⟨Blk.new w4 _ _, F.out.same ((Kept.refl _ w4).alloc _)⟩, K.out.alloc _, bx.out⟩
    case round =>
      obtain ⟨xs, er, f, o, zs, a', c', u9, u10, u11, rfl, rfl, rfl, rfl, rfl, G, R, A, O, F, K, B⟩ := hrel
      clear p0 f0 z0
      obtain ⟨p0, f0, p1, f1, -⟩ := F.out.rules; have z0 := F.out.1.lt; have z1 := F.out.2.1.lt
      by_cases hx : xs = []
      · subst hx
        have PU := bm_put (s : Nat) (some ⟨gw, 0, none⟩) ((s + 63) / 64) zs wr G.out.words (GT.out _ K.out) O.out.nats
        rw [G.out.len, G.out.ok] at PU
        simp only [if_true, Int.toNat_natCast] at PU
        have PU := Lib.hid PU
        have WD := Lib.hid G.out.words
        have LN := Lib.hid G.out.len
        go_wp2_with fail
        refine (ord_left g _ _ _ _ _ R.out.1).mono ?_
        rintro e w5 ⟨rfl, rfl⟩
        go_wp2_with fail
        refine PU.out.mono ?_
        rintro e w5 ⟨v, rfl, ho, k⟩
        obtain ⟨V, lv, C, rfl, hlv, hnv, hav, -⟩ := ho.rd
        have O5 := Lib.hid (O.out.same k)
        have K' := Lib.hid (K.out.trans k); have F' := Lib.hid (F.out.same k); clear K F p0 f0 z0 p1 f1 z1 k; have K := K'; have F := F'; clear K' F'; obtain ⟨p0, f0, p1, f1, -⟩ := F.out.rules; have z0 := F.out.1.lt; have z1 := F.out.2.1.lt
        clear O PU
        have EQ := by_equal a V l lv cap C b (putMap s zs) w5 HL.out hlv.out HB.out (putMap_bytes s zs) (AT.out.same K.out) hav.out
        by_cases heq : b = putMap s zs
        · rw [decide_eq_true heq] at EQ
          have EQ := Lib.hid EQ
          have SP : Hid (GetSpec b (some (s, zs))) := ⟨G.out.ok, WD.out, heq.symm⟩
          clear heq
          go_wp2_with fail
          refine EQ.out.mono ?_
          rintro e w6 ⟨rfl, rfl⟩
          go_wp2_with fail
          have p := (F.out.2.1.set 0 (.int .i64 (s : Nat))).set 1 (.slice (some ⟨gw, 0, none⟩) ((s + 63) / 64) ((s + 63) / 64))
          have KG := (Kept.refl (fun j => j = w.heap.size) w6).setG 0 (.int .i64 (s : Nat)) |>.setG 1 (.slice (some ⟨gw, 0, none⟩) ((s + 63) / 64) ((s + 63) / 64))
          refine bodyPost_ret (results_two_tmp rfl _ _ _ _ #[.int .i64 (s : Nat), .slice (some ⟨gw, 0, none⟩) ((s + 63) / 64) ((s + 63) / 64)] _ rfl p Tryd.underlying27 rfl (by kernel_rfl)) rfl ?_
          refine ⟨some (s, zs), SP.out, K.out.turn KG (Nat.le_refl _), some ⟨gw, 0, none⟩, (s + 63) / 64, by rw [LN.out]; rfl, O5.out.nats.kept KG (fun x hx => by cases hx; show ¬ gw = _; omega), by simp⟩
        · rw [decide_eq_false heq] at EQ
          have EQ := Lib.hid EQ
          have NN := Lib.hid (cons_done G.out.cons WD.out LN.out (fun h => heq h.symm))
          clear heq
          go_wp2_with fail
          refine EQ.out.mono ?_
          rintro e w6 ⟨rfl, rfl⟩
          go_wp2_with fail
          have p := (F.out.2.1.set 0 (.int .i64 0)).set 1 (.slice none 0 0)
          refine bodyPost_ret (results_two_tmp rfl _ _ _ _ #[.int .i64 0, .slice none 0 0] _ rfl p Tryd.underlying27 rfl (by kernel_rfl)) rfl (got_none NN.out ?_)
          have k := K.out
          (repeat (first | exact Kept.refl _ _ | with_reducible assumption | with_reducible refine Kept.alloc ?_ _ | with_reducible refine Kept.drew ?_ | with_reducible refine Kept.drewN ?_ _ | refine Kept.setNew ?_ (by dsimp only; omega) _ | refine Kept.trans ?_ (by with_reducible assumption)))
      · have hpos : (0 : Int) < (xs.length : Int) := by have := List.length_pos_iff.2 hx; omega
        obtain ⟨ys, er', N, hrd⟩ : ∃ ys er' N, rdSmall xs er = (ys, er', N) := ⟨_, _, _, rfl⟩
        have SMk := Lib.hid (SM.out g a' c' xs er wr R.out B.out)
        have le1 := rdSmall_le xs er
        have by1 := Lib.hid (rdSmall_bytes (er := er) B.out)
        have CM := Lib.hid (fun s0 ws0 h1 h2 h3 => cons_more (s0 := s0) (ws0 := ws0) G.out.cons hx h1 h2 h3)
        have GS := Lib.hid (fun us h1 h2 => ginv_step (zs := us) G.out hx h1 h2)
        have hfs := G.out.le
        rw [hrd] at SMk le1 by1 CM GS
        simp only at le1
        have HX := Lib.hid hx; have HRD := Lib.hid hrd
        have ML := Lib.hid (rdLen_of R.out)
        clear hx hrd
        go_wp2_with fail
        refine (ord_left g _ _ _ _ _ R.out.1).mono ?_
        rintro e w5 ⟨rfl, rfl⟩
        go_wp2_with fail
        refine (ord_left g _ _ _ _ _ R.out.1).mono ?_
        rintro e w5 ⟨rfl, rfl⟩
        go_wp2_with fail
        refine SMk.out.mono ?_
        rintro e w6 ⟨rfl, ⟨a6, c6, hr6, ha6⟩, k6⟩
        have K6 := Lib.hid (K.out.turn k6 (by omega))
        have F6 := Lib.hid (F.out.kept k6 (by simp; omega))
        have O6 := Lib.hid (O.out.kept k6 (fun j hj => by simp [Value.ownBlock] at hj; omega))
        have R6 := Lib.hid hr6
        have A6 : Hid (∀ x, a6 = some x → x.block < w3.heap.size) := by
          intro x hx
          obtain ⟨y, hy, e⟩ := ha6 x hx
          have := A.out y hy
          omega
        clear hr6 ha6 k6 K F O R A SMk p0 f0 z0 p1 f1 z1
        have K := K6; have F := F6; have O := O6; have R := R6; have A := A6; clear K6 F6 O6 R6 A6
        obtain ⟨p0, f0, p1, f1, -⟩ := F.out.rules; have z0 := F.out.1.lt; have z1 := F.out.2.1.lt
        go_wp2_with fail
        refine (ord_left g _ _ _ _ _ R.out.1).mono ?_
        rintro e w7 ⟨rfl, rfl⟩
        by_cases h1 : ys.length = xs.length
        · have b1 : ((ys.length : Int) == (xs.length : Int)) = true := by rw [beq_iff_eq]; omega
          have NN : Hid (∀ s0 ws0, Words ws0 → mapOK (s0 : Nat) ws0 = true → putMap s0 ws0 ≠ b) := by
            intro s0 ws0 q1 q2 q3
            obtain ⟨T, _, _, _, _, q4⟩ := CM.out s0 ws0 q1 q2 q3
            omega
          clear h1
          go_wp2_with fail
          have p := (F.out.2.1.set 0 (.int .i64 0)).set 1 (.slice none 0 0)
          refine bodyPost_ret (results_two_tmp rfl _ _ _ _ #[.int .i64 0, .slice none 0 0] _ rfl p Tryd.underlying27 rfl (by kernel_rfl)) rfl (got_none NN.out ?_)
          have k := K.out
          (repeat (first | exact Kept.refl _ _ | with_reducible assumption | with_reducible refine Kept.alloc ?_ _ | with_reducible refine Kept.drew ?_ | with_reducible refine Kept.drewN ?_ _ | refine Kept.setNew ?_ (by dsimp only; omega) _ | refine Kept.trans ?_ (by with_reducible assumption)))
        · have b1 : ((ys.length : Int) == (xs.length : Int)) = false := by rw [beq_eq_false_iff_ne]; omega
          have hlt2 : Hid (ys.length < xs.length) := by show _ < _; omega
          clear h1
          by_cases h2 : s < f + N
          · have b2 : (s : Int) - (f : Int) < (N : Int) := by omega
            have NN : Hid (∀ s0 ws0, Words ws0 → mapOK (s0 : Nat) ws0 = true → putMap s0 ws0 ≠ b) := by
              intro s0 ws0 q1 q2 q3
              obtain ⟨T, t1, t2, _, q4, _⟩ := CM.out s0 ws0 q1 q2 q3
              simp only [Prod.mk.injEq] at q4
              omega
            go_wp2_with fail
            have p := (F.out.2.1.set 0 (.int .i64 0)).set 1 (.slice none 0 0)
            refine bodyPost_ret (results_two_tmp rfl _ _ _ _ #[.int .i64 0, .slice none 0 0] _ rfl p Tryd.underlying27 rfl (by kernel_rfl)) rfl (got_none NN.out ?_)
            have k := K.out
            (repeat (first | exact Kept.refl _ _ | with_reducible assumption | with_reducible refine Kept.alloc ?_ _ | with_reducible refine Kept.drew ?_ | with_reducible refine Kept.drewN ?_ _ | refine Kept.setNew ?_ (by dsimp only; omega) _ | refine Kept.trans ?_ (by with_reducible assumption)))
          · have b2 : ¬ (s : Int) - (f : Int) < (N : Int) := by omega
            have GSn := Lib.hid (fun us h => GS.out us h (by omega))
            have hN := G.out.s4
            have hZL := Lib.hid G.out.len
            have hZW := Lib.hid G.out.words
            clear GS CM
            go_wp2_with fail
            go_loopw [11] (fun si wr2 => ∃ (i : Nat) (us : List Nat), si = .int .i64 (i : Nat) ∧ f ≤ i ∧ i ≤ f + N ∧ Hid (GMid s zs f i o us) ∧ Hid (OwnN wr2 w3.heap.size 36 .u64 (.slice (some ⟨gw, 0, none⟩) ((s + 63) / 64) ((s + 63) / 64)) us) ∧
                Hid (Fr wr2 [(w4.heap.size, #[.int .i64 (s : Nat), .slice (some ⟨gw, 0, none⟩) ((s + 63) / 64) ((s + 63) / 64)], 27), (w.heap.size, #[.int .i64 0, .slice none 0 0], 27)]) ∧ Hid (Rdr wr2 g a6 c6 ys er') ∧ Hid (Same w wr2)) (fun si _ => f + N - (intOf si).toNat)
            case atStart => exact ⟨f, zs, rfl, Nat.le_refl _, by omega, gmid_start hZW.out, O.out, F.out, R.out, K.out⟩
            case round =>
              obtain ⟨i, us, rfl, hi1, hi2, M, O, F, R, K⟩ := hrel
              clear p0 f0 z0 p1 f1 z1
              obtain ⟨p0, f0, p1, f1, -⟩ := F.out.rules; have z0 := F.out.1.lt; have z1 := F.out.2.1.lt
              cases o
              · have GI := Lib.hid (GSn.out us (gmid_false M.out))
                go_wp2_with fail
                go_roundw
                case rel => exact ⟨ys, er', f + N, !false, us, a6, c6, _, _, _, by go_num, rfl, rfl, rfl, rfl, GI.out, R.out, A.out, O.out, F.out, K.out, by1.out⟩
                case measure => rw [ML.out, rdLen_of R.out]; exact hlt2.out
              · by_cases hlt : i < f + N
                · have hlt' : (i : Int) < (f : Int) + (N : Int) := by omega
                  have hiw : i / 64 < us.length := by rw [M.out.len, hZL.out]; omega
                  have hul : us.length = (s + 63) / 64 := by rw [M.out.len, hZL.out]
                  have hsl : i / 64 < (s + 63) / 64 := by omega
                  have q4 : wr.cell? ⟨gw, i / 64, none⟩ = some (.int .u64 ((us.getD (i / 64) 0 : Nat) : Int)) := O.out.cell hul (by rw [List.getD, List.getElem?_eq_getElem hiw]; rfl)
                  have f4 : ∀ j, wr.frozen? ⟨gw, j, none⟩ = false := O.out.free hul
                  obtain ⟨x, hx⟩ : ∃ x, us.getD (i / 64) 0 = x := ⟨_, rfl⟩
                  rw [hx] at q4
                  have hx64 : x < 18446744073709551616 := by rw [← hx]; exact getD_word M.out.words _
                  have exb : bits .or .u64 (x : Int) (IntKind.u64.wrap (2 ^ (i % 64))) = ((putBit x (i % 64) true : Nat) : Int) := by
                    rw [wrap_bit (i % 64) (Nat.mod_lt _ (by decide)), or_bit x (i % 64) hx64 (Nat.mod_lt _ (by decide))]
                  have ep : Hid (us.set (i / 64) (putBit x (i % 64) true) = putN us i true) := by show _ = _; unfold putN; rw [hx]
                  have M2 := Lib.hid (gmid_step M.out hi1 (by omega) hZL.out)
                  have HUL := Lib.hid hul
                  obtain ⟨pv, hpv⟩ : ∃ pv, putBit x (i % 64) true = pv := ⟨_, rfl⟩
                  rw [hpv] at exb ep
                  clear hx hpv hx64 hul hiw
                  have t1 : (i : Int).tdiv 64 = (i : Int) / 64 := Int.tdiv_eq_ediv_of_nonneg (by omega)
                  have t2 : (i : Int).tmod 64 = (i : Int) % 64 := Int.tmod_eq_emod_of_nonneg (by omega)
                  have t3 : (0 : Int) ≤ (i : Int) / 64 := by omega
                  have t4 : (i : Int) / 64 < (((s + 63) / 64 : Nat) : Int) := by omega
                  have t6 : ((i : Int) / 64).toNat = i / 64 := by omega
                  have t7 : ((i : Int) % 64).toNat = i % 64 := by omega
                  have t5 : IntKind.i64.wrap ((i : Int) / 64) = (i : Int) / 64 := IntWalk.i64_in _ (by omega)
                  have t8 : IntKind.i64.wrap ((i : Int) % 64) = (i : Int) % 64 := IntWalk.i64_in _ (by omega)
                  have t9 : (0 : Int) ≤ (i : Int) % 64 := by omega
                  go_wp2_with fail
                  go_region_with (fail)
                  all_goals
                    go_wp2_with fail
                    have KG := ((Kept.refl (fun j => j = gw) wr).setG (i / 64) (.int .u64 ((pv : Nat) : Int))).drew
                    have O2 := O.out.set HUL.out (i / 64) pv
                    rw [ep.out] at O2
                    go_roundw
                    case rel => exact ⟨i + 1, putN us i true, by go_num, by omega, by omega, M2.out, O2, F.out.kept KG (by simp; omega), R.out.kept KG (by omega) (fun x hx => by have := A.out x hx; omega), K.out.turn KG (by omega)⟩
                    case measure => simp [intOf]; omega
                · have e : i = f + N := by omega
                  subst e
                  have GI := Lib.hid (GSn.out us M.out)
                  go_wp2_with fail
                  go_roundw
                  case rel => exact ⟨ys, er', f + N, !true, us, a6, c6, _, _, _, by go_num, rfl, rfl, rfl, rfl, GI.out, R.out, A.out, O.out, F.out, K.out, by1.out⟩
                  case measure => rw [ML.out, rdLen_of R.out]; exact hlt2.out
  · have gi := Lib.hid (gx.out (by omega))
    clear gn gx gs
    go_wp2_with fail
    refine (bm_new_bad s _ (by omega)).mono ?_
    rintro e w4 ⟨rfl, k⟩
    have K' := Lib.hid (K.out.trans k); have F' := Lib.hid (F.out.same k); clear K F p0 f0 z0 k; have K := K'; have F := F'; clear K' F'; obtain ⟨p0, f0, -⟩ := F.out.rules; have z0 := F.out.1.lt
    go_wp2_with fail
    have p := (F.out.1.set 0 (.int .i64 0)).set 1 (.slice none 0 0)
    refine bodyPost_ret (results_two_tmp rfl _ _ _ _ #[.int .i64 0, .slice none 0 0] _ rfl (p.alloc _) Tryd.underlying27 rfl (by kernel_rfl)) rfl (got_none gi.out ?_)
    have k := K.out
    (repeat (first | exact Kept.refl _ _ | with_reducible assumption | with_reducible refine Kept.alloc ?_ _ | with_reducible refine Kept.drew ?_ | with_reducible refine Kept.drewN ?_ _ | refine Kept.setNew ?_ (by dsimp only; omega) _ | refine Kept.trans ?_ (by with_reducible assumption)))

end Go.Proofs.YtmolmamfmboeoaaDoor
