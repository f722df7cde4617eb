/- GCrB: Cr5, Cr6, Cr7. -/
import Derived.Test.YtnjmdldhgconmaaGreatDoorGCrA
import Derived.Test.YtnjmdldhgconmaaGreatDoorGCqA
import Derived.Test.YtnjmdldhgconmaaGreatDoorHeldT
namespace Go.Proofs.YtnjmdldhgconmaaGreatDoor
open Go.RowKit Go.Sort

theorem bqd {α : Type} [DecidableEq α] [BEq α] [LawfulBEq α] (x y : α) : (x == y) = decide (x = y) := by rw [Bool.eq_iff_iff]; simp
theorem stp_dec (a b : Stp) : decide (a = b) = (decide (a.k = b.k) && (decide (a.txn = b.txn) && (decide (a.key = b.key) && (decide (a.val = b.val) && (decide (a.n = b.n) && (decide (a.d = b.d) && decide (a.f = b.f))))))) := by
  rw [Bool.eq_iff_iff]
  simp only [decide_eq_true_eq, Bool.and_eq_true]
  constructor
  · rintro rfl; simp
  · rintro ⟨h1, h2, h3, h4, h5, h6, h7⟩
    cases a; cases b
    simp at *
    exact ⟨h1, h2, h3, h4, h5, h6, h7⟩
set_option maxRecDepth 100000 in
set_option maxHeartbeats 3200000 in
theorem co_same (a b : Stp) (fa fb : Option Addr) (ca cb : Nat) (w : World) (hA : NatsAt w .u8 fa (natsU a.f)) (hB : NatsAt w .u8 fb (natsU b.f)) :
    Calls Tryz.prog 40 #[.agg #[.int .u8 (a.k : Nat), .int .i64 a.txn, encStr a.key, encStr a.val, .int .i64 a.n, .bool a.d, .slice fa a.f.length ca], .agg #[.int .u8 (b.k : Nat), .int .i64 b.txn, encStr b.key, encStr b.val, .int .i64 b.n, .bool b.d, .slice fb b.f.length cb]] w fun e w' => e = .returned (.bool (decide (a = b))) ∧ Same w w' := by
  obtain ⟨ak, atx, ake, ava, an, ad, af⟩ := a
  obtain ⟨bk, btx, bke, bva, bn, bd, bf⟩ := b
  simp only at hA hB ⊢
  obtain ⟨r, hr⟩ : ∃ r, decide ((⟨ak, atx, ake, ava, an, ad, af⟩ : Stp) = ⟨bk, btx, bke, bva, bn, bd, bf⟩) = r := ⟨_, rfl⟩
  rw [hr]
  rw [stp_dec] at hr
  simp only at hr
  obtain ⟨q1, e1⟩ : ∃ q, ((ak : Int) == (bk : Int)) = q := ⟨_, rfl⟩
  obtain ⟨q2, e2⟩ : ∃ q, (atx == btx) = q := ⟨_, rfl⟩
  obtain ⟨q3, e3⟩ : ∃ q, (ake == bke) = q := ⟨_, rfl⟩
  obtain ⟨q4, e4⟩ : ∃ q, (ava == bva) = q := ⟨_, rfl⟩
  obtain ⟨q5, e5⟩ : ∃ q, (an == bn) = q := ⟨_, rfl⟩
  obtain ⟨q6, e6⟩ : ∃ q, (ad == bd) = q := ⟨_, rfl⟩
  obtain ⟨q7, e7⟩ : ∃ q, (af == bf) = q := ⟨_, rfl⟩
  have HR := Lib.hid (show (q1 && (q2 && (q3 && (q4 && (q5 && (q6 && q7)))))) = r by
    rw [← hr, ← e1, ← e2, ← e3, ← e4, ← e5, ← e6, ← e7]
    have x1 : ((ak : Int) == (bk : Int)) = decide (ak = bk) := by rw [Bool.eq_iff_iff]; simp only [beq_iff_eq, decide_eq_true_eq]; omega
    rw [x1, bqd atx, bqd ake, bqd ava, bqd an, bqd ad, bqd af])
  clear hr
  have k1 : Same w ((w.alloc (.cells #[.int .u8 (ak : Nat), .int .i64 atx, encStr ake, encStr ava, .int .i64 an, .bool ad, .slice fa af.length ca] 27)).alloc (.cells #[.int .u8 (bk : Nat), .int .i64 btx, encStr bke, encStr bva, .int .i64 bn, .bool bd, .slice fb bf.length cb] 27)) := ((Kept.refl _ w).alloc _).alloc _
  have hca := conv_str fa af.length ca (natsU af) _ (by rw [natsU_len]) (hA.same k1)
  have hcb := conv_str fb bf.length cb (natsU bf) _ (by rw [natsU_len]) (hB.same k1)
  rw [strN_natsU] at hca hcb
  have K1 := Lib.hid k1
  clear k1 hA hB
  go_enter Tryz.func40, Tryz.ntmps40
  go_upto_region 1 with fail
  cases q1 with
  | false =>
    go_wp2_with fail
    go_ret
    exact ⟨by rw [← HR.out]; rfl, K1.out⟩
  | true =>
    cases q2 with
    | false =>
      go_wp2_with fail
      go_ret
      exact ⟨by rw [← HR.out]; rfl, K1.out⟩
    | true =>
      cases q3 with
      | false =>
        go_wp2_with fail
        go_ret
        exact ⟨by rw [← HR.out]; rfl, K1.out⟩
      | true =>
        cases q4 with
        | false =>
          go_wp2_with fail
          go_ret
          exact ⟨by rw [← HR.out]; rfl, K1.out⟩
        | true =>
          cases q5 with
          | false =>
            go_wp2_with fail
            go_ret
            exact ⟨by rw [← HR.out]; rfl, K1.out⟩
          | true =>
            cases q6 with
            | false =>
              go_wp2_with fail
              go_ret
              exact ⟨by rw [← HR.out]; rfl, K1.out⟩
            | true =>
              go_wp2_with fail
              go_ret
              exact ⟨by rw [← HR.out]; rfl, K1.out⟩
set_option maxRecDepth 100000 in
set_option maxHeartbeats 3200000 in
theorem cr_same (a b : Stp) (fa fb : Option Addr) (ca cb : Nat) (w : World) (hA : NatsAt w .u8 fa (natsU a.f)) (hB : NatsAt w .u8 fb (natsU b.f)) :
    Calls Tryz.prog 14 #[.agg #[.int .u8 (a.k : Nat), .int .i64 a.txn, encStr a.key, encStr a.val, .int .i64 a.n, .bool a.d, .slice fa a.f.length ca], .agg #[.int .u8 (b.k : Nat), .int .i64 b.txn, encStr b.key, encStr b.val, .int .i64 b.n, .bool b.d, .slice fb b.f.length cb]] w fun e w' => e = .returned (.bool (decide (a = b))) ∧ Same w w' := by
  obtain ⟨ak, atx, ake, ava, an, ad, af⟩ := a
  obtain ⟨bk, btx, bke, bva, bn, bd, bf⟩ := b
  simp only at hA hB ⊢
  obtain ⟨r, hr⟩ : ∃ r, decide ((⟨ak, atx, ake, ava, an, ad, af⟩ : Stp) = ⟨bk, btx, bke, bva, bn, bd, bf⟩) = r := ⟨_, rfl⟩
  rw [hr]
  rw [stp_dec] at hr
  simp only at hr
  obtain ⟨q1, e1⟩ : ∃ q, ((ak : Int) == (bk : Int)) = q := ⟨_, rfl⟩
  obtain ⟨q2, e2⟩ : ∃ q, (atx == btx) = q := ⟨_, rfl⟩
  obtain ⟨q3, e3⟩ : ∃ q, (ake == bke) = q := ⟨_, rfl⟩
  obtain ⟨q4, e4⟩ : ∃ q, (ava == bva) = q := ⟨_, rfl⟩
  obtain ⟨q5, e5⟩ : ∃ q, (an == bn) = q := ⟨_, rfl⟩
  obtain ⟨q6, e6⟩ : ∃ q, (ad == bd) = q := ⟨_, rfl⟩
  obtain ⟨q7, e7⟩ : ∃ q, (af == bf) = q := ⟨_, rfl⟩
  have HR := Lib.hid (show (q1 && (q2 && (q3 && (q4 && (q5 && (q6 && q7)))))) = r by
    rw [← hr, ← e1, ← e2, ← e3, ← e4, ← e5, ← e6, ← e7]
    have x1 : ((ak : Int) == (bk : Int)) = decide (ak = bk) := by rw [Bool.eq_iff_iff]; simp only [beq_iff_eq, decide_eq_true_eq]; omega
    rw [x1, bqd atx, bqd ake, bqd ava, bqd an, bqd ad, bqd af])
  clear hr
  have k1 : Same w ((w.alloc (.cells #[.int .u8 (ak : Nat), .int .i64 atx, encStr ake, encStr ava, .int .i64 an, .bool ad, .slice fa af.length ca] 30)).alloc (.cells #[.int .u8 (bk : Nat), .int .i64 btx, encStr bke, encStr bva, .int .i64 bn, .bool bd, .slice fb bf.length cb] 30)) := ((Kept.refl _ w).alloc _).alloc _
  have hca := conv_str fa af.length ca (natsU af) _ (by rw [natsU_len]) (hA.same k1)
  have hcb := conv_str fb bf.length cb (natsU bf) _ (by rw [natsU_len]) (hB.same k1)
  rw [strN_natsU] at hca hcb
  have K1 := Lib.hid k1
  clear k1 hA hB
  go_enter Tryz.func14, Tryz.ntmps14
  go_upto_region 1 with fail
  cases q1 with
  | false =>
    go_wp2_with fail
    go_ret
    exact ⟨by rw [← HR.out]; rfl, K1.out⟩
  | true =>
    cases q2 with
    | false =>
      go_wp2_with fail
      go_ret
      exact ⟨by rw [← HR.out]; rfl, K1.out⟩
    | true =>
      cases q3 with
      | false =>
        go_wp2_with fail
        go_ret
        exact ⟨by rw [← HR.out]; rfl, K1.out⟩
      | true =>
        cases q4 with
        | false =>
          go_wp2_with fail
          go_ret
          exact ⟨by rw [← HR.out]; rfl, K1.out⟩
        | true =>
          cases q5 with
          | false =>
            go_wp2_with fail
            go_ret
            exact ⟨by rw [← HR.out]; rfl, K1.out⟩
          | true =>
            cases q6 with
            | false =>
              go_wp2_with fail
              go_ret
              exact ⟨by rw [← HR.out]; rfl, K1.out⟩
            | true =>
              go_wp2_with fail
              go_ret
              exact ⟨by rw [← HR.out]; rfl, K1.out⟩
end Go.Proofs.YtnjmdldhgconmaaGreatDoor

namespace Go.Proofs.YtnjmdldhgconmaaGreatDoor
open Go.RowKit Go.Sort

/-- A step as a value (the document's). -/
def StpD (z : Nat → Prop) (w : World) (s : Stp) (v : Value) : Prop := ∃ a c, v = .agg #[.int .u8 (s.k : Nat), .int .i64 s.txn, encStr s.key, encStr s.val, .int .i64 s.n, .bool s.d, .slice a s.f.length c] ∧ NatsAt w .u8 a (natsU s.f) ∧ ∀ x, a = some x → ¬ z x.block
theorem StpD.same {z : Nat → Prop} {w w' : World} {s : Stp} {v : Value} (h : StpD z w s v) (k : Same w w') : StpD z w' s v := by
  obtain ⟨a, c, rfl, hn, hz⟩ := h
  exact ⟨a, c, rfl, hn.same k, hz⟩
/-- What field tells. -/
def fieldR (s : Stp) (f : Fld) (w : Tx) : Stp × Bool := match f with
  | .t => ({ s with txn := ((numP w).1 : Nat) }, (numP w).2)
  | .n => ({ s with n := ((numP w).1 : Nat) }, (numP w).2)
  | .d => ({ s with d := decide ((numP w).1 = 1) }, (numP w).2 && decide ((numP w).1 ≤ 1))
  | .k => ({ s with key := (unwordT w).getD [] }, (unwordT w).isSome)
  | .v => ({ s with val := (unwordT w).getD [] }, (unwordT w).isSome)
  | .fl => ({ s with f := (unwordT w).getD [] }, (unwordT w).isSome)
theorem fr_if {α β : Type} (c : Bool) (a : α) (f : α → β) : (if c = true then some a else none).map f = if c = true then some (f a) else none := by cases c <;> rfl
theorem fr_opt {α β : Type} (o : Option α) (d : α) (f : α → β) : o.map f = if o.isSome = true then some (f (o.getD d)) else none := by cases o <;> rfl
theorem fr_two (c : Bool) (n : Nat) {β : Type} (x : β) : (match (if c = true then some n else none) with | some n => if n ≤ 1 then some x else none | none => none) = if (c && decide (n ≤ 1)) = true then some x else none := by
  cases c with
  | false => rfl
  | true => simp
theorem fieldR_put (s : Stp) (f : Fld) (w : Tx) : putF s f w = if (fieldR s f w).2 = true then some (fieldR s f w).1 else none := by
  cases f with
  | t => show (numOf w).map _ = _; rw [numP_of, fr_if]; rfl
  | n => show (numOf w).map _ = _; rw [numP_of, fr_if]; rfl
  | d =>
    simp only [putF, numP_of, fieldR]
    have e := fr_two (numP w).2 (numP w).1 ({ s with d := decide ((numP w).1 = 1) } : Stp)
    refine Eq.trans ?_ e
    cases (numP w).2 <;> rfl
  | k => exact fr_opt _ [] _
  | v => exact fr_opt _ [] _
  | fl => exact fr_opt _ [] _

theorem fld_kept {w w3 : World} {y J : Nat} {u u0 u1 u2 u3 u4 u5 u6 : Value} (k : Same w w3) (h : w.heap.size = y) :
    Same w ((((((((w3.setCell ⟨y, J, none⟩ u).setCell ⟨y + 1, 0, none⟩ u0).setCell ⟨y + 1, 1, none⟩ u1).setCell ⟨y + 1, 2, none⟩ u2).setCell ⟨y + 1, 3, none⟩ u3).setCell ⟨y + 1, 4, none⟩ u4).setCell ⟨y + 1, 5, none⟩ u5).setCell ⟨y + 1, 6, none⟩ u6) :=
  (k.setNew (p := ⟨y, J, none⟩) (Nat.le_of_eq h) u).step (Kept.seven (b := y + 1)) (fun k hk e => by have e' : k = y + 1 := e; omega)
set_option maxRecDepth 100000 in
set_option maxHeartbeats 3200000 in
theorem cr_field_t (s : Stp) (x : Tx) (hx : x.length ≤ 400000) (w : World) (v : Value) (z : Nat → Prop) (_hzw : ∀ j, z j → j < w.heap.size) (hs : StpD z w s v) :
    Calls Tryz.prog 33 #[v, .int .u8 116, encStr x] w fun e w' => ∃ v', e = .returned (.tuple #[v', .bool (fieldR s .t x).2]) ∧ StpD z w' (fieldR s .t x).1 v' ∧ Same w w' := by
  obtain ⟨fa, ca, rfl, hn, hz⟩ := hs
  have HN := Lib.hid hn; have HZ := Lib.hid hz
  clear hn hz
  obtain ⟨sk, stx, ske, sva, sn, sd, sf⟩ := s
  simp only at HN ⊢
  have UW := Lib.hid (fun w => cr_unword x hx w)
  unfold unwordP at UW
  have NW := Lib.hid (fun w => cr_number x (by omega) w)
  obtain ⟨tx, htx⟩ : ∃ t, (unwordT x).getD [] = t := ⟨_, rfl⟩
  obtain ⟨tk, htk⟩ : ∃ t, (unwordT x).isSome = t := ⟨_, rfl⟩
  obtain ⟨nv, hnv⟩ : ∃ t, (numP x).1 = t := ⟨_, rfl⟩
  obtain ⟨nk, hnk⟩ : ∃ t, (numP x).2 = t := ⟨_, rfl⟩
  rw [htx, htk] at UW
  rw [hnv, hnk] at NW
  simp only [fieldR]
  try rw [htx]
  try rw [htk]
  try rw [hnv]
  try rw [hnk]
  clear htx htk hnv hnk
  obtain ⟨y, hyy⟩ : ∃ y, w.heap.size = y := ⟨_, rfl⟩
  have k0 : Same w ((w.alloc (.cells #[.int .u8 (sk : Nat), .int .i64 stx, encStr ske, encStr sva, .int .i64 sn, .bool sd, .slice fa sf.length ca] 30)).alloc (.cells #[.int .u8 0, .int .i64 0, .string ⟨#[]⟩, .string ⟨#[]⟩, .int .i64 0, .bool false, .slice none 0 0] 30)) := ((Kept.refl _ w).alloc _).alloc _
  have bS : Blk ((w.alloc (.cells #[.int .u8 (sk : Nat), .int .i64 stx, encStr ske, encStr sva, .int .i64 sn, .bool sd, .slice fa sf.length ca] 30)).alloc (.cells #[.int .u8 0, .int .i64 0, .string ⟨#[]⟩, .string ⟨#[]⟩, .int .i64 0, .bool false, .slice none 0 0] 30)) y #[.int .u8 (sk : Nat), .int .i64 stx, encStr ske, encStr sva, .int .i64 sn, .bool sd, .slice fa sf.length ca] 30 := (Blk.new' _ _ _ hyy.symm).alloc _
  have bR : Blk ((w.alloc (.cells #[.int .u8 (sk : Nat), .int .i64 stx, encStr ske, encStr sva, .int .i64 sn, .bool sd, .slice fa sf.length ca] 30)).alloc (.cells #[.int .u8 0, .int .i64 0, .string ⟨#[]⟩, .string ⟨#[]⟩, .int .i64 0, .bool false, .slice none 0 0] 30)) (y + 1) #[.int .u8 0, .int .i64 0, .string ⟨#[]⟩, .string ⟨#[]⟩, .int .i64 0, .bool false, .slice none 0 0] 30 := Blk.new' _ _ _ (by simp [hyy])
  go_enter Tryz.func33, Tryz.ntmps33
  go_upto_region 1 with fail
  refine cutC (fun wn => Same w wn ∧ Blk wn y #[.int .u8 (sk : Nat), .int .i64 stx, encStr ske, encStr sva, .int .i64 sn, .bool sd, .slice fa sf.length ca] 30 ∧ Blk wn (y + 1) #[.int .u8 0, .int .i64 0, .string ⟨#[]⟩, .string ⟨#[]⟩, .int .i64 0, .bool false, .slice none 0 0] 30) ⟨k0, bS, bR⟩ ?_
  clear k0 bS bR
  rintro w1 ⟨k1, bS1, bR1⟩
  have K1 := Lib.hid k1; have BS1 := Lib.hid bS1; have BR1 := Lib.hid bR1
  clear k1 bS1 bR1
  go_wp2_with fail
  refine (UW.out _).mono ?_
  rintro e w2 ⟨rfl, k2⟩
  have K2 := Lib.hid (K1.out.trans k2); have BS2 := Lib.hid (BS1.out.kept k2 (fun h => h)); have BR2 := Lib.hid (BR1.out.kept k2 (fun h => h))
  clear k2 K1 BS1 BR1
  go_wp2_with fail
  refine (NW.out _).mono ?_
  rintro e w3 ⟨rfl, rfl⟩
  clear UW NW
  have p0 := cell_blk BS2.out 0
  have f0 := Blk.free BS2.out 0
  have p1 := cell_blk BS2.out 1
  have f1 := Blk.free BS2.out 1
  have p2 := cell_blk BS2.out 2
  have f2 := Blk.free BS2.out 2
  have p3 := cell_blk BS2.out 3
  have f3 := Blk.free BS2.out 3
  have p4 := cell_blk BS2.out 4
  have f4 := Blk.free BS2.out 4
  have p5 := cell_blk BS2.out 5
  have f5 := Blk.free BS2.out 5
  have p6 := cell_blk BS2.out 6
  have f6 := Blk.free BS2.out 6
  have r0 := cell_blk BR2.out 0
  have e0 := Blk.free BR2.out 0
  have r1 := cell_blk BR2.out 1
  have e1 := Blk.free BR2.out 1
  have r2 := cell_blk BR2.out 2
  have e2 := Blk.free BR2.out 2
  have r3 := cell_blk BR2.out 3
  have e3 := Blk.free BR2.out 3
  have r4 := cell_blk BR2.out 4
  have e4 := Blk.free BR2.out 4
  have r5 := cell_blk BR2.out 5
  have e5 := Blk.free BR2.out 5
  have r6 := cell_blk BR2.out 6
  have e6 := Blk.free BR2.out 6
  go_wp2_with fail
  refine bodyPost_ret (results_two_tmp rfl _ _ (y + 1) 30 _ _ rfl (Blk.set7 (BR2.out.other (p := ⟨y, 1, none⟩) (by show y + 1 ≠ y; omega) _)) Tryz.underlying30 rfl (by kernel_rfl)) rfl ?_
  exact ⟨_, rfl, ⟨_, _, rfl, HN.out.same (fld_kept K2.out hyy), HZ.out⟩, fld_kept K2.out hyy⟩
set_option maxRecDepth 100000 in
set_option maxHeartbeats 3200000 in
theorem cr_field_n (s : Stp) (x : Tx) (hx : x.length ≤ 400000) (w : World) (v : Value) (z : Nat → Prop) (_hzw : ∀ j, z j → j < w.heap.size) (hs : StpD z w s v) :
    Calls Tryz.prog 33 #[v, .int .u8 110, encStr x] w fun e w' => ∃ v', e = .returned (.tuple #[v', .bool (fieldR s .n x).2]) ∧ StpD z w' (fieldR s .n x).1 v' ∧ Same w w' := by
  obtain ⟨fa, ca, rfl, hn, hz⟩ := hs
  have HN := Lib.hid hn; have HZ := Lib.hid hz
  clear hn hz
  obtain ⟨sk, stx, ske, sva, sn, sd, sf⟩ := s
  simp only at HN ⊢
  have UW := Lib.hid (fun w => cr_unword x hx w)
  unfold unwordP at UW
  have NW := Lib.hid (fun w => cr_number x (by omega) w)
  obtain ⟨tx, htx⟩ : ∃ t, (unwordT x).getD [] = t := ⟨_, rfl⟩
  obtain ⟨tk, htk⟩ : ∃ t, (unwordT x).isSome = t := ⟨_, rfl⟩
  obtain ⟨nv, hnv⟩ : ∃ t, (numP x).1 = t := ⟨_, rfl⟩
  obtain ⟨nk, hnk⟩ : ∃ t, (numP x).2 = t := ⟨_, rfl⟩
  rw [htx, htk] at UW
  rw [hnv, hnk] at NW
  simp only [fieldR]
  try rw [htx]
  try rw [htk]
  try rw [hnv]
  try rw [hnk]
  clear htx htk hnv hnk
  obtain ⟨y, hyy⟩ : ∃ y, w.heap.size = y := ⟨_, rfl⟩
  have k0 : Same w ((w.alloc (.cells #[.int .u8 (sk : Nat), .int .i64 stx, encStr ske, encStr sva, .int .i64 sn, .bool sd, .slice fa sf.length ca] 30)).alloc (.cells #[.int .u8 0, .int .i64 0, .string ⟨#[]⟩, .string ⟨#[]⟩, .int .i64 0, .bool false, .slice none 0 0] 30)) := ((Kept.refl _ w).alloc _).alloc _
  have bS : Blk ((w.alloc (.cells #[.int .u8 (sk : Nat), .int .i64 stx, encStr ske, encStr sva, .int .i64 sn, .bool sd, .slice fa sf.length ca] 30)).alloc (.cells #[.int .u8 0, .int .i64 0, .string ⟨#[]⟩, .string ⟨#[]⟩, .int .i64 0, .bool false, .slice none 0 0] 30)) y #[.int .u8 (sk : Nat), .int .i64 stx, encStr ske, encStr sva, .int .i64 sn, .bool sd, .slice fa sf.length ca] 30 := (Blk.new' _ _ _ hyy.symm).alloc _
  have bR : Blk ((w.alloc (.cells #[.int .u8 (sk : Nat), .int .i64 stx, encStr ske, encStr sva, .int .i64 sn, .bool sd, .slice fa sf.length ca] 30)).alloc (.cells #[.int .u8 0, .int .i64 0, .string ⟨#[]⟩, .string ⟨#[]⟩, .int .i64 0, .bool false, .slice none 0 0] 30)) (y + 1) #[.int .u8 0, .int .i64 0, .string ⟨#[]⟩, .string ⟨#[]⟩, .int .i64 0, .bool false, .slice none 0 0] 30 := Blk.new' _ _ _ (by simp [hyy])
  go_enter Tryz.func33, Tryz.ntmps33
  go_upto_region 1 with fail
  refine cutC (fun wn => Same w wn ∧ Blk wn y #[.int .u8 (sk : Nat), .int .i64 stx, encStr ske, encStr sva, .int .i64 sn, .bool sd, .slice fa sf.length ca] 30 ∧ Blk wn (y + 1) #[.int .u8 0, .int .i64 0, .string ⟨#[]⟩, .string ⟨#[]⟩, .int .i64 0, .bool false, .slice none 0 0] 30) ⟨k0, bS, bR⟩ ?_
  clear k0 bS bR
  rintro w1 ⟨k1, bS1, bR1⟩
  have K1 := Lib.hid k1; have BS1 := Lib.hid bS1; have BR1 := Lib.hid bR1
  clear k1 bS1 bR1
  go_wp2_with fail
  refine (UW.out _).mono ?_
  rintro e w2 ⟨rfl, k2⟩
  have K2 := Lib.hid (K1.out.trans k2); have BS2 := Lib.hid (BS1.out.kept k2 (fun h => h)); have BR2 := Lib.hid (BR1.out.kept k2 (fun h => h))
  clear k2 K1 BS1 BR1
  go_wp2_with fail
  refine (NW.out _).mono ?_
  rintro e w3 ⟨rfl, rfl⟩
  clear UW NW
  have p0 := cell_blk BS2.out 0
  have f0 := Blk.free BS2.out 0
  have p1 := cell_blk BS2.out 1
  have f1 := Blk.free BS2.out 1
  have p2 := cell_blk BS2.out 2
  have f2 := Blk.free BS2.out 2
  have p3 := cell_blk BS2.out 3
  have f3 := Blk.free BS2.out 3
  have p4 := cell_blk BS2.out 4
  have f4 := Blk.free BS2.out 4
  have p5 := cell_blk BS2.out 5
  have f5 := Blk.free BS2.out 5
  have p6 := cell_blk BS2.out 6
  have f6 := Blk.free BS2.out 6
  have r0 := cell_blk BR2.out 0
  have e0 := Blk.free BR2.out 0
  have r1 := cell_blk BR2.out 1
  have e1 := Blk.free BR2.out 1
  have r2 := cell_blk BR2.out 2
  have e2 := Blk.free BR2.out 2
  have r3 := cell_blk BR2.out 3
  have e3 := Blk.free BR2.out 3
  have r4 := cell_blk BR2.out 4
  have e4 := Blk.free BR2.out 4
  have r5 := cell_blk BR2.out 5
  have e5 := Blk.free BR2.out 5
  have r6 := cell_blk BR2.out 6
  have e6 := Blk.free BR2.out 6
  go_wp2_with fail
  refine bodyPost_ret (results_two_tmp rfl _ _ (y + 1) 30 _ _ rfl (Blk.set7 (BR2.out.other (p := ⟨y, 4, none⟩) (by show y + 1 ≠ y; omega) _)) Tryz.underlying30 rfl (by kernel_rfl)) rfl ?_
  exact ⟨_, rfl, ⟨_, _, rfl, HN.out.same (fld_kept K2.out hyy), HZ.out⟩, fld_kept K2.out hyy⟩
set_option maxRecDepth 100000 in
set_option maxHeartbeats 3200000 in
theorem cr_field_k (s : Stp) (x : Tx) (hx : x.length ≤ 400000) (w : World) (v : Value) (z : Nat → Prop) (_hzw : ∀ j, z j → j < w.heap.size) (hs : StpD z w s v) :
    Calls Tryz.prog 33 #[v, .int .u8 107, encStr x] w fun e w' => ∃ v', e = .returned (.tuple #[v', .bool (fieldR s .k x).2]) ∧ StpD z w' (fieldR s .k x).1 v' ∧ Same w w' := by
  obtain ⟨fa, ca, rfl, hn, hz⟩ := hs
  have HN := Lib.hid hn; have HZ := Lib.hid hz
  clear hn hz
  obtain ⟨sk, stx, ske, sva, sn, sd, sf⟩ := s
  simp only at HN ⊢
  have UW := Lib.hid (fun w => cr_unword x hx w)
  unfold unwordP at UW
  have NW := Lib.hid (fun w => cr_number x (by omega) w)
  obtain ⟨tx, htx⟩ : ∃ t, (unwordT x).getD [] = t := ⟨_, rfl⟩
  obtain ⟨tk, htk⟩ : ∃ t, (unwordT x).isSome = t := ⟨_, rfl⟩
  obtain ⟨nv, hnv⟩ : ∃ t, (numP x).1 = t := ⟨_, rfl⟩
  obtain ⟨nk, hnk⟩ : ∃ t, (numP x).2 = t := ⟨_, rfl⟩
  rw [htx, htk] at UW
  rw [hnv, hnk] at NW
  simp only [fieldR]
  try rw [htx]
  try rw [htk]
  try rw [hnv]
  try rw [hnk]
  clear htx htk hnv hnk
  obtain ⟨y, hyy⟩ : ∃ y, w.heap.size = y := ⟨_, rfl⟩
  have k0 : Same w ((w.alloc (.cells #[.int .u8 (sk : Nat), .int .i64 stx, encStr ske, encStr sva, .int .i64 sn, .bool sd, .slice fa sf.length ca] 30)).alloc (.cells #[.int .u8 0, .int .i64 0, .string ⟨#[]⟩, .string ⟨#[]⟩, .int .i64 0, .bool false, .slice none 0 0] 30)) := ((Kept.refl _ w).alloc _).alloc _
  have bS : Blk ((w.alloc (.cells #[.int .u8 (sk : Nat), .int .i64 stx, encStr ske, encStr sva, .int .i64 sn, .bool sd, .slice fa sf.length ca] 30)).alloc (.cells #[.int .u8 0, .int .i64 0, .string ⟨#[]⟩, .string ⟨#[]⟩, .int .i64 0, .bool false, .slice none 0 0] 30)) y #[.int .u8 (sk : Nat), .int .i64 stx, encStr ske, encStr sva, .int .i64 sn, .bool sd, .slice fa sf.length ca] 30 := (Blk.new' _ _ _ hyy.symm).alloc _
  have bR : Blk ((w.alloc (.cells #[.int .u8 (sk : Nat), .int .i64 stx, encStr ske, encStr sva, .int .i64 sn, .bool sd, .slice fa sf.length ca] 30)).alloc (.cells #[.int .u8 0, .int .i64 0, .string ⟨#[]⟩, .string ⟨#[]⟩, .int .i64 0, .bool false, .slice none 0 0] 30)) (y + 1) #[.int .u8 0, .int .i64 0, .string ⟨#[]⟩, .string ⟨#[]⟩, .int .i64 0, .bool false, .slice none 0 0] 30 := Blk.new' _ _ _ (by simp [hyy])
  go_enter Tryz.func33, Tryz.ntmps33
  go_upto_region 1 with fail
  refine cutC (fun wn => Same w wn ∧ Blk wn y #[.int .u8 (sk : Nat), .int .i64 stx, encStr ske, encStr sva, .int .i64 sn, .bool sd, .slice fa sf.length ca] 30 ∧ Blk wn (y + 1) #[.int .u8 0, .int .i64 0, .string ⟨#[]⟩, .string ⟨#[]⟩, .int .i64 0, .bool false, .slice none 0 0] 30) ⟨k0, bS, bR⟩ ?_
  clear k0 bS bR
  rintro w1 ⟨k1, bS1, bR1⟩
  have K1 := Lib.hid k1; have BS1 := Lib.hid bS1; have BR1 := Lib.hid bR1
  clear k1 bS1 bR1
  go_wp2_with fail
  refine (UW.out _).mono ?_
  rintro e w2 ⟨rfl, k2⟩
  have K2 := Lib.hid (K1.out.trans k2); have BS2 := Lib.hid (BS1.out.kept k2 (fun h => h)); have BR2 := Lib.hid (BR1.out.kept k2 (fun h => h))
  clear k2 K1 BS1 BR1
  go_wp2_with fail
  refine (NW.out _).mono ?_
  rintro e w3 ⟨rfl, rfl⟩
  clear UW NW
  have p0 := cell_blk BS2.out 0
  have f0 := Blk.free BS2.out 0
  have p1 := cell_blk BS2.out 1
  have f1 := Blk.free BS2.out 1
  have p2 := cell_blk BS2.out 2
  have f2 := Blk.free BS2.out 2
  have p3 := cell_blk BS2.out 3
  have f3 := Blk.free BS2.out 3
  have p4 := cell_blk BS2.out 4
  have f4 := Blk.free BS2.out 4
  have p5 := cell_blk BS2.out 5
  have f5 := Blk.free BS2.out 5
  have p6 := cell_blk BS2.out 6
  have f6 := Blk.free BS2.out 6
  have r0 := cell_blk BR2.out 0
  have e0 := Blk.free BR2.out 0
  have r1 := cell_blk BR2.out 1
  have e1 := Blk.free BR2.out 1
  have r2 := cell_blk BR2.out 2
  have e2 := Blk.free BR2.out 2
  have r3 := cell_blk BR2.out 3
  have e3 := Blk.free BR2.out 3
  have r4 := cell_blk BR2.out 4
  have e4 := Blk.free BR2.out 4
  have r5 := cell_blk BR2.out 5
  have e5 := Blk.free BR2.out 5
  have r6 := cell_blk BR2.out 6
  have e6 := Blk.free BR2.out 6
  go_wp2_with fail
  refine bodyPost_ret (results_two_tmp rfl _ _ (y + 1) 30 _ _ rfl (Blk.set7 (BR2.out.other (p := ⟨y, 2, none⟩) (by show y + 1 ≠ y; omega) _)) Tryz.underlying30 rfl (by kernel_rfl)) rfl ?_
  exact ⟨_, rfl, ⟨_, _, rfl, HN.out.same (fld_kept K2.out hyy), HZ.out⟩, fld_kept K2.out hyy⟩
set_option maxRecDepth 100000 in
set_option maxHeartbeats 3200000 in
theorem cr_field_v (s : Stp) (x : Tx) (hx : x.length ≤ 400000) (w : World) (v : Value) (z : Nat → Prop) (_hzw : ∀ j, z j → j < w.heap.size) (hs : StpD z w s v) :
    Calls Tryz.prog 33 #[v, .int .u8 118, encStr x] w fun e w' => ∃ v', e = .returned (.tuple #[v', .bool (fieldR s .v x).2]) ∧ StpD z w' (fieldR s .v x).1 v' ∧ Same w w' := by
  obtain ⟨fa, ca, rfl, hn, hz⟩ := hs
  have HN := Lib.hid hn; have HZ := Lib.hid hz
  clear hn hz
  obtain ⟨sk, stx, ske, sva, sn, sd, sf⟩ := s
  simp only at HN ⊢
  have UW := Lib.hid (fun w => cr_unword x hx w)
  unfold unwordP at UW
  have NW := Lib.hid (fun w => cr_number x (by omega) w)
  obtain ⟨tx, htx⟩ : ∃ t, (unwordT x).getD [] = t := ⟨_, rfl⟩
  obtain ⟨tk, htk⟩ : ∃ t, (unwordT x).isSome = t := ⟨_, rfl⟩
  obtain ⟨nv, hnv⟩ : ∃ t, (numP x).1 = t := ⟨_, rfl⟩
  obtain ⟨nk, hnk⟩ : ∃ t, (numP x).2 = t := ⟨_, rfl⟩
  rw [htx, htk] at UW
  rw [hnv, hnk] at NW
  simp only [fieldR]
  try rw [htx]
  try rw [htk]
  try rw [hnv]
  try rw [hnk]
  clear htx htk hnv hnk
  obtain ⟨y, hyy⟩ : ∃ y, w.heap.size = y := ⟨_, rfl⟩
  have k0 : Same w ((w.alloc (.cells #[.int .u8 (sk : Nat), .int .i64 stx, encStr ske, encStr sva, .int .i64 sn, .bool sd, .slice fa sf.length ca] 30)).alloc (.cells #[.int .u8 0, .int .i64 0, .string ⟨#[]⟩, .string ⟨#[]⟩, .int .i64 0, .bool false, .slice none 0 0] 30)) := ((Kept.refl _ w).alloc _).alloc _
  have bS : Blk ((w.alloc (.cells #[.int .u8 (sk : Nat), .int .i64 stx, encStr ske, encStr sva, .int .i64 sn, .bool sd, .slice fa sf.length ca] 30)).alloc (.cells #[.int .u8 0, .int .i64 0, .string ⟨#[]⟩, .string ⟨#[]⟩, .int .i64 0, .bool false, .slice none 0 0] 30)) y #[.int .u8 (sk : Nat), .int .i64 stx, encStr ske, encStr sva, .int .i64 sn, .bool sd, .slice fa sf.length ca] 30 := (Blk.new' _ _ _ hyy.symm).alloc _
  have bR : Blk ((w.alloc (.cells #[.int .u8 (sk : Nat), .int .i64 stx, encStr ske, encStr sva, .int .i64 sn, .bool sd, .slice fa sf.length ca] 30)).alloc (.cells #[.int .u8 0, .int .i64 0, .string ⟨#[]⟩, .string ⟨#[]⟩, .int .i64 0, .bool false, .slice none 0 0] 30)) (y + 1) #[.int .u8 0, .int .i64 0, .string ⟨#[]⟩, .string ⟨#[]⟩, .int .i64 0, .bool false, .slice none 0 0] 30 := Blk.new' _ _ _ (by simp [hyy])
  go_enter Tryz.func33, Tryz.ntmps33
  go_upto_region 1 with fail
  refine cutC (fun wn => Same w wn ∧ Blk wn y #[.int .u8 (sk : Nat), .int .i64 stx, encStr ske, encStr sva, .int .i64 sn, .bool sd, .slice fa sf.length ca] 30 ∧ Blk wn (y + 1) #[.int .u8 0, .int .i64 0, .string ⟨#[]⟩, .string ⟨#[]⟩, .int .i64 0, .bool false, .slice none 0 0] 30) ⟨k0, bS, bR⟩ ?_
  clear k0 bS bR
  rintro w1 ⟨k1, bS1, bR1⟩
  have K1 := Lib.hid k1; have BS1 := Lib.hid bS1; have BR1 := Lib.hid bR1
  clear k1 bS1 bR1
  go_wp2_with fail
  refine (UW.out _).mono ?_
  rintro e w2 ⟨rfl, k2⟩
  have K2 := Lib.hid (K1.out.trans k2); have BS2 := Lib.hid (BS1.out.kept k2 (fun h => h)); have BR2 := Lib.hid (BR1.out.kept k2 (fun h => h))
  clear k2 K1 BS1 BR1
  go_wp2_with fail
  refine (NW.out _).mono ?_
  rintro e w3 ⟨rfl, rfl⟩
  clear UW NW
  have p0 := cell_blk BS2.out 0
  have f0 := Blk.free BS2.out 0
  have p1 := cell_blk BS2.out 1
  have f1 := Blk.free BS2.out 1
  have p2 := cell_blk BS2.out 2
  have f2 := Blk.free BS2.out 2
  have p3 := cell_blk BS2.out 3
  have f3 := Blk.free BS2.out 3
  have p4 := cell_blk BS2.out 4
  have f4 := Blk.free BS2.out 4
  have p5 := cell_blk BS2.out 5
  have f5 := Blk.free BS2.out 5
  have p6 := cell_blk BS2.out 6
  have f6 := Blk.free BS2.out 6
  have r0 := cell_blk BR2.out 0
  have e0 := Blk.free BR2.out 0
  have r1 := cell_blk BR2.out 1
  have e1 := Blk.free BR2.out 1
  have r2 := cell_blk BR2.out 2
  have e2 := Blk.free BR2.out 2
  have r3 := cell_blk BR2.out 3
  have e3 := Blk.free BR2.out 3
  have r4 := cell_blk BR2.out 4
  have e4 := Blk.free BR2.out 4
  have r5 := cell_blk BR2.out 5
  have e5 := Blk.free BR2.out 5
  have r6 := cell_blk BR2.out 6
  have e6 := Blk.free BR2.out 6
  go_wp2_with fail
  refine bodyPost_ret (results_two_tmp rfl _ _ (y + 1) 30 _ _ rfl (Blk.set7 (BR2.out.other (p := ⟨y, 3, none⟩) (by show y + 1 ≠ y; omega) _)) Tryz.underlying30 rfl (by kernel_rfl)) rfl ?_
  exact ⟨_, rfl, ⟨_, _, rfl, HN.out.same (fld_kept K2.out hyy), HZ.out⟩, fld_kept K2.out hyy⟩
set_option maxRecDepth 100000 in
set_option maxHeartbeats 3200000 in
theorem cr_field_d (s : Stp) (x : Tx) (hx : x.length ≤ 400000) (w : World) (v : Value) (z : Nat → Prop) (_hzw : ∀ j, z j → j < w.heap.size) (hs : StpD z w s v) :
    Calls Tryz.prog 33 #[v, .int .u8 100, encStr x] w fun e w' => ∃ v', e = .returned (.tuple #[v', .bool (fieldR s .d x).2]) ∧ StpD z w' (fieldR s .d x).1 v' ∧ Same w w' := by
  obtain ⟨fa, ca, rfl, hn, hz⟩ := hs
  have HN := Lib.hid hn; have HZ := Lib.hid hz
  clear hn hz
  obtain ⟨sk, stx, ske, sva, sn, sd, sf⟩ := s
  simp only at HN ⊢
  have UW := Lib.hid (fun w => cr_unword x hx w)
  unfold unwordP at UW
  have NW := Lib.hid (fun w => cr_number x (by omega) w)
  obtain ⟨tx, htx⟩ : ∃ t, (unwordT x).getD [] = t := ⟨_, rfl⟩
  obtain ⟨tk, htk⟩ : ∃ t, (unwordT x).isSome = t := ⟨_, rfl⟩
  obtain ⟨nv, hnv⟩ : ∃ t, (numP x).1 = t := ⟨_, rfl⟩
  obtain ⟨nk, hnk⟩ : ∃ t, (numP x).2 = t := ⟨_, rfl⟩
  rw [htx, htk] at UW
  rw [hnv, hnk] at NW
  simp only [fieldR]
  try rw [htx]
  try rw [htk]
  try rw [hnv]
  try rw [hnk]
  clear htx htk hnv hnk
  obtain ⟨y, hyy⟩ : ∃ y, w.heap.size = y := ⟨_, rfl⟩
  have k0 : Same w ((w.alloc (.cells #[.int .u8 (sk : Nat), .int .i64 stx, encStr ske, encStr sva, .int .i64 sn, .bool sd, .slice fa sf.length ca] 30)).alloc (.cells #[.int .u8 0, .int .i64 0, .string ⟨#[]⟩, .string ⟨#[]⟩, .int .i64 0, .bool false, .slice none 0 0] 30)) := ((Kept.refl _ w).alloc _).alloc _
  have bS : Blk ((w.alloc (.cells #[.int .u8 (sk : Nat), .int .i64 stx, encStr ske, encStr sva, .int .i64 sn, .bool sd, .slice fa sf.length ca] 30)).alloc (.cells #[.int .u8 0, .int .i64 0, .string ⟨#[]⟩, .string ⟨#[]⟩, .int .i64 0, .bool false, .slice none 0 0] 30)) y #[.int .u8 (sk : Nat), .int .i64 stx, encStr ske, encStr sva, .int .i64 sn, .bool sd, .slice fa sf.length ca] 30 := (Blk.new' _ _ _ hyy.symm).alloc _
  have bR : Blk ((w.alloc (.cells #[.int .u8 (sk : Nat), .int .i64 stx, encStr ske, encStr sva, .int .i64 sn, .bool sd, .slice fa sf.length ca] 30)).alloc (.cells #[.int .u8 0, .int .i64 0, .string ⟨#[]⟩, .string ⟨#[]⟩, .int .i64 0, .bool false, .slice none 0 0] 30)) (y + 1) #[.int .u8 0, .int .i64 0, .string ⟨#[]⟩, .string ⟨#[]⟩, .int .i64 0, .bool false, .slice none 0 0] 30 := Blk.new' _ _ _ (by simp [hyy])
  go_enter Tryz.func33, Tryz.ntmps33
  go_upto_region 1 with fail
  refine cutC (fun wn => Same w wn ∧ Blk wn y #[.int .u8 (sk : Nat), .int .i64 stx, encStr ske, encStr sva, .int .i64 sn, .bool sd, .slice fa sf.length ca] 30 ∧ Blk wn (y + 1) #[.int .u8 0, .int .i64 0, .string ⟨#[]⟩, .string ⟨#[]⟩, .int .i64 0, .bool false, .slice none 0 0] 30) ⟨k0, bS, bR⟩ ?_
  clear k0 bS bR
  rintro w1 ⟨k1, bS1, bR1⟩
  have K1 := Lib.hid k1; have BS1 := Lib.hid bS1; have BR1 := Lib.hid bR1
  clear k1 bS1 bR1
  go_wp2_with fail
  refine (UW.out _).mono ?_
  rintro e w2 ⟨rfl, k2⟩
  have K2 := Lib.hid (K1.out.trans k2); have BS2 := Lib.hid (BS1.out.kept k2 (fun h => h)); have BR2 := Lib.hid (BR1.out.kept k2 (fun h => h))
  clear k2 K1 BS1 BR1
  go_wp2_with fail
  refine (NW.out _).mono ?_
  rintro e w3 ⟨rfl, rfl⟩
  clear UW NW
  have e1' : ((nv : Int) == 1) = decide (nv = 1) := by rw [Bool.eq_iff_iff]; simp only [beq_iff_eq, decide_eq_true_eq]; omega
  have e2' : decide ((nv : Int) ≤ 1) = decide (nv ≤ 1) := by rw [Bool.eq_iff_iff]; simp only [decide_eq_true_eq]; omega
  have p0 := cell_blk BS2.out 0
  have f0 := Blk.free BS2.out 0
  have p1 := cell_blk BS2.out 1
  have f1 := Blk.free BS2.out 1
  have p2 := cell_blk BS2.out 2
  have f2 := Blk.free BS2.out 2
  have p3 := cell_blk BS2.out 3
  have f3 := Blk.free BS2.out 3
  have p4 := cell_blk BS2.out 4
  have f4 := Blk.free BS2.out 4
  have p5 := cell_blk BS2.out 5
  have f5 := Blk.free BS2.out 5
  have p6 := cell_blk BS2.out 6
  have f6 := Blk.free BS2.out 6
  have r0 := cell_blk BR2.out 0
  have e0 := Blk.free BR2.out 0
  have r1 := cell_blk BR2.out 1
  have e1 := Blk.free BR2.out 1
  have r2 := cell_blk BR2.out 2
  have e2 := Blk.free BR2.out 2
  have r3 := cell_blk BR2.out 3
  have e3 := Blk.free BR2.out 3
  have r4 := cell_blk BR2.out 4
  have e4 := Blk.free BR2.out 4
  have r5 := cell_blk BR2.out 5
  have e5 := Blk.free BR2.out 5
  have r6 := cell_blk BR2.out 6
  have e6 := Blk.free BR2.out 6
  cases nk with
  | false =>
    go_wp2_with fail
    refine bodyPost_ret (results_two_tmp rfl _ _ (y + 1) 30 _ _ rfl (Blk.set7 (BR2.out.other (p := ⟨y, 5, none⟩) (by show y + 1 ≠ y; omega) _)) Tryz.underlying30 rfl (by kernel_rfl)) rfl ?_
    exact ⟨_, rfl, ⟨_, _, rfl, HN.out.same (fld_kept K2.out hyy), HZ.out⟩, fld_kept K2.out hyy⟩
  | true =>
    go_wp2_with fail
    refine bodyPost_ret (results_two_tmp rfl _ _ (y + 1) 30 _ _ rfl (Blk.set7 (BR2.out.other (p := ⟨y, 5, none⟩) (by show y + 1 ≠ y; omega) _)) Tryz.underlying30 rfl (by kernel_rfl)) rfl ?_
    exact ⟨_, rfl, ⟨_, _, rfl, HN.out.same (fld_kept K2.out hyy), HZ.out⟩, fld_kept K2.out hyy⟩
set_option maxRecDepth 100000 in
set_option maxHeartbeats 3200000 in
theorem cr_field_fl (s : Stp) (x : Tx) (hx : x.length ≤ 400000) (w : World) (v : Value) (z : Nat → Prop) (hzw : ∀ j, z j → j < w.heap.size) (hs : StpD z w s v) :
    Calls Tryz.prog 33 #[v, .int .u8 102, encStr x] w fun e w' => ∃ v', e = .returned (.tuple #[v', .bool (fieldR s .fl x).2]) ∧ StpD z w' (fieldR s .fl x).1 v' ∧ Same w w' := by
  obtain ⟨fa, ca, rfl, hn, hz⟩ := hs
  have HN := Lib.hid hn; have HZ := Lib.hid hz
  clear hn hz
  obtain ⟨sk, stx, ske, sva, sn, sd, sf⟩ := s
  simp only at HN ⊢
  have UW := Lib.hid (fun w => cr_unword x hx w)
  unfold unwordP at UW
  have NW := Lib.hid (fun w => cr_number x (by omega) w)
  obtain ⟨tx, htx⟩ : ∃ t, (unwordT x).getD [] = t := ⟨_, rfl⟩
  obtain ⟨tk, htk⟩ : ∃ t, (unwordT x).isSome = t := ⟨_, rfl⟩
  obtain ⟨nv, hnv⟩ : ∃ t, (numP x).1 = t := ⟨_, rfl⟩
  obtain ⟨nk, hnk⟩ : ∃ t, (numP x).2 = t := ⟨_, rfl⟩
  rw [htx, htk] at UW
  rw [hnv, hnk] at NW
  simp only [fieldR]
  try rw [htx]
  try rw [htk]
  try rw [hnv]
  try rw [hnk]
  clear htx htk hnv hnk
  obtain ⟨y, hyy⟩ : ∃ y, w.heap.size = y := ⟨_, rfl⟩
  have k0 : Same w ((w.alloc (.cells #[.int .u8 (sk : Nat), .int .i64 stx, encStr ske, encStr sva, .int .i64 sn, .bool sd, .slice fa sf.length ca] 30)).alloc (.cells #[.int .u8 0, .int .i64 0, .string ⟨#[]⟩, .string ⟨#[]⟩, .int .i64 0, .bool false, .slice none 0 0] 30)) := ((Kept.refl _ w).alloc _).alloc _
  have bS : Blk ((w.alloc (.cells #[.int .u8 (sk : Nat), .int .i64 stx, encStr ske, encStr sva, .int .i64 sn, .bool sd, .slice fa sf.length ca] 30)).alloc (.cells #[.int .u8 0, .int .i64 0, .string ⟨#[]⟩, .string ⟨#[]⟩, .int .i64 0, .bool false, .slice none 0 0] 30)) y #[.int .u8 (sk : Nat), .int .i64 stx, encStr ske, encStr sva, .int .i64 sn, .bool sd, .slice fa sf.length ca] 30 := (Blk.new' _ _ _ hyy.symm).alloc _
  have bR : Blk ((w.alloc (.cells #[.int .u8 (sk : Nat), .int .i64 stx, encStr ske, encStr sva, .int .i64 sn, .bool sd, .slice fa sf.length ca] 30)).alloc (.cells #[.int .u8 0, .int .i64 0, .string ⟨#[]⟩, .string ⟨#[]⟩, .int .i64 0, .bool false, .slice none 0 0] 30)) (y + 1) #[.int .u8 0, .int .i64 0, .string ⟨#[]⟩, .string ⟨#[]⟩, .int .i64 0, .bool false, .slice none 0 0] 30 := Blk.new' _ _ _ (by simp [hyy])
  go_enter Tryz.func33, Tryz.ntmps33
  go_upto_region 1 with fail
  refine cutC (fun wn => Same w wn ∧ Blk wn y #[.int .u8 (sk : Nat), .int .i64 stx, encStr ske, encStr sva, .int .i64 sn, .bool sd, .slice fa sf.length ca] 30 ∧ Blk wn (y + 1) #[.int .u8 0, .int .i64 0, .string ⟨#[]⟩, .string ⟨#[]⟩, .int .i64 0, .bool false, .slice none 0 0] 30) ⟨k0, bS, bR⟩ ?_
  clear k0 bS bR
  rintro w1 ⟨k1, bS1, bR1⟩
  have K1 := Lib.hid k1; have BS1 := Lib.hid bS1; have BR1 := Lib.hid bR1
  clear k1 bS1 bR1
  go_wp2_with fail
  refine (UW.out _).mono ?_
  rintro e w2 ⟨rfl, k2⟩
  have K2 := Lib.hid (K1.out.trans k2); have BS2 := Lib.hid (BS1.out.kept k2 (fun h => h)); have BR2 := Lib.hid (BR1.out.kept k2 (fun h => h))
  clear k2 K1 BS1 BR1
  go_wp2_with fail
  refine (NW.out _).mono ?_
  rintro e w3 ⟨rfl, rfl⟩
  clear UW NW
  obtain ⟨cc, w4, hcv, hat, -, hk4⟩ := conv_byt tx w3
  obtain ⟨m, hm⟩ : ∃ m, w3.heap.size = m := ⟨_, rfl⟩
  have hmy : y + 1 < m := by have := BR2.out.lt; omega
  rw [hm] at hat hcv
  have K4 := Lib.hid (K2.out.trans hk4); have BS4 := Lib.hid (BS2.out.kept hk4 (fun h => h)); have BR4 := Lib.hid (BR2.out.kept hk4 (fun h => h))
  have AT := Lib.hid hat
  clear K2 BS2 BR2 HN hk4 hat hm
  have K2 := K4; have BS2 := BS4; have BR2 := BR4
  clear K4 BS4 BR4
  have p0 := cell_blk BS2.out 0
  have f0 := Blk.free BS2.out 0
  have p1 := cell_blk BS2.out 1
  have f1 := Blk.free BS2.out 1
  have p2 := cell_blk BS2.out 2
  have f2 := Blk.free BS2.out 2
  have p3 := cell_blk BS2.out 3
  have f3 := Blk.free BS2.out 3
  have p4 := cell_blk BS2.out 4
  have f4 := Blk.free BS2.out 4
  have p5 := cell_blk BS2.out 5
  have f5 := Blk.free BS2.out 5
  have p6 := cell_blk BS2.out 6
  have f6 := Blk.free BS2.out 6
  have r0 := cell_blk BR2.out 0
  have e0 := Blk.free BR2.out 0
  have r1 := cell_blk BR2.out 1
  have e1 := Blk.free BR2.out 1
  have r2 := cell_blk BR2.out 2
  have e2 := Blk.free BR2.out 2
  have r3 := cell_blk BR2.out 3
  have e3 := Blk.free BR2.out 3
  have r4 := cell_blk BR2.out 4
  have e4 := Blk.free BR2.out 4
  have r5 := cell_blk BR2.out 5
  have e5 := Blk.free BR2.out 5
  have r6 := cell_blk BR2.out 6
  have e6 := Blk.free BR2.out 6
  go_wp2_with fail
  refine bodyPost_ret (results_two_tmp rfl _ _ (y + 1) 30 _ _ rfl (Blk.set7 (BR2.out.other (p := ⟨y, 6, none⟩) (by show y + 1 ≠ y; omega) _)) Tryz.underlying30 rfl (by kernel_rfl)) rfl ?_
  have a1 := AT.out.kept ((Kept.refl (fun k => k = y) w4).setCell (p := ⟨y, 6, none⟩) (fun _ => rfl) (.slice (some ⟨m, 0, none⟩) tx.length cc)) (fun x e h => by cases e; have h' : m = y := h; omega)
  exact ⟨_, rfl, ⟨_, _, rfl, a1.kept (Kept.seven (b := y + 1)) (fun x e h => by cases e; have h' : m = y + 1 := h; omega), fun x e => by cases e; show ¬ z m; intro h; have := hzw m h; omega⟩, fld_kept K2.out hyy⟩
theorem cr_field (s : Stp) (f : Fld) (x : Tx) (hx : x.length ≤ 400000) (w : World) (v : Value) (z : Nat → Prop) (hzw : ∀ j, z j → j < w.heap.size) (hs : StpD z w s v) :
    Calls Tryz.prog 33 #[v, .int .u8 ((fldC f).toNat : Nat), encStr x] w fun e w' => ∃ v', e = .returned (.tuple #[v', .bool (fieldR s f x).2]) ∧ StpD z w' (fieldR s f x).1 v' ∧ Same w w' := by
  cases f with
  | t => exact cr_field_t s x hx w v z hzw hs
  | n => exact cr_field_n s x hx w v z hzw hs
  | d => exact cr_field_d s x hx w v z hzw hs
  | k => exact cr_field_k s x hx w v z hzw hs
  | v => exact cr_field_v s x hx w v z hzw hs
  | fl => exact cr_field_fl s x hx w v z hzw hs
end Go.Proofs.YtnjmdldhgconmaaGreatDoor

namespace Go.Proofs.YtnjmdldhgconmaaGreatDoor
open Go.RowKit Go.Sort

theorem putFs_len : ∀ {fs : List Fld} {ws : List Tx} {s : Stp}, fs.length ≠ ws.length → putFs s fs ws = none
  | [], [], _, h => absurd rfl h
  | [], _ :: _, _, _ => rfl
  | _ :: _, [], _, _ => rfl
  | f :: fs, w :: ws, s, h => by
    rw [putFs]
    cases putF s f w with
    | none => rfl
    | some s' => exact putFs_len (by simpa using h)
theorem shape_name {i : Nat} (hi : i < 13) : shapeT i = some (shapeN i, shapeF i) := by
  have key : ∀ i, i < 13 → shapeT i = some (shapeN i, shapeF i) := by decide
  exact key i hi
theorem parseK_name {i : Nat} (hi : i < 13) {h : Tx} {r : List Tx} (hn : shapeN i ≠ h) : parseK i (h :: r) = none := by
  unfold parseK
  rw [shape_name hi]
  simp only
  rw [if_neg hn]
theorem parseK_len {i : Nat} (hi : i < 13) {h : Tx} {r : List Tx} (hn : (shapeF i).length ≠ r.length) : parseK i (h :: r) = none := by
  unfold parseK
  rw [shape_name hi]
  simp only
  rw [putFs_len hn, ite_self]
theorem parseW_none {ws : List Tx} (h : ∀ j, j < 13 → parseK j ws = none) : parseW ws = none := by
  unfold parseW
  rw [List.findSome?_eq_none_iff]
  intro i hi
  exact h i (List.mem_range.1 hi)
theorem shapeF_len {i : Nat} (hi : i < 13) : (shapeF i).length ≤ 4 := by
  have key : ∀ i, i < 13 → (shapeF i).length ≤ 4 := by decide
  exact key i hi
/-- What the document's Parse tells. -/
def ParseD (w : World) (l : Tx) (v : Value) : Prop := ∃ sv, v = .tuple #[sv, .bool (parseT l).isSome] ∧ StpD (fun _ => False) w ((parseT l).getD (stp0 0)) sv
/-- A field more. -/
theorem put_step {s : Stp} {fs : List Fld} {r : List Tx} {j : Nat} {f : Fld} {x : Tx} (hf : fs[j]? = some f) (hx : r[j]? = some x) : putFs s (fs.drop j) (r.drop j) = if (fieldR s f x).2 = true then putFs (fieldR s f x).1 (fs.drop (j + 1)) (r.drop (j + 1)) else none := by
  obtain ⟨h1, rfl⟩ := List.getElem?_eq_some_iff.1 hf
  obtain ⟨h2, rfl⟩ := List.getElem?_eq_some_iff.1 hx
  rw [List.drop_eq_getElem_cons h1, List.drop_eq_getElem_cons h2, putFs, fieldR_put]
  cases (fieldR s fs[j] r[j]).2 <;> rfl

/-- Behind j fields. -/
def FldR (l : Tx) (fs : List Fld) (r : List Tx) (z y : Nat) (wm : World) (j : Nat) (ok : Value) (wq : World) : Prop := j ≤ fs.length ∧ ∃ (s : Stp) (b : Bool) (a : Option Addr) (c : Nat), ok = .bool b ∧ Blk wq z #[.int .u8 (s.k : Nat), .int .i64 s.txn, encStr s.key, encStr s.val, .int .i64 s.n, .bool s.d, .slice a s.f.length c] 30 ∧ NatsAt wq .u8 a (natsU s.f) ∧ (∀ x, a = some x → ¬ (x.block = z ∨ x.block = y)) ∧ parseT l = (if b = true then putFs s (fs.drop j) (r.drop j) else none) ∧ Kept (fun k => k = z) wm wq
set_option maxRecDepth 100000 in
set_option maxHeartbeats 6400000 in
theorem cr_parse (l : Tx) (hl : l.length ≤ 400000) (w : World) :
    Calls Tryz.prog 11 #[encStr l] w fun e w' => ∃ v, e = .returned v ∧ ParseD w' l v ∧ Same w w' := by
  obtain ⟨y, hyy⟩ : ∃ y, w.heap.size = y := ⟨_, rfl⟩
  have WD := Lib.hid (fun w => cr_words l hl w)
  have k0 : Same w (w.alloc (.cells #[.int .u8 0, .int .i64 0, .string ⟨#[]⟩, .string ⟨#[]⟩, .int .i64 0, .bool false, .slice none 0 0] 30)) := (Kept.refl _ w).alloc _
  have b0 : Blk (w.alloc (.cells #[.int .u8 0, .int .i64 0, .string ⟨#[]⟩, .string ⟨#[]⟩, .int .i64 0, .bool false, .slice none 0 0] 30)) y #[.int .u8 0, .int .i64 0, .string ⟨#[]⟩, .string ⟨#[]⟩, .int .i64 0, .bool false, .slice none 0 0] 30 := Blk.new' _ _ _ hyy.symm
  have PT : Hid (parseW (splitT l) = parseT l) := rfl
  have hsl := split_len l
  have htx := split_tx l
  obtain ⟨h, r, hws⟩ : ∃ h r, splitT l = h :: r := by
    cases e : splitT l with
    | nil => exact absurd e (split_ne l)
    | cons h r => exact ⟨h, r, rfl⟩
  rw [hws] at WD PT hsl htx
  have HT := Lib.hid htx
  clear htx hws
  go_enter Tryz.func11, Tryz.ntmps11
  go_wp2_with fail
  have K0 := Lib.hid k0; have B0 := Lib.hid b0
  clear k0 b0
  refine (WD.out _).mono ?_
  rintro e w1 ⟨v, rfl, ho, k1⟩
  obtain ⟨g, cap, cur, rfl, hg, hb, hcap, hmax, hsz, htake⟩ := ho.read (by simp)
  have hat := elsAt_of (E := txE) hb htake
  have AT := Lib.hid hat
  have K1 := Lib.hid (K0.out.trans k1); have B1 := Lib.hid (B0.out.kept k1 (fun h => h))
  have hgw : Hid (y < g ∧ g < w1.heap.size) := by
    show _ ∧ _
    have := B0.out.lt
    exact ⟨by omega, hb.lt⟩
  clear WD K0 B0 k1 ho hat hb hsz htake hg
  obtain ⟨n, hn⟩ : ∃ n, (h :: r).length = n := ⟨_, rfl⟩
  rw [hn] at hsl
  rw [hn]
  have HN : Hid (n = r.length + 1) := by show _ = _; simp at hn; omega
  clear hn
  have hn0 : 0 < n := by have := HN.out; omega
  go_wp2_with fail
  go_loopw [5] (fun t wr => ∃ i : Nat, t = .int .i64 i ∧ i ≤ 13 ∧ (∀ j, j < i → parseK j (h :: r) = none) ∧ Same w1 wr) (fun t _ => 13 - (intOf t).toNat)
  case atStart => exact ⟨0, rfl, by omega, fun j hj => absurd hj (Nat.not_lt_zero _), Kept.refl _ _⟩
  case round =>
    obtain ⟨i, rfl, hi, hno, hk⟩ := hrel
    have HK := Lib.hid hk; have NO := Lib.hid hno
    clear hk hno
    by_cases hgo : i < 13
    · have g1 : (i : Int) < 13 := by omega
      have SH := Lib.hid (fun w => cr_shape i w)
      have hw8 : IntKind.u8.wrap (i : Int) = (i : Int) := by rw [IntKind.wrap_u8]; omega
      obtain ⟨b', off', e, _, c0⟩ := tx_cell (AT.out.same HK.out) (i := 0) (x := h) rfl
      cases e
      rw [Nat.zero_add] at c0
      have hfl := shapeF_len hgo
      have SN := Lib.hid (shape_name hgo)
      have PN := Lib.hid (fun q => parseK_name hgo (h := h) (r := r) q)
      have PL := Lib.hid (fun q => parseK_len hgo (h := h) (r := r) q)
      obtain ⟨nm, hnm⟩ : ∃ nm, shapeN i = nm := ⟨_, rfl⟩
      obtain ⟨fs, hfs⟩ : ∃ fs, shapeF i = fs := ⟨_, rfl⟩
      rw [hnm] at SH SN PN
      rw [hfs] at SH SN PL hfl
      clear hnm hfs
      obtain ⟨fl, hfc⟩ : ∃ fl, fs.map fldC = fl := ⟨_, rfl⟩
      rw [hfc] at SH
      have hfll : fl.length = fs.length := by rw [← hfc]; simp
      have FC := Lib.hid (fun j (f : Fld) (hf : fs[j]? = some f) => show fl[j]? = some (fldC f) by rw [← hfc, List.getElem?_map, hf]; rfl)
      clear hfc
      go_upto_region 5 with fail
      go_wp2_with fail
      refine (SH.out _).mono ?_
      rintro e wr ⟨rfl, rfl⟩
      clear SH
      by_cases hnh : nm = h
      · subst hnh
        have q1 : (nm == nm) = true := by simp
        have q2 : (nm != nm) = false := by simp
        by_cases hlen : fs.length = r.length
        · have l1 : ((n : Int) == 1 + (fl.length : Int)) = true := by simp only [beq_iff_eq]; have := HN.out; omega
          have l2 : ((n : Int) != 1 + (fl.length : Int)) = false := by simp only [bne, l1]; rfl
          have PA := Lib.hid (show parseT l = putFs (stp0 i) fs r by rw [← PT.out]; exact parse_at SN.out r)
          clear PN PL NO PT
          go_upto_region 7 with fail
          go_upto_region 8 with fail
          obtain ⟨z, hz⟩ : ∃ z, wr.heap.size = z := ⟨_, rfl⟩
          refine cutC (fun wn => Blk wn z #[.int .u8 (i : Nat), .int .i64 0, .string ⟨#[]⟩, .string ⟨#[]⟩, .int .i64 0, .bool false, .slice none 0 0] 30 ∧ Same w1 wn ∧ z < wn.heap.size) ⟨Blk.new' _ _ _ hz.symm, HK.out.alloc _, by simp [hz]⟩ ?_
          rintro wm ⟨bz, km, hzm⟩
          rw [hz]
          have BM := Lib.hid bz; have KM := Lib.hid km; have ZM := Lib.hid hzm
          have HGZ := Lib.hid (show g ≠ z ∧ y < z ∧ w1.heap.size ≤ z from by have := hgw.out.2; have := hgw.out.1; have := HK.out.size; exact ⟨by omega, by omega, by omega⟩)
          clear bz km hzm hz HK c0 hw8
          go_wp2_with fail
          go_loopw [9, 10] (fun ok t wq => ∃ j : Nat, t = .int .i64 j ∧ FldR l fs r z y wm j ok wq) (fun _ t _ => fs.length - (intOf t).toNat)
          case atStart => exact ⟨0, rfl, by omega, stp0 i, true, none, 0, rfl, BM.out, .inl rfl, fun _ h => (nomatch h), PA.out, Kept.refl _ _⟩
          case round =>
            obtain ⟨j, rfl, hj, s, b, a, c, rfl, hbz, hna, haz, hp, hk⟩ := hrel
            have BZ := Lib.hid hbz; have NA := Lib.hid hna; have AZ := Lib.hid haz; have PP := Lib.hid hp; have KQ := Lib.hid hk
            clear hbz hna haz hp hk
            have g0 : (0 : Int) ≤ (j : Int) := by omega
            have KW := Lib.hid (show Same w1 wr from KM.out.step KQ.out (fun k hk e => by have e' : k = z := e; have := HGZ.out.2.2; omega))
            have BY := Lib.hid (B1.out.kept KW.out (fun h => h))
            have K2 := Lib.hid (K1.out.trans KW.out)
            have hjr : j ≤ r.length := by omega
            by_cases hgj : j < r.length
            · have g1 : (j : Int) < (r.length : Int) := by omega
              cases b with
              | true =>
                have hjf : j < fl.length := by omega
                obtain ⟨f, hf⟩ : ∃ f, fs[j]? = some f := ⟨_, List.getElem?_eq_getElem (by omega)⟩
                obtain ⟨x, hx⟩ : ∃ x, r[j]? = some x := ⟨_, List.getElem?_eq_getElem hgj⟩
                have hfb := FC.out j f hf
                have hfy : (fl[j]'hjf).toNat = (fldC f).toNat := by rw [List.getElem?_eq_getElem hjf] at hfb; rw [Option.some.inj hfb]
                have hy := str_at hjf hfy
                have hxl := HT.out x (List.mem_cons_of_mem _ (List.mem_of_getElem? hx))
                have BZ7 := Lib.hid (fun w' (k : Same wr w') => BZ.out.kept k (fun h => h))
                have HC := Lib.hid (show ∀ w', Same wr w' → w'.cell? ⟨g, j + 1, none⟩ = some (encStr x) from fun w' k => by
                  obtain ⟨b', off', e, _, hcl⟩ := tx_cell (AT.out.same (KW.out.trans k)) (i := j + 1) (x := x) (by simpa using hx)
                  cases e
                  rw [Nat.zero_add] at hcl
                  exact hcl)
                have PS := Lib.hid (put_step (s := s) hf hx)
                have SD : Hid (StpD (fun k => k = z ∨ k = y) wr s (.agg #[.int .u8 (s.k : Nat), .int .i64 s.txn, encStr s.key, encStr s.val, .int .i64 s.n, .bool s.d, .slice a s.f.length c])) := ⟨a, c, rfl, NA.out, AZ.out⟩
                have FL := Lib.hid (fun w' (k : Same wr w') => cr_field s f x (by omega) w' _ (fun k => k = z ∨ k = y) (fun i hi => by have h1 := BZ.out.lt; have h2 := BY.out.lt; have h3 := k.size; rcases hi with rfl | rfl <;> omega) (SD.out.same k))
                obtain ⟨⟨s2, b2⟩, hq⟩ : ∃ q, fieldR s f x = q := ⟨_, rfl⟩
                rw [hq] at PS FL
                simp only at PS FL
                clear hq
                have hwj : IntKind.i64.wrap (1 + (j : Int)) = (j : Int) + 1 := by rw [IntKind.wrap_i64]; omega
                have gj1 : (j : Int) + 1 < (n : Int) := by have := HN.out; omega
                have gj0 : (0 : Int) ≤ (j : Int) + 1 := by omega
                have gjt : ((j : Int) + 1).toNat = j + 1 := by omega
                have g2 : (j : Int) < (fl.length : Int) := by omega
                clear hf hx hfb hfy
                go_upto_region 11 with fail
                refine wp_region_T (S := fun w' => Same wr w') 9 (by kernel_rfl) (Kept.refl _ _).drew (fun hHeld hDn => ?_)
                refine wpT_zs 0 49 (v := .agg #[.int .u8 (s.k : Nat), .int .i64 s.txn, encStr s.key, encStr s.val, .int .i64 s.n, .bool s.d, .slice a s.f.length c]) hHeld hDn (fun hDn => ?_) (hv := by intro w hSw; have qz := BZ7.out w hSw; have q0 := cell_blk qz 0; have q1 := cell_blk qz 1; have q2 := cell_blk qz 2; have q3 := cell_blk qz 3; have q4 := cell_blk qz 4; have q5 := cell_blk qz 5; have q6 := cell_blk qz 6; clear qz; go_simp)
                refine wpT_zs 1 50 hHeld hDn fun hDn => ?_
                refine wpT_zs 2 51 hHeld hDn fun hDn => ?_
                refine wpT_zs 3 52 hHeld hDn fun hDn => ?_
                refine wpT_zs 4 53 hHeld hDn fun hDn => ?_
                refine wpT_zs 5 54 hHeld hDn fun hDn => ?_
                refine wpT_zs 6 55 hHeld hDn fun hDn => ?_
                refine wpT_zs 7 56 hHeld hDn fun hDn => ?_
                refine wpT_zs 8 57 (v := encStr x) hHeld hDn (fun hDn => ?_) (hv := by intro w hSw; have hc := HC.out w hSw; go_simp)
                refine wpT_last rfl (by kernel_rfl) hDn (fun K hK => ?_)
                go_simp
                refine (FL.out _ (Kept.refl _ _).drew).mono ?_
                rintro e w5 ⟨v', rfl, ⟨a2, c2, rfl, hn2, hz2⟩, k5⟩
                have k5 : Same wr w5 := (Kept.refl _ wr).drew.trans k5
                refine hK.out _ _ (fun hDn' => ?_)
                clear hK K hDn hHeld; have hDn := hDn'; clear hDn'
                refine wpT_ze 10 48 hDn fun hDn => ?_
                refine wpT_ze 11 59 hDn fun hDn => ?_
                refine wpT_ze 12 60 hDn fun hDn => ?_
                have B5 := Lib.hid (BZ.out.kept k5 (fun h => h))
                have N5 := Lib.hid hn2; have Z5 := Lib.hid hz2; have K5 := Lib.hid (KQ.out.trans (k5.mono (fun _ _ h => h.elim)))
                clear hn2 hz2 k5
                have p0 := cell_blk B5.out 0
                have f0 := Blk.free B5.out 0
                have p1 := cell_blk B5.out 1
                have f1 := Blk.free B5.out 1
                have p2 := cell_blk B5.out 2
                have f2 := Blk.free B5.out 2
                have p3 := cell_blk B5.out 3
                have f3 := Blk.free B5.out 3
                have p4 := cell_blk B5.out 4
                have f4 := Blk.free B5.out 4
                have p5 := cell_blk B5.out 5
                have f5 := Blk.free B5.out 5
                have p6 := cell_blk B5.out 6
                have f6 := Blk.free B5.out 6
                refine wpT_oneF (i := 13) rfl (by kernel_rfl) rfl (by kernel_rfl) hDn (fun K hK => ?_)
                go_simp
                refine hK.out _ _ (fun hDn' => ?_)
                clear hK K hDn; have hDn := hDn'; clear hDn'
                refine wpT_ze 14 9 hDn fun hDn => ?_
                refine wpT_done (by kernel_rfl) ?_ _
                clear hDn
                go_wp2_with fail
                go_roundw
                case rel => exact ⟨j + 1, by go_num, by omega, s2, b2, a2, c2, rfl, Blk.set7 B5.out, N5.out.kept (Kept.seven (b := z)) (fun x e h => Z5.out x e (.inl h)), Z5.out, (PP.out.trans (if_pos (by trivial))).trans PS.out, K5.out.trans Kept.seven⟩
                case measure => simp [intOf]; omega
              | false =>
                have PZ := Lib.hid (show parseT l = none by rw [PP.out]; rfl)
                have p0 := cell_blk BY.out 0
                have f0 := Blk.free BY.out 0
                have p1 := cell_blk BY.out 1
                have f1 := Blk.free BY.out 1
                have p2 := cell_blk BY.out 2
                have f2 := Blk.free BY.out 2
                have p3 := cell_blk BY.out 3
                have f3 := Blk.free BY.out 3
                have p4 := cell_blk BY.out 4
                have f4 := Blk.free BY.out 4
                have p5 := cell_blk BY.out 5
                have f5 := Blk.free BY.out 5
                have p6 := cell_blk BY.out 6
                have f6 := Blk.free BY.out 6
                clear PP PA
                go_wp2_with fail
                refine bodyPost_ret (results_two_tmp rfl _ _ y 30 _ _ rfl (Blk.set7 BY.out) Tryz.underlying30 rfl (by kernel_rfl)) rfl ?_
                exact ⟨_, rfl, ⟨_, by rw [PZ.out]; rfl, by rw [PZ.out]; exact ⟨none, 0, rfl, .inl rfl, fun _ h => (nomatch h)⟩⟩, K2.out.step Kept.seven (fun k hk e => by have e' : k = y := e; omega)⟩
            · have g1 : ¬ (j : Int) < (r.length : Int) := by omega
              have hd1 : fs.drop j = [] := List.drop_eq_nil_of_le (by omega)
              have hd2 : r.drop j = [] := List.drop_eq_nil_of_le (by omega)
              rw [hd1, hd2] at PP
              clear hd1 hd2
              have q0 := cell_blk BZ.out 0
              have q1' := cell_blk BZ.out 1
              have q2' := cell_blk BZ.out 2
              have q3 := cell_blk BZ.out 3
              have q4 := cell_blk BZ.out 4
              have q5 := cell_blk BZ.out 5
              have q6 := cell_blk BZ.out 6
              have p0 := cell_blk BY.out 0
              have f0 := Blk.free BY.out 0
              have p1 := cell_blk BY.out 1
              have f1 := Blk.free BY.out 1
              have p2 := cell_blk BY.out 2
              have f2 := Blk.free BY.out 2
              have p3 := cell_blk BY.out 3
              have f3 := Blk.free BY.out 3
              have p4 := cell_blk BY.out 4
              have f4 := Blk.free BY.out 4
              have p5 := cell_blk BY.out 5
              have f5 := Blk.free BY.out 5
              have p6 := cell_blk BY.out 6
              have f6 := Blk.free BY.out 6
              cases b with
              | true =>
                have PZ := Lib.hid (show parseT l = some s by rw [PP.out]; rfl)
                clear PP PA
                go_wp2_with fail
                refine bodyPost_ret (results_two_tmp rfl _ _ y 30 _ _ rfl (Blk.set7 BY.out) Tryz.underlying30 rfl (by kernel_rfl)) rfl ?_
                exact ⟨_, rfl, ⟨_, by rw [PZ.out]; rfl, by rw [PZ.out]; exact ⟨a, c, rfl, NA.out.kept (Kept.seven (b := y)) (fun x e h => AZ.out x e (.inr h)), fun _ _ h => h.elim⟩⟩, K2.out.step Kept.seven (fun k hk e => by have e' : k = y := e; omega)⟩
              | false =>
                have PZ := Lib.hid (show parseT l = none by rw [PP.out]; rfl)
                clear PP PA
                go_wp2_with fail
                refine bodyPost_ret (results_two_tmp rfl _ _ y 30 _ _ rfl (Blk.set7 BY.out) Tryz.underlying30 rfl (by kernel_rfl)) rfl ?_
                exact ⟨_, rfl, ⟨_, by rw [PZ.out]; rfl, by rw [PZ.out]; exact ⟨none, 0, rfl, .inl rfl, fun _ h => (nomatch h)⟩⟩, K2.out.step Kept.seven (fun k hk e => by have e' : k = y := e; omega)⟩
        · have l1 : ((n : Int) == 1 + (fl.length : Int)) = false := by simp only [beq_eq_false_iff_ne]; have := HN.out; omega
          have l2 : ((n : Int) != 1 + (fl.length : Int)) = true := by simp only [bne, l1]; rfl
          have N1 := Lib.hid (PL.out hlen)
          clear PL PN
          go_wp2_with fail
          go_roundw
          case rel => exact ⟨i + 1, by go_num, by omega, fun j hj => by rcases Nat.lt_succ_iff_lt_or_eq.1 hj with h | rfl; exact NO.out j h; exact N1.out, HK.out⟩
          case measure => simp [intOf]; omega
      · have q1 : (nm == h) = false := by simpa using hnh
        have q2 : (nm != h) = true := by simpa using hnh
        have N1 := Lib.hid (PN.out hnh)
        clear PL PN
        go_wp2_with fail
        go_roundw
        case rel => exact ⟨i + 1, by go_num, by omega, fun j hj => by rcases Nat.lt_succ_iff_lt_or_eq.1 hj with h | rfl; exact NO.out j h; exact N1.out, HK.out⟩
        case measure => simp [intOf]; omega
    · have g1 : ¬ (i : Int) < 13 := by omega
      have e : i = 13 := by omega
      subst e
      have PZ := Lib.hid (show parseT l = none by rw [← PT.out]; exact parseW_none NO.out)
      have B2 := Lib.hid (B1.out.kept HK.out (fun h => h))
      have p0 := cell_blk B2.out 0
      have f0 := Blk.free B2.out 0
      have p1 := cell_blk B2.out 1
      have f1 := Blk.free B2.out 1
      have p2 := cell_blk B2.out 2
      have f2 := Blk.free B2.out 2
      have p3 := cell_blk B2.out 3
      have f3 := Blk.free B2.out 3
      have p4 := cell_blk B2.out 4
      have f4 := Blk.free B2.out 4
      have p5 := cell_blk B2.out 5
      have f5 := Blk.free B2.out 5
      have p6 := cell_blk B2.out 6
      have f6 := Blk.free B2.out 6
      have K2 := Lib.hid (K1.out.trans HK.out)
      clear NO HK
      go_wp2_with fail
      refine bodyPost_ret (results_two_tmp rfl _ _ y 30 _ _ rfl (Blk.set7 B2.out) Tryz.underlying30 rfl (by kernel_rfl)) rfl ?_
      exact ⟨_, rfl, ⟨_, by rw [PZ.out]; rfl, by rw [PZ.out]; exact ⟨none, 0, rfl, .inl rfl, fun _ h => (nomatch h)⟩⟩, K2.out.step Kept.seven (fun k hk e => by have e' : k = y := e; omega)⟩
end Go.Proofs.YtnjmdldhgconmaaGreatDoor
