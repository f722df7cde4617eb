/- GRqA: Rq1, Rq2. -/
import Derived.Test.YtlmpkonfclnceaaGreatRqP
import Derived.Test.YtlmpkonfclnceaaGreatZerB
import Derived.Deep.RegionWith
namespace Go.Proofs.YtlmpkonfclnceaaGreat
open Go.RowKit Go.Sort

/-- Bytes, appended to bytes of one's own, with the frame. -/
theorem bts_append (w : World) (base : Nat) (v : Value) (xs : List Nat) (hown : OwnN w base 5 .u8 v xs) (ao : Option Addr) (m c : Nat) (ys : List Nat) (hm : m = ys.length) (hat : NatsAt w .u8 ao ys) (hl : xs.length + ys.length ≤ 100000) (hbase : base ≤ w.heap.size) :
    ∃ v' w', (Builtin.append_ #[29, 29] 29 #[v, .slice ao m c]).run Tryz.prog w = .ok v' w' ∧ OwnN w' base 5 .u8 v' (xs ++ ys) ∧ Kept (fun j => v.ownBlock = some j) w w' := by
  obtain ⟨v', w', hr, ho, hg, -⟩ := zb_run_appendB (P := Tryz.prog) w 29 29 5 base .u8 1 Tryz.underlying29 (by kernel_rfl) (by decide) v xs hown ao m c ys hm hat (by omega) hbase
  exact ⟨v', w', hr, ho, (Kept.refl _ w).grown hg (fun k hk _ => hk)⟩
theorem own_new1 {w : World} {g : Nat} {xs : List Nat} {cs : Array Value} (h : Blk w g cs 5) (hc : cs = (xs.map fun x => Value.int .u8 ((x : Nat) : Int)).toArray) (hm : xs.length ≤ maxLen) : OwnN w g 5 .u8 (.slice (some ⟨g, 0, none⟩) xs.length xs.length) xs := by
  subst hc
  exact OwnN.blk h rfl (Nat.le_refl _) hm
def stmI (N i : Nat) : List Nat := (List.range i).map fun j => N / 256 ^ (i - 1 - j) % 256
theorem stmI_succ (N i : Nat) : stmI N (i + 1) = N / 256 ^ i % 256 :: stmI N i := by
  unfold stmI
  rw [List.range_succ_eq_map, List.map_cons, List.map_map]
  congr 1
  apply List.map_congr_left
  intro j hj
  rw [List.mem_range] at hj
  show N / 256 ^ (i + 1 - 1 - (j + 1)) % 256 = _
  congr 3
  omega
theorem stmI_len (N i : Nat) : (stmI N i).length = i := by simp [stmI]
theorem stmI_stm (e a : Nat) : stmI (256 * e + a) 8 = stm e a := rfl
section
attribute [local go_sem ↓] exec_app semAt_app
attribute [local go_sem] isApp_lit appA appX
set_option maxRecDepth 100000 in
set_option maxHeartbeats 800000 in
theorem rq_stamp (e_ a_ : Nat) (he : e_ ≤ 1099511627776) (ha : a_ < 256) (w : World) :
    Calls Tryz.prog 90 #[.int .i64 (e_ : Nat), .int .i64 (a_ : Nat)] w fun r w' => (∃ v, r = .returned v ∧ OwnN w' w.heap.size 5 .u8 v (stm e_ a_)) ∧ Same w w' := by
  rw [← stmI_stm]
  obtain ⟨N, hN⟩ : ∃ N, 256 * e_ + a_ = N := ⟨_, rfl⟩
  have eN : (256 : Int) * (e_ : Int) + (a_ : Int) = (N : Int) := by omega
  have hNl : N ≤ 281474976711168 := by omega
  have w1 : IntKind.i64.wrap (256 * (e_ : Int)) = 256 * (e_ : Int) := IntWalk.i64_in _ (by omega)
  have w2 : IntKind.i64.wrap (256 * (e_ : Int) + (a_ : Int)) = (N : Int) := by rw [eN]; exact IntWalk.i64_in _ (by omega)
  rw [hN]
  clear hN eN
  go_enter Tryz.func90, Tryz.ntmps90
  go_wp2_with fail
  go_loopw [5, 6, 7] (fun b n t wr => ∃ i : Nat, t = .int .i64 i ∧ i ≤ 8 ∧ n = .int .i64 ((N / 256 ^ i : Nat) : Int) ∧ OwnN wr w.heap.size 5 .u8 b (stmI N i) ∧ Same w wr) (fun _ _ t _ => 8 - (intOf t).toNat)
  case atStart => exact ⟨0, rfl, by omega, by rw [Nat.pow_zero, Nat.div_one], World.ownsRow_nil _ _ _ _, Kept.refl _ _⟩
  case round =>
    obtain ⟨i, rfl, hi, rfl, ho, hk⟩ := hrel
    have K := Lib.hid hk
    have hks := hk.size
    by_cases hgo : i < 8
    · obtain ⟨a0, l0, c0, rfl, hl0, hn0, ha0, hc0⟩ := ho.rd
      obtain ⟨M, hM⟩ : ∃ M, N / 256 ^ i = M := ⟨_, rfl⟩
      have hMl : M ≤ N := by rw [← hM]; exact Nat.div_le_self _ _
      have e1 : N / 256 ^ (i + 1) = M / 256 := by rw [← hM, Nat.pow_succ, Nat.div_div_eq_div_mul]
      have e2 : stmI N (i + 1) = M % 256 :: stmI N i := by rw [stmI_succ, hM]
      have E1 := Lib.hid e1; have E2 := Lib.hid e2
      rw [hM]
      have b1 : Blk (wr.alloc (.cells #[.int .u8 ((M % 256 : Nat) : Int)] 5)) wr.heap.size #[.int .u8 ((M % 256 : Nat) : Int)] 5 := Blk.new _ _ _
      have kA : Same wr (wr.alloc (.cells #[.int .u8 ((M % 256 : Nat) : Int)] 5)) := (Kept.refl _ _).alloc _
      have o1 : OwnN _ w.heap.size 5 .u8 (.slice (some ⟨wr.heap.size, 0, none⟩) 1 1) [M % 256] := (own_new1 (xs := [M % 256]) b1 rfl (by unfold maxLen; simp)).base hks
      have hl := hl0.out
      rw [stmI_len] at hl
      obtain ⟨v5, w5, hr, o5, k5⟩ := bts_append _ _ _ _ o1 a0 l0 c0 _ hl0.out (ha0.out.same kA) (by rw [stmI_len]; simp; omega) (by simp; omega)
      rw [show [M % 256] ++ stmI N i = stmI N (i + 1) from e2.symm] at o5
      have kz : Same w w5 := (hk.trans kA).step k5 (fun j hj q => by
        have : j = wr.heap.size := by simpa [Value.ownBlock] using q.symm
        omega)
      have KZ := Lib.hid kz
      have O5 := Lib.hid o5
      rw [show ((M % 256 : Nat) : Int) = (M : Int) % 256 from by omega] at hr
      obtain ⟨aok, aV, aW⟩ := app_of hr
      have g1 : (i : Int) < 8 := by omega
      have t1 : ((M : Nat) : Int).tmod 256 = (M : Int) % 256 := Int.tmod_eq_emod_of_nonneg (by omega)
      have t2 : ((M : Nat) : Int).tdiv 256 = ((M / 256 : Nat) : Int) := by rw [Int.tdiv_eq_ediv_of_nonneg (by omega)]; omega
      have t3 : IntKind.u8.wrap ((M : Int) % 256) = (M : Int) % 256 := by rw [IntKind.wrap_u8]; omega
      have t4 : IntKind.i64.wrap ((M : Int) % 256) = (M : Int) % 256 := IntWalk.i64_in _ (by omega)
      clear hr o5 k5 kz b1 kA o1 ho hk hM e1 e2 ha0 hl
      go_wp2_with fail
      go_roundw
      case rel => exact ⟨i + 1, by go_num, by omega, by rw [E1.out]; go_num, O5.out, KZ.out⟩
      case measure => simp [intOf]; omega
    · have : i = 8 := by omega
      subst this
      have HO := Lib.hid ho
      clear ho hk
      go_wp2_with fail
      go_ret
      exact ⟨⟨_, rfl, HO.out⟩, K.out⟩
end
end Go.Proofs.YtlmpkonfclnceaaGreat

namespace Go.Proofs.YtlmpkonfclnceaaGreat
open Go.RowKit Go.Sort

/-- A string's bytes, appended to bytes of one's own, with the frame. -/
theorem bts_append_str (w : World) (base : Nat) (v : Value) (xs : List Nat) (hown : OwnN w base 5 .u8 v xs) (ys : List Nat) (hy : Bts ys) (hl : xs.length + ys.length ≤ 100000) (hbase : base ≤ w.heap.size) :
    ∃ v' w', (Builtin.append_ #[29, 9] 29 #[v, .string (strN ys)]).run Tryz.prog w = .ok v' w' ∧ OwnN w' base 5 .u8 v' (xs ++ ys) ∧ Kept (fun j => v.ownBlock = some j) w w' := by
  obtain ⟨v', w', hr, ho, hg⟩ := zb_run_append_str (P := Tryz.prog) w 29 9 29 5 base Tryz.underlying29 Tryz.underlying9 (by kernel_rfl) v xs hown ys hy (by omega) hbase
  exact ⟨v', w', hr, ho, (Kept.refl _ w).grown hg (fun k hk _ => hk)⟩
/-- Zeros, appended to bytes of one's own, with the frame. -/
theorem bts_append_zeros (w : World) (base : Nat) (v : Value) (xs : List Nat) (hown : OwnN w base 5 .u8 v xs) (n : Nat) (hl : xs.length + n ≤ 100000) (hbase : base ≤ w.heap.size) :
    ∃ v' w', (Builtin.append_ #[29, 3] 29 #[v, .int .i64 (n : Nat)]).run Tryz.prog w = .ok v' w' ∧ OwnN w' base 5 .u8 v' (xs ++ List.replicate n 0) ∧ Kept (fun j => v.ownBlock = some j) w w' := by
  obtain ⟨v', w', hr, ho, hg⟩ := zb_run_append_zeros (P := Tryz.prog) w 29 3 9 29 5 .i64 .i64 base Tryz.underlying29 Tryz.underlying3 Tryz.underlying9 (by kernel_rfl) v xs hown n (by omega) hbase
  exact ⟨v', w', hr, ho, (Kept.refl _ w).grown hg (fun k hk _ => hk)⟩
theorem own_lt {w : World} {base : Nat} {v : Value} {xs : List Nat} (h : OwnN w base 5 .u8 v xs) : ∀ j, v.ownBlock = some j → base ≤ j ∧ j < w.heap.size := fun j hj => World.ownsRow.lt h j hj
theorem bdy_snoc (l : List (List Nat)) (s : List Nat) : bdy (l ++ [s]) = bdy l ++ (s.length :: s) := by rw [bdy_append]; simp [bdy]
section
attribute [local go_sem ↓] exec_app semAt_app
attribute [local go_sem] isApp_lit appA appX
set_option maxRecDepth 100000 in
set_option maxHeartbeats 1600000 in
theorem rq_lay (e_ a_ : Nat) (he : e_ ≤ 1099511627776) (ha : a_ < 256) (a : Option Addr) (n c : Nat) (l : List (List Nat)) (hn : n = l.length) (hs : ∀ s ∈ l, s.length ≤ 238) (hb : (bdy l).length ≤ 239) (hl : TBts l) (w : World) (hat : TxtsAt w a l) :
    Calls Tryz.prog 79 #[.int .i64 (e_ : Nat), .int .i64 (a_ : Nat), .slice a n c] w fun r w' => (∃ v, r = .returned v ∧ OwnN w' w.heap.size 5 .u8 v (layS e_ a_ l)) ∧ Same w w' := by
  have HN := Lib.hid hn; have HS := Lib.hid hs; have HB := Lib.hid hb; have HL := Lib.hid hl; have HAT := Lib.hid hat
  have ST := Lib.hid fun w' => rq_stamp e_ a_ he ha w'
  have hnl : n ≤ 239 := by
    have : ∀ l : List (List Nat), l.length ≤ (bdy l).length := by
      intro l
      induction l with
      | nil => simp
      | cons s l ih => rw [bdy_cons]; simp; omega
    have := this l
    omega
  clear hn hs hb hl hat he ha
  go_enter Tryz.func79, Tryz.ntmps79
  go_wp2_with fail
  go_loopw [7, 8] (fun v t wr => ∃ i : Nat, t = .int .i64 i ∧ i ≤ n ∧ OwnN wr w.heap.size 5 .u8 v (bdy (l.take i)) ∧ Same w wr) (fun _ t _ => n - (intOf t).toNat)
  case atStart => exact ⟨0, rfl, by omega, World.ownsRow_nil _ _ _ _, Kept.refl _ _⟩
  case round =>
    obtain ⟨i, rfl, hi, ho, hk⟩ := hrel
    have K := Lib.hid hk
    have hks := hk.size
    by_cases hgo : i < n
    · obtain ⟨b, off, s, rfl, hbl, hs, hc⟩ := TxtsAt.at HAT.out (i := i) (by rw [← HN.out]; exact hgo)
      have HC : Hid (∀ w', Same w w' → w'.cell? ⟨b, off + i, none⟩ = some (.string (strN s))) := fun w' kk => (kk.cell (p := ⟨b, off + i, none⟩) hbl (fun h => h)).trans hc
      have htk : l.take (i + 1) = l.take i ++ [s] := take_succ_chunk hs
      have hz := strN_len s
      have hsm := List.mem_of_getElem? hs
      have hs8 := HS.out s hsm
      have hbt := bdy_take_le l i
      have hbb := HB.out
      have g1 : (i : Int) < (n : Int) := by omega
      have g0 : (0 : Int) ≤ (i : Int) := by omega
      have t3 : IntKind.u8.wrap ((s.length : Nat) : Int) = ((s.length : Nat) : Int) := by rw [IntKind.wrap_u8]; omega
      have kA : Same wr (wr.alloc (.cells #[.int .u8 (s.length : Nat)] 5)).drew := ((Kept.refl _ _).alloc _).drew
      have o1 : OwnN (wr.alloc (.cells #[.int .u8 (s.length : Nat)] 5)).drew wr.heap.size 5 .u8 (.slice (some ⟨wr.heap.size, 0, none⟩) 1 1) [s.length] := own_new1 (xs := [s.length]) ((Blk.new _ _ _).drew) rfl (by unfold maxLen; simp)
      obtain ⟨a0, l0, c0, rfl, hl0, hn0, ha0, hc0⟩ := ho.rd
      obtain ⟨v5, w5, hr5, o5, k5⟩ := bts_append _ _ _ _ (ho.same kA) (some ⟨wr.heap.size, 0, none⟩) 1 1 [s.length] rfl o1.nats (by simp; omega) (Nat.le_trans hks kA.size)
      obtain ⟨a5, l5, c5, rfl, hl5, hn5, ha5, hc5⟩ := o5.rd
      obtain ⟨v6, w6, hr6, o6, k6⟩ := bts_append_str _ _ _ _ o5 s (HL.out s hsm) (by simp; omega) (Nat.le_trans hks (Nat.le_trans kA.size k5.size))
      have e2 : bdy (l.take i) ++ [s.length] ++ s = bdy (l.take (i + 1)) := by rw [htk, bdy_snoc]; simp
      rw [e2] at o6
      have kw5 : Same w w5 := (K.out.trans kA).step k5 (fun j hj q => by have := (own_lt (ho.same kA) j q).1; omega)
      have hcr := HC.out wr K.out
      have hcc5 := HC.out w5 kw5
      have hcA := HC.out (wr.alloc (.cells #[.int .u8 (s.length : Nat)] 5)) (K.out.trans ((Kept.refl _ _).alloc _))
      have K6 : Hid (Same w w6) := kw5.step k6 (fun j hj q => by have := (own_lt o5 j q).1; omega)
      have O6 := Lib.hid o6
      obtain ⟨aok5, aV5, aW5⟩ := app_of hr5
      obtain ⟨aok6, aV6, aW6⟩ := app_of hr6
      clear hr5 hr6 o5 o6 k5 k6 o1 kA ho hk e2 kw5 ha0 ha5 hs htk hc
      go_wp2_with fail
      go_region_with (fail)
      all_goals
        go_wp2_with fail
        go_roundw
        case rel => exact ⟨i + 1, by go_num, by omega, O6.out, K6.out⟩
        case measure => simp [intOf]; omega
    · have e1 : l.take i = l := List.take_of_length_le (by rw [← HN.out]; omega)
      have g1 : ¬ (i : Int) < (n : Int) := by omega
      rw [e1] at ho
      obtain ⟨a0, l0, c0, rfl, hl0, hn0, ha0, hc0⟩ := ho.rd
      obtain ⟨BL, hBL⟩ : ∃ BL, (bdy l).length = BL := ⟨_, rfl⟩
      have HO := Lib.hid ho
      have hbl := HB.out
      have e0 : l0 = BL := hl0.out.trans hBL
      have HBL := Lib.hid hBL
      rw [hBL] at hbl
      subst e0
      have t3 : IntKind.u8.wrap ((l0 : Nat) : Int) = ((l0 : Nat) : Int) := by rw [IntKind.wrap_u8]; omega
      have t4 : IntKind.i64.wrap (239 - ((l0 : Nat) : Int)) = 239 - ((l0 : Nat) : Int) := IntWalk.i64_in _ (by omega)
      have t5 : ((239 - l0 : Nat) : Int) = 239 - ((l0 : Nat) : Int) := by omega
      clear ho hk ha0 hBL
      go_wp2_with fail
      with_reducible refine (ST.out _).mono ?_
      rintro r w2 ⟨⟨v2, rfl, o2⟩, k2⟩
      obtain ⟨a2, l2, c2, rfl, hl2, hn2, ha2, hc2⟩ := o2.rd
      have hks2 := k2.size
      have kA : Same w2 (w2.alloc (.cells #[.int .u8 (l0 : Nat)] 5)) := (Kept.refl _ _).alloc _
      have o1 : OwnN (w2.alloc (.cells #[.int .u8 (l0 : Nat)] 5)) w2.heap.size 5 .u8 (.slice (some ⟨w2.heap.size, 0, none⟩) 1 1) [l0] := own_new1 (xs := [l0]) (Blk.new _ _ _) rfl (by unfold maxLen; simp)
      obtain ⟨v3, w3, hr3, o3, k3⟩ := bts_append _ _ _ _ ((o2.base hks).same kA) (some ⟨w2.heap.size, 0, none⟩) 1 1 [l0] rfl o1.nats (by rw [stm_len]; simp) (Nat.le_trans hks (Nat.le_trans k2.size kA.size))
      obtain ⟨a3, l3, c3, rfl, hl3, hn3, ha3, hc3⟩ := o3.rd
      have p3 := ((HO.out.same k2).same kA).kept k3 (fun j hj q => by have h1 := (own_lt o2 j q).1; have h2 := (own_lt HO.out j hj).2; omega)
      obtain ⟨_, _, _, e, _, _, np3, _⟩ := p3.rd
      cases e
      have hs3 : w.heap.size ≤ w3.heap.size := Nat.le_trans hks (Nat.le_trans k2.size (Nat.le_trans kA.size k3.size))
      have kw3 : Same w w3 := ((K.out.trans k2).trans kA).step k3 (fun j hj q => by have := (own_lt o2 j q).1; omega)
      obtain ⟨v4, w4, hr4, o4, k4⟩ := bts_append _ _ _ _ o3 a0 l0 c0 (bdy l) HBL.out.symm np3.out (by rw [HBL.out]; simp [stm_len]; omega) hs3
      obtain ⟨a4, l4, c4, rfl, hl4, hn4, ha4, hc4⟩ := o4.rd
      have hs4 := Nat.le_trans hs3 k4.size
      have kw4 : Same w w4 := kw3.step k4 (fun j hj q => by have := (own_lt o3 j q).1; omega)
      obtain ⟨v5, w5, hr5, o5, k5⟩ := bts_append_zeros _ _ _ _ o4 (239 - l0) (by simp [stm_len]; rw [HBL.out]; omega) hs4
      obtain ⟨a5, l5, c5, rfl, hl5, hn5, ha5, hc5⟩ := o5.rd
      have kw5 : Same w w5 := kw4.step k5 (fun j hj q => by have := (own_lt o4 j q).1; omega)
      have hs5 := Nat.le_trans hs4 k5.size
      have O5 := Lib.hid o5
      have K5 := Lib.hid kw5
      rw [t5] at hr5
      obtain ⟨aok3, aV3, aW3⟩ := app_of hr3
      obtain ⟨aok4, aV4, aW4⟩ := app_of hr4
      obtain ⟨aok5, aV5, aW5⟩ := app_of hr5
      clear hr3 hr4 hr5 o1 o2 o3 o4 o5 k2 k3 k4 k5 kA kw3 kw4 kw5 p3 np3 t5 ha2 ha3 ha4 ha5
      go_wp2_with fail
      with_reducible refine (ST.out _).mono ?_
      rintro r w6 ⟨⟨v6, rfl, o6⟩, k6⟩
      obtain ⟨a6, l6, c6, rfl, hl6, hn6, ha6, hc6⟩ := o6.rd
      obtain ⟨v7, w7, hr7, o7, k7⟩ := bts_append _ _ _ _ (O5.out.same k6) a6 l6 c6 (stm e_ a_) hl6.out ha6.out (by simp [stm_len]; rw [HBL.out]; omega) (Nat.le_trans hs5 k6.size)
      obtain ⟨a7, l7, c7, rfl, hl7, hn7, ha7, hc7⟩ := o7.rd
      have K7 := Lib.hid ((K5.out.trans k6).step k7 (fun j hj q => by have := (own_lt O5.out j q).1; omega))
      have O7 : Hid (OwnN w7 w.heap.size 5 .u8 (.slice a7 l7 c7) (layS e_ a_ l)) := by
        have := o7
        rw [← HBL.out] at this
        exact this
      obtain ⟨aok7, aV7, aW7⟩ := app_of hr7
      clear hr7 o6 o7 k6 k7 ha6 ha7 O5 K5
      go_wp2_with fail
      go_ret
      exact ⟨⟨_, rfl, O7.out⟩, K7.out⟩
end
end Go.Proofs.YtlmpkonfclnceaaGreat
