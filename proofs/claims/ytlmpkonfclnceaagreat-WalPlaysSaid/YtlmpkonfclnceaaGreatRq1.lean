/- The document's sector of texts: stamp. -/
import Derived.Test.YtlmpkonfclnceaaGreatRqP
import Derived.Test.YtlmpkonfclnceaaGreatZerB
namespace Go.Proofs.YtlmpkonfclnceaaGreat
open Go.RowKit Go.Sort

/-- Bytes, appended to bytes of one's own, with the frame. -/
theorem bts_append (w : World) (base : Nat) (v : Value) (xs : List Nat) (hown : OwnN w base 5 .u8 v xs) (ao : Option Addr) (m c : Nat) (ys : List Nat) (hm : m = ys.length) (hat : NatsAt w .u8 ao ys) (hl : xs.length + ys.length ≤ 100000) (hbase : base ≤ w.heap.size) :
    ∃ v' w', (Builtin.append_ #[29, 29] 29 #[v, .slice ao m c]).run Tryz.prog w = .ok v' w' ∧ OwnN w' base 5 .u8 v' (xs ++ ys) ∧ Kept (fun j => v.ownBlock = some j) w w' := by
  obtain ⟨v', w', hr, ho, hg, -⟩ := zb_run_appendB (P := Tryz.prog) w 29 29 5 base .u8 1 Tryz.underlying29 (by kernel_rfl) (by decide) v xs hown ao m c ys hm hat (by omega) hbase
  exact ⟨v', w', hr, ho, (Kept.refl _ w).grown hg (fun k hk _ => hk)⟩
theorem own_new1 {w : World} {g : Nat} {xs : List Nat} {cs : Array Value} (h : Blk w g cs 5) (hc : cs = (xs.map fun x => Value.int .u8 ((x : Nat) : Int)).toArray) (hm : xs.length ≤ maxLen) : OwnN w g 5 .u8 (.slice (some ⟨g, 0, none⟩) xs.length xs.length) xs := by
  subst hc
  exact OwnN.blk h rfl (Nat.le_refl _) hm
def stmI (N i : Nat) : List Nat := (List.range i).map fun j => N / 256 ^ (i - 1 - j) % 256
theorem stmI_succ (N i : Nat) : stmI N (i + 1) = N / 256 ^ i % 256 :: stmI N i := by
  unfold stmI
  rw [List.range_succ_eq_map, List.map_cons, List.map_map]
  congr 1
  apply List.map_congr_left
  intro j hj
  rw [List.mem_range] at hj
  show N / 256 ^ (i + 1 - 1 - (j + 1)) % 256 = _
  congr 3
  omega
theorem stmI_len (N i : Nat) : (stmI N i).length = i := by simp [stmI]
theorem stmI_stm (e a : Nat) : stmI (256 * e + a) 8 = stm e a := rfl
section
attribute [local go_sem ↓] exec_app semAt_app
attribute [local go_sem] isApp_lit appA appX
set_option maxRecDepth 100000 in
set_option maxHeartbeats 800000 in
theorem rq_stamp (e_ a_ : Nat) (he : e_ ≤ 1099511627776) (ha : a_ < 256) (w : World) :
    Calls Tryz.prog 90 #[.int .i64 (e_ : Nat), .int .i64 (a_ : Nat)] w fun r w' => (∃ v, r = .returned v ∧ OwnN w' w.heap.size 5 .u8 v (stm e_ a_)) ∧ Same w w' := by
  rw [← stmI_stm]
  obtain ⟨N, hN⟩ : ∃ N, 256 * e_ + a_ = N := ⟨_, rfl⟩
  have eN : (256 : Int) * (e_ : Int) + (a_ : Int) = (N : Int) := by omega
  have hNl : N ≤ 281474976711168 := by omega
  have w1 : IntKind.i64.wrap (256 * (e_ : Int)) = 256 * (e_ : Int) := IntWalk.i64_in _ (by omega)
  have w2 : IntKind.i64.wrap (256 * (e_ : Int) + (a_ : Int)) = (N : Int) := by rw [eN]; exact IntWalk.i64_in _ (by omega)
  rw [hN]
  clear hN eN
  go_enter Tryz.func90, Tryz.ntmps90
  go_wp2_with fail
  go_loopw [5, 6, 7] (fun b n t wr => ∃ i : Nat, t = .int .i64 i ∧ i ≤ 8 ∧ n = .int .i64 ((N / 256 ^ i : Nat) : Int) ∧ OwnN wr w.heap.size 5 .u8 b (stmI N i) ∧ Same w wr) (fun _ _ t _ => 8 - (intOf t).toNat)
  case atStart => exact ⟨0, rfl, by omega, by rw [Nat.pow_zero, Nat.div_one], World.ownsRow_nil _ _ _ _, Kept.refl _ _⟩
  case round =>
    obtain ⟨i, rfl, hi, rfl, ho, hk⟩ := hrel
    have K := Lib.hid hk
    have hks := hk.size
    by_cases hgo : i < 8
    · obtain ⟨a0, l0, c0, rfl, hl0, hn0, ha0, hc0⟩ := ho.rd
      obtain ⟨M, hM⟩ : ∃ M, N / 256 ^ i = M := ⟨_, rfl⟩
      have hMl : M ≤ N := by rw [← hM]; exact Nat.div_le_self _ _
      have e1 : N / 256 ^ (i + 1) = M / 256 := by rw [← hM, Nat.pow_succ, Nat.div_div_eq_div_mul]
      have e2 : stmI N (i + 1) = M % 256 :: stmI N i := by rw [stmI_succ, hM]
      have E1 := Lib.hid e1; have E2 := Lib.hid e2
      rw [hM]
      have b1 : Blk (wr.alloc (.cells #[.int .u8 ((M % 256 : Nat) : Int)] 5)) wr.heap.size #[.int .u8 ((M % 256 : Nat) : Int)] 5 := Blk.new _ _ _
      have kA : Same wr (wr.alloc (.cells #[.int .u8 ((M % 256 : Nat) : Int)] 5)) := (Kept.refl _ _).alloc _
      have o1 : OwnN _ w.heap.size 5 .u8 (.slice (some ⟨wr.heap.size, 0, none⟩) 1 1) [M % 256] := (own_new1 (xs := [M % 256]) b1 rfl (by unfold maxLen; simp)).base hks
      have hl := hl0.out
      rw [stmI_len] at hl
      obtain ⟨v5, w5, hr, o5, k5⟩ := bts_append _ _ _ _ o1 a0 l0 c0 _ hl0.out (ha0.out.same kA) (by rw [stmI_len]; simp; omega) (by simp; omega)
      rw [show [M % 256] ++ stmI N i = stmI N (i + 1) from e2.symm] at o5
      have kz : Same w w5 := (hk.trans kA).step k5 (fun j hj q => by
        have : j = wr.heap.size := by simpa [Value.ownBlock] using q.symm
        omega)
      have KZ := Lib.hid kz
      have O5 := Lib.hid o5
      rw [show ((M % 256 : Nat) : Int) = (M : Int) % 256 from by omega] at hr
      obtain ⟨aok, aV, aW⟩ := app_of hr
      have g1 : (i : Int) < 8 := by omega
      have t1 : ((M : Nat) : Int).tmod 256 = (M : Int) % 256 := Int.tmod_eq_emod_of_nonneg (by omega)
      have t2 : ((M : Nat) : Int).tdiv 256 = ((M / 256 : Nat) : Int) := by rw [Int.tdiv_eq_ediv_of_nonneg (by omega)]; omega
      have t3 : IntKind.u8.wrap ((M : Int) % 256) = (M : Int) % 256 := by rw [IntKind.wrap_u8]; omega
      have t4 : IntKind.i64.wrap ((M : Int) % 256) = (M : Int) % 256 := IntWalk.i64_in _ (by omega)
      clear hr o5 k5 kz b1 kA o1 ho hk hM e1 e2 ha0 hl
      go_wp2_with fail
      go_roundw
      case rel => exact ⟨i + 1, by go_num, by omega, by rw [E1.out]; go_num, O5.out, KZ.out⟩
      case measure => simp [intOf]; omega
    · have : i = 8 := by omega
      subst this
      have HO := Lib.hid ho
      clear ho hk
      go_wp2_with fail
      go_ret
      exact ⟨⟨_, rfl, HO.out⟩, K.out⟩
end
end Go.Proofs.YtlmpkonfclnceaaGreat
