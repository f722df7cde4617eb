/- Walks over package bitmap: Select. -/
import Derived.Test.YtmolmamfmboeoaaDoorBm2
import Derived.Test.YtmolmamfmboeoaaDoorOnes
import Derived.Test.YtmolmamfmboeoaaDoorClear
namespace Go.Proofs.YtmolmamfmboeoaaDoor
open Go.RowKit

/-- A number that is told, or none. -/
abbrev foundV (r : Option Nat) : Value := .tuple #[.int .i64 ((r.getD 0 : Nat) : Int), .bool r.isSome]

theorem and_pred (y : Nat) (h0 : y ≠ 0) (hy : y < 18446744073709551616) : bits .and .u64 (y : Int) (IntKind.u64.wrap ((y : Int) - 1)) = ((y &&& (y - 1) : Nat) : Int) := by
  rw [u64_wrap _ (by omega) (by omega), show (y : Int) - 1 = ((y - 1 : Nat) : Int) from by omega]
  exact u64_and_nat y (y - 1) hy (by omega)

theorem bm_select_low (s : Int) (a : Option Addr) (cap : Nat) (ws : List Nat) (n : Int) (w : World) (h : mapOK s ws = false ∨ n < 0) (hat : NatsAt w .u64 a ws) :
    Calls Tryd.prog 22 #[mapV s a ws.length cap, .int .i64 n] w fun e w' => e = .returned (foundV none) ∧ Same w w' := by
  have CK := Lib.hid fun w' (h : NatsAt w' .u64 a ws) => bm_check s a cap ws w' h
  have HA := Lib.hid hat; clear hat
  cases hm : mapOK s ws
  · have CC := Lib.hid fun w' (h : NatsAt w' .u64 a ws) => (CK.out w' h).mono (R' := fun e w'' => e = .returned (.int .i64 4) ∧ Same w' w'') fun _ _ h => by rw [hm] at h; exact h
    clear hm CK h
    generalize ws.length = l at *
    go_enter Tryd.func22, Tryd.ntmps22
    go_wp2_with fail
    refine Calls.boxes1 ?_
    intro W g1 k1 _
    refine (CC.out W (HA.out.same k1)).mono ?_
    rintro e w2 ⟨rfl, k2⟩
    have K := Lib.hid (k1.trans k2)
    clear g1 k1 k2
    go_wp2
    exact bodyPost_ret (v := foundV none) (by simp [results, Tryd.results22, go_sem]) rfl ⟨rfl, K.out⟩
  · have CC := Lib.hid fun w' (h : NatsAt w' .u64 a ws) => (CK.out w' h).mono (R' := fun e w'' => e = .returned (.int .i64 0) ∧ Same w' w'') fun _ _ h => by rw [hm] at h; exact h
    have hn : n < 0 := by rcases h with h | h; rw [hm] at h; cases h; exact h
    clear hm CK h
    generalize ws.length = l at *
    go_enter Tryd.func22, Tryd.ntmps22
    go_wp2_with fail
    refine Calls.boxes1 ?_
    intro W g1 k1 _
    refine (CC.out W (HA.out.same k1)).mono ?_
    rintro e w2 ⟨rfl, k2⟩
    have K := Lib.hid (k1.trans k2)
    clear g1 k1 k2
    go_wp2
    exact bodyPost_ret (v := foundV none) (by simp [results, Tryd.results22, go_sem]) rfl ⟨rfl, K.out⟩

set_option maxHeartbeats 800000 in
theorem bm_select_pos (s : Nat) (a : Option Addr) (cap : Nat) (ws : List Nat) (n : Nat) (w : World) (hw : Words ws) (hm : mapOK s ws = true) (hn : n < 9223372036854775808) (hT : TabOK w) (hat : NatsAt w .u64 a ws) :
    Calls Tryd.prog 22 #[mapV s a ws.length cap, .int .i64 n] w fun e w' => ∃ r, e = .returned (foundV r) ∧ SelSpec s ws n r ∧ Same w w' := by
  have CK := Lib.hid fun w' (h : NatsAt w' .u64 a ws) => (bm_check s a cap ws w' h).mono (R' := fun e w'' => e = .returned (.int .i64 0) ∧ Same w' w'') fun _ _ h => by rw [hm] at h; exact h
  have HA := Lib.hid hat; clear hat
  have HT := Lib.hid hT; clear hT
  have hl : ws.length ≤ 64 := by have h1 := mapOK_len hm; have h2 := mapOK_pos hm; omega
  have HW := Lib.hid hw; clear hw
  have HM := Lib.hid hm; clear hm
  generalize hlen : ws.length = l at CK hl ⊢
  have HLen := Lib.hid hlen; clear hlen
  go_enter Tryd.func22, Tryd.ntmps22
  go_wp2_with fail
  refine Calls.boxes1 ?_
  intro W g1 k1 _
  refine (CK.out W (HA.out.same k1)).mono ?_
  rintro e w2 ⟨rfl, k2⟩
  have K := Lib.hid (k1.trans k2)
  have G1 := g1.kept k2 (fun h => h)
  have q1 : w2.cell? ⟨w.heap.size, 1, none⟩ = some (.slice a l cap) := G1.cell 1 rfl
  have A2 := Lib.hid (HA.out.same K.out)
  have T2 := Lib.hid (HT.out.same K.out)
  clear g1 k1 k2 G1 HA HT CK
  go_wp2_with fail
  go_loop [1, 6, 7, 8, 19] (fun k6 x1 x2 x3 i => ∃ (j k : Nat) (v1 v2 v3 : Value), j ≤ l ∧ k ≤ n ∧ Hid (cnt ws (64 * j) + k = n) ∧ k6 = .int .i64 (k : Nat) ∧ x1 = v1 ∧ x2 = v2 ∧ x3 = v3 ∧ i = .int .i64 (j : Nat)) (fun _ _ _ _ i => l - (intOf i).toNat)
  case atStart => exact ⟨0, n, _, _, _, Nat.zero_le _, Nat.le_refl _, by show _ = _; simp [cnt], rfl, rfl, rfl, rfl, rfl⟩
  case round =>
    obtain ⟨j, k, v1, v2, v3, hj, hkn, hk, rfl, rfl, rfl, rfl, rfl⟩ := hrel
    by_cases hlt : j < l
    · obtain ⟨b, off, x, rfl, hb, hx, hc⟩ := A2.out.at (i := j) (by rw [HLen.out]; omega)
      have hx' : ws.getD j 0 = x := by rw [List.getD, hx]; rfl
      have hx64 := HW.out x (List.mem_of_getElem? hx)
      have C := Lib.hid (bits_ones x w2 hx64)
      have HX := Lib.hid hx'
      have HX64 := Lib.hid hx64
      have hp := pop_le 64 x
      have HP := Lib.hid (cnt_word ws j)
      rw [hx'] at HP
      obtain ⟨p, hpe⟩ : ∃ p, pop 64 x = p := ⟨_, rfl⟩
      rw [hpe] at C hp HP
      have HPE := Lib.hid hpe
      clear hx hx' hb hpe hx64
      by_cases hkp : p ≤ k
      · go_wp2_with (go_at_call 42; refine C.out.mono ?_; rintro e w3 ⟨rfl, rfl⟩)
        go_round
        case rel => exact ⟨j + 1, k - p, _, _, _, by omega, by omega, by show _ = _; have h1 := HP.out; have h2 := hk.out; omega, by go_num, rfl, rfl, rfl, by go_num⟩
        case measure => simp [intOf]; omega
      · go_wp2_with (go_at_call 42; refine C.out.mono ?_; rintro e w3 ⟨rfl, rfl⟩)
        go_loop [7, 33] (fun y i => ∃ (m z : Nat), m ≤ k ∧ Hid (Cleared x m z) ∧ z < 18446744073709551616 ∧ y = .int .u64 (z : Nat) ∧ i = .int .i64 (m : Nat)) (fun _ i => k - (intOf i).toNat)
        case atStart => exact ⟨0, x, Nat.zero_le _, cleared_zero x HX64.out, HX64.out, rfl, rfl⟩
        case round =>
          obtain ⟨m, z, hm, hz, hz64, rfl, rfl⟩ := hrel
          have low := cleared_low hz.out (show m < pop 64 x by rw [HPE.out]; omega)
          have ST := Lib.hid (cleared_step hz.out (show m < pop 64 x by rw [HPE.out]; omega))
          have e := and_pred z low.1 hz64
          by_cases hmk : m < k
          · clear low
            go_wp2_with (rw [e])
            go_round
            case rel => exact ⟨m + 1, _, by omega, ST.out, ST.out.1, rfl, by go_num⟩
            case measure => simp [intOf]; omega
          · have hmk' : m = k := by omega
            subst hmk'
            obtain ⟨l0, l1, l2, l3⟩ := low
            have TZ := Lib.hid (bits_tz z w2 hz64 T2.out)
            have R := Lib.hid (sel_some HW.out HM.out (i := j) (c := Lib.ctz 64 z) (k := n) (by rw [HLen.out]; exact hlt) l1 (by rw [HX.out]; exact l2) (by rw [HX.out, l3]; exact hk.out))
            clear l2 l3 l0 e ST
            generalize Lib.ctz 64 z = c at *
            go_wp2_with (go_at_call 41; refine TZ.out.mono ?_; rintro e w3 ⟨rfl, rfl⟩)
            refine bodyPost_ret (v := foundV (some (64 * j + c))) (by simp [results, Tryd.results22, go_sem]; omega) rfl ?_
            exact ⟨_, rfl, R.out, K.out⟩
    · have e : j = l := by omega
      subst e
      have R := Lib.hid (sel_none HM.out (k := n) (by rw [HLen.out]; have := hk.out; omega))
      go_wp2
      exact bodyPost_ret (v := foundV none) (by simp [results, Tryd.results22, go_sem]) rfl ⟨none, rfl, R.out, K.out⟩

theorem bm_select (s : Int) (a : Option Addr) (cap : Nat) (ws : List Nat) (n : Int) (w : World) (hw : Words ws) (hn : n < 9223372036854775808) (hT : TabOK w) (hat : NatsAt w .u64 a ws) :
    Calls Tryd.prog 22 #[mapV s a ws.length cap, .int .i64 n] w fun e w' => ∃ r, e = .returned (foundV r) ∧ SelSpec s ws n r ∧ Same w w' := by
  cases hm : mapOK s ws
  · exact (bm_select_low s a cap ws n w (.inl hm) hat).mono fun _ _ h => ⟨none, h.1, (fun t => by rw [hm] at t; cases t), h.2⟩
  · by_cases h0 : n < 0
    · exact (bm_select_low s a cap ws n w (.inr h0) hat).mono fun _ _ h => ⟨none, h.1, (fun _ t => by omega), h.2⟩
    · have h1 := mapOK_pos hm
      obtain ⟨S, rfl⟩ := Int.eq_ofNat_of_zero_le h1.1
      obtain ⟨N, rfl⟩ := Int.eq_ofNat_of_zero_le (show 0 ≤ n by omega)
      exact bm_select_pos S a cap ws N w hw hm (by omega) hT hat

end Go.Proofs.YtmolmamfmboeoaaDoor
