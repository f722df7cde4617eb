/- Walks over the document's maps: Select. -/
import Derived.Test.YtmolmamfmboeoaaDoorBmR4
namespace Go.Proofs.YtmolmamfmboeoaaDoor
open Go.RowKit

set_option maxHeartbeats 800000 in
theorem rb_select (s : Int) (a : Option Addr) (cap : Nat) (ws : List Nat) (n : Int) (w : World) (hw : Words ws) (h63 : n < 9223372036854775808) (hat : NatsAt w .u64 a ws) :
    Calls Tryd.prog 23 #[mapV s a ws.length cap, .int .i64 n] w fun e w' => ∃ r, e = .returned (foundV r) ∧ SelSpec s ws n r ∧ Same w w' := by
  have HA := Lib.hid hat; clear hat
  cases hm : mapOK s ws && decide (0 ≤ n)
  · have R : Hid (SelSpec s ws n none) := fun h1 h2 => by rw [h1, decide_eq_true h2] at hm; cases hm
    have CC := Lib.hid fun (h0 : mapOK s ws = false) w' h => rb_check4 s a cap ws w' hw h0 h
    have HC : Hid (0 ≤ n → mapOK s ws = false) := fun h => by rw [decide_eq_true h, Bool.and_true] at hm; exact hm
    clear hm hw
    generalize ws.length = l at *
    go_enter Tryd.func23, Tryd.ntmps23
    go_wp2_with fail
    go_loopw [1, 6] (fun k i wr => k = .int .i64 n ∧ i = .int .i64 0 ∧ Hid (AtMap w wr s (.slice a l cap))) (fun _ _ _ => 0)
    case atStart => exact ⟨rfl, rfl, AtMap.new _ _ _⟩
    case round =>
      obtain ⟨rfl, rfl, hs⟩ := hrel
      have q0 := hs.out.q0
      have q1 := hs.out.q1
      by_cases hlt : (0 : Int) < s
      · by_cases h0 : 0 ≤ n
        · have CD := Lib.hid (CC.out (HC.out h0) wr (HA.out.same hs.out.2))
          go_wp2_with fail
          refine CD.out.mono ?_
          rintro e w2 ⟨rfl, k2⟩
          have K := Lib.hid (hs.out.2.trans k2)
          clear k2
          go_wp2_with fail
          exact bodyPost_ret (v := foundV none) (by simp [results, Tryd.results23, go_sem]) rfl ⟨none, rfl, R.out, K.out⟩
        · go_wp2_with fail
          exact bodyPost_ret (v := foundV none) (by simp [results, Tryd.results23, go_sem]) rfl ⟨none, rfl, R.out, hs.out.2⟩
      · go_wp2_with fail
        exact bodyPost_ret (v := foundV none) (by simp [results, Tryd.results23, go_sem]) rfl ⟨none, rfl, R.out, hs.out.2⟩
  · rw [Bool.and_eq_true, decide_eq_true_eq] at hm
    obtain ⟨hm, hn⟩ := hm
    have CC := Lib.hid fun w' h => rb_check0 s a cap ws w' hw hm h
    have p1 := mapOK_pos hm
    obtain ⟨S, rfl⟩ := Int.eq_ofNat_of_zero_le p1.1
    obtain ⟨N, rfl⟩ := Int.eq_ofNat_of_zero_le hn
    have p2 := mapOK_len hm
    rw [Int.toNat_natCast] at p2
    have BB := Lib.hid fun (n : Nat) (hn : n < S) w' h => rb_bit S a cap ws n w' h (by omega) (by omega)
    have hS : S ≤ 4096 := by omega
    have HM := Lib.hid hm
    have H63 : Hid (N < 9223372036854775808) := by show _ < _; omega
    clear h63
    clear hm hw p1 p2 hn
    generalize ws.length = l at *
    go_enter Tryd.func23, Tryd.ntmps23
    go_wp2_with fail
    go_loopw [1, 6] (fun k i wr => ∃ j c : Nat, j ≤ S ∧ Hid (cnt ws j + c = N) ∧ k = .int .i64 (c : Nat) ∧ i = .int .i64 (j : Nat) ∧ Hid (AtMap w wr S (.slice a l cap))) (fun _ i _ => S - (intOf i).toNat)
    case atStart => exact ⟨0, N, Nat.zero_le _, by show _ = _; simp [cnt], rfl, rfl, AtMap.new _ _ _⟩
    case round =>
      obtain ⟨j, c, hj, hp, rfl, rfl, hs⟩ := hrel
      have q0 := hs.out.q0
      have q1 := hs.out.q1
      by_cases hlt : j < S
      · have h2 : (j : Int) < (S : Int) := by omega
        have h3 : (0 : Int) ≤ (c : Int) := by omega
        go_wp2_with fail
        refine (CC.out wr (HA.out.same hs.out.2)).mono ?_
        rintro e w2 ⟨rfl, k2⟩
        have hs2 := Lib.hid (hs.out.on k2)
        clear k2 q0 q1
        have q0 := hs2.out.q0
        have q1 := hs2.out.q1
        have BC := Lib.hid (BB.out j hlt w2 (HA.out.same hs2.out.2))
        cases hb : bitN ws j
        · rw [hb] at BC
          have HB : Hid (cnt ws (j + 1) + c = N) := by show _ = _; rw [cnt, hb]; exact hp.out
          clear hb
          go_wp2_with fail
          refine BC.out.mono ?_
          rintro e w3 ⟨rfl, k3⟩
          have hs3 := Lib.hid (hs2.out.on k3)
          clear k3
          go_wp2_with fail
          go_roundw
          case rel => exact ⟨j + 1, c, by omega, HB.out, rfl, by go_num, hs3.out⟩
          case measure => simp [intOf]; omega
        · rw [hb] at BC
          by_cases hc : c = 0
          · subst hc
            have R : Hid (SelSpec S ws N (some j)) := ⟨HM.out, h2, hb, by have := hp.out; omega⟩
            clear hb
            go_wp2_with fail
            refine BC.out.mono ?_
            rintro e w3 ⟨rfl, k3⟩
            have K := Lib.hid (hs2.out.2.trans k3)
            clear k3
            go_wp2_with fail
            exact bodyPost_ret (v := foundV (some j)) (by simp [results, Tryd.results23, go_sem]) rfl ⟨some j, rfl, R.out, K.out⟩
          · have hN : c ≤ N := by have := hp.out; omega
            have HB : Hid (cnt ws (j + 1) + (c - 1) = N) := by show _ = _; rw [cnt, hb]; have := hp.out; simp; omega
            have hc1 : 0 < c := by omega
            have hci : ¬ (c : Int) = 0 := by omega
            have hwr : wrap64 ((c : Int) - 1) = ((c - 1 : Nat) : Int) := by
              have := H63.out
              unfold wrap64; omega
            clear hb
            go_wp2_with fail
            refine BC.out.mono ?_
            rintro e w3 ⟨rfl, k3⟩
            have hs3 := Lib.hid (hs2.out.on k3)
            clear k3
            go_wp2_with fail
            go_roundw
            case rel => exact ⟨j + 1, c - 1, by omega, HB.out, by go_num, by go_num, hs3.out⟩
            case measure => simp [intOf]; omega
      · have ej : j = S := by omega
        subst ej
        have h2 : ¬ (j : Int) < (j : Int) := by omega
        have R : Hid (SelSpec j ws N none) := fun _ _ => by rw [Int.toNat_natCast]; have := hp.out; omega
        go_wp2_with fail
        exact bodyPost_ret (v := foundV none) (by simp [results, Tryd.results23, go_sem]) rfl ⟨none, rfl, R.out, hs.out.2⟩

end Go.Proofs.YtmolmamfmboeoaaDoor
