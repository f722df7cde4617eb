/- Walks over the document's maps: Rank, Select. -/
import Derived.Test.YtmolmamfmboeoaaDoorBmR4
namespace Go.Proofs.YtmolmamfmboeoaaDoor
open Go.RowKit

set_option maxHeartbeats 800000 in
theorem rb_rank (s : Int) (a : Option Addr) (cap : Nat) (ws : List Nat) (n : Int) (w : World) (hw : Words ws) (hat : NatsAt w .u64 a ws) :
    Calls Tryd.prog 25 #[mapV s a ws.length cap, .int .i64 n] w fun e w' => e = .returned (.int .i64 ((rankN s ws n : Nat) : Int)) ∧ Same w w' := by
  have HA := Lib.hid hat; clear hat
  cases hm : mapOK s ws
  · have CC := Lib.hid fun w' h => rb_check4 s a cap ws w' hw hm h
    have e : rankN s ws n = 0 := by simp [rankN, hm]
    rw [e]
    clear hm hw e
    generalize ws.length = l at *
    go_enter Tryd.func25, Tryd.ntmps25
    go_wp2_with fail
    go_loopw [5, 6] (fun k i wr => k = .int .i64 0 ∧ i = .int .i64 0 ∧ Hid (AtMap w wr s (.slice a l cap))) (fun _ _ _ => 0)
    case atStart => exact ⟨rfl, rfl, AtMap.new _ _ _⟩
    case round =>
      obtain ⟨rfl, rfl, hs⟩ := hrel
      have q0 := hs.out.q0
      have q1 := hs.out.q1
      by_cases h0 : 0 < n
      · by_cases hlt : (0 : Int) < s
        · go_wp2_with fail
          refine (CC.out wr (HA.out.same hs.out.2)).mono ?_
          rintro e w2 ⟨rfl, k2⟩
          have K := Lib.hid (hs.out.2.trans k2)
          clear k2
          go_wp2_with fail
          go_ret
          exact ⟨rfl, K.out⟩
        · go_wp2_with fail
          go_ret
          exact ⟨rfl, hs.out.2⟩
      · go_wp2_with fail
        go_ret
        exact ⟨rfl, hs.out.2⟩
  · have CC := Lib.hid fun w' h => rb_check0 s a cap ws w' hw hm h
    have p1 := mapOK_pos hm
    obtain ⟨S, rfl⟩ := Int.eq_ofNat_of_zero_le p1.1
    have p2 := mapOK_len hm
    rw [Int.toNat_natCast] at p2
    have BB := Lib.hid fun (n : Nat) (hn : n < S) w' h => rb_bit S a cap ws n w' h (by omega) (by omega)
    have hS : S ≤ 4096 := by omega
    obtain ⟨m, hmm⟩ : ∃ m, (min n (S : Int)).toNat = m := ⟨_, rfl⟩
    have e : rankN S ws n = cnt ws m := by simp only [rankN, hm, if_true, hmm]
    rw [e]
    have hmS : m ≤ S := by omega
    have hmn : m ≠ S → (m : Int) = n ∨ (m = 0 ∧ n ≤ 0) := by omega
    have hmn2 : 0 < m → (m : Int) ≤ n := by omega
    have HMN := Lib.hid hmn; have HMN2 := Lib.hid hmn2
    clear hm hw p1 p2 e hmm hmn hmn2
    obtain ⟨res, hres⟩ : ∃ res, cnt ws m = res := ⟨_, rfl⟩
    rw [hres]
    have HRes := Lib.hid hres; clear hres
    generalize ws.length = l at *
    go_enter Tryd.func25, Tryd.ntmps25
    go_wp2_with fail
    go_loopw [5, 6] (fun k i wr => ∃ j c : Nat, j ≤ m ∧ c ≤ j ∧ Hid (cnt ws j = c) ∧ k = .int .i64 (c : Nat) ∧ i = .int .i64 (j : Nat) ∧ Hid (AtMap w wr S (.slice a l cap))) (fun _ i _ => m - (intOf i).toNat)
    case atStart => exact ⟨0, 0, Nat.zero_le _, Nat.le_refl _, rfl, rfl, rfl, AtMap.new _ _ _⟩
    case round =>
      obtain ⟨j, c, hj, hc, hp, rfl, rfl, hs⟩ := hrel
      have q0 := hs.out.q0
      have q1 := hs.out.q1
      by_cases hlt : j < m
      · have h1 : (j : Int) < n := by have := HMN2.out (by omega); omega
        have h2 : (j : Int) < (S : Int) := by omega
        go_wp2_with fail
        refine (CC.out wr (HA.out.same hs.out.2)).mono ?_
        rintro e w2 ⟨rfl, k2⟩
        have hs2 := Lib.hid (hs.out.on k2)
        clear k2 q0 q1
        have q0 := hs2.out.q0
        have q1 := hs2.out.q1
        have BC := Lib.hid (BB.out j (by omega) w2 (HA.out.same hs2.out.2))
        cases hb : bitN ws j
        · rw [hb] at BC
          have HB : Hid (cnt ws (j + 1) = c) := by show _ = _; rw [cnt, hb, hp.out]; rfl
          clear hb
          go_wp2_with fail
          refine BC.out.mono ?_
          rintro e w3 ⟨rfl, k3⟩
          have hs3 := Lib.hid (hs2.out.on k3)
          clear k3
          go_wp2_with fail
          go_roundw
          case rel => exact ⟨j + 1, c, by omega, by omega, HB.out, rfl, by go_num, hs3.out⟩
          case measure => simp [intOf]; omega
        · rw [hb] at BC
          have HB : Hid (cnt ws (j + 1) = c + 1) := by show _ = _; rw [cnt, hb, hp.out]; rfl
          clear hb
          go_wp2_with fail
          refine BC.out.mono ?_
          rintro e w3 ⟨rfl, k3⟩
          have hs3 := Lib.hid (hs2.out.on k3)
          clear k3
          go_wp2_with fail
          go_roundw
          case rel => exact ⟨j + 1, c + 1, by omega, by omega, HB.out, by go_num, by go_num, hs3.out⟩
          case measure => simp [intOf]; omega
      · have ej : j = m := by omega
        subst ej
        have er : c = res := hp.out.symm.trans HRes.out
        by_cases hjS : j = S
        · have h2 : ¬ (j : Int) < (S : Int) := by omega
          by_cases h1 : (j : Int) < n
          · go_wp2_with fail
            go_ret
            exact ⟨by rw [← er]; rfl, hs.out.2⟩
          · go_wp2_with fail
            go_ret
            exact ⟨by rw [← er]; rfl, hs.out.2⟩
        · have h1 : ¬ (j : Int) < n := by have := HMN.out hjS; omega
          go_wp2_with fail
          go_ret
          exact ⟨by rw [← er]; rfl, hs.out.2⟩

end Go.Proofs.YtmolmamfmboeoaaDoor
