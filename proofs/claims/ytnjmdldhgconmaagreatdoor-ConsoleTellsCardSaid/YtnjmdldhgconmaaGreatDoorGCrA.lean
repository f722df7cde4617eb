/- GCrA: Cr1, Cr2, Cr3, Cr4. -/
import Derived.Test.YtnjmdldhgconmaaGreatDoorGCpA
import Derived.BigQuiet
import Derived.Test.YtnjmdldhgconmaaGreatDoorGCpB
import Derived.Test.YtnjmdldhgconmaaGreatDoorEl
namespace Go.Proofs.YtnjmdldhgconmaaGreatDoor
open Go.RowKit Go.Sort

theorem enc_size (l : Tx) : (⟨l.toArray⟩ : ByteArray).size = l.length := by simp [ByteArray.size]
theorem str_at {l : Tx} {i y : Nat} (hi : i < l.length) (hy : l[i].toNat = y) : ∀ h : i < (⟨l.toArray⟩ : ByteArray).size, (((⟨l.toArray⟩ : ByteArray)[i]'h).toNat : Int) = (y : Nat) := by
  intro h
  rw [← hy]
  rfl
set_option maxRecDepth 100000 in
set_option maxHeartbeats 800000 in
theorem cr_plain (l : Tx) (hl : l.length ≤ 1000000) (w : World) :
    Calls Tryz.prog 37 #[encStr l] w fun e w' => e = .returned (.bool (plainT l)) ∧ w' = w := by
  go_enter Tryz.func37, Tryz.ntmps37
  go_wp2_with fail
  go_loop [3] (fun t => ∃ i : Nat, t = .int .i64 i ∧ i ≤ l.length ∧ (l.take i).all okC = true) (fun t => l.length - (intOf t).toNat)
  case atStart => exact ⟨0, rfl, by omega, rfl⟩
  case round =>
    obtain ⟨i, rfl, hi, ho⟩ := hrel
    have HO := Lib.hid ho
    clear ho
    by_cases hgo : i < l.length
    · have g1 : (i : Int) < (l.length : Int) := by omega
      have g0 : (0 : Int) ≤ (i : Int) := by omega
      obtain ⟨y, hxy⟩ : ∃ y, l[i].toNat = y := ⟨_, rfl⟩
      have hy := str_at hgo hxy
      by_cases hyk : 33 ≤ y ∧ y ≤ 126
      · have TK := Lib.hid (show (l.take (i + 1)).all okC = true from by
          rw [List.take_add_one, List.getElem?_eq_getElem hgo, List.all_append, HO.out]
          simp [okC, hxy, hyk.1, hyk.2])
        have y1 : ¬ (y : Int) < 33 := by omega
        have y2 : ¬ (126 : Int) < (y : Int) := by omega
        go_wp2_with fail
        go_round
        case rel => exact ⟨i + 1, by go_num, by omega, TK.out⟩
        case measure => simp [intOf]; omega
      · have PF := Lib.hid (show plainT l = false from by
          cases h : plainT l with
          | false => rfl
          | true =>
            have h1 := (plain_facts h).1
            rw [List.all_eq_true] at h1
            have h2 := h1 l[i] (List.getElem_mem hgo)
            simp only [okC, hxy, Bool.and_eq_true, decide_eq_true_eq] at h2
            exact absurd h2 hyk)
        by_cases hy1 : y < 33
        · have y1 : (y : Int) < 33 := by omega
          go_wp2_with fail
          go_ret
          exact ⟨by rw [PF.out]; rfl, rfl⟩
        · have y1 : ¬ (y : Int) < 33 := by omega
          have y2 : (126 : Int) < (y : Int) := by omega
          go_wp2_with fail
          go_ret
          exact ⟨by rw [PF.out]; rfl, rfl⟩
    · have g1 : ¬ (i : Int) < (l.length : Int) := by omega
      have e : i = l.length := by omega
      subst e
      rw [List.take_length] at HO
      rcases l with _ | ⟨c, r⟩
      · go_wp2_with fail
        go_ret
        exact ⟨rfl, rfl⟩
      · have hc := str_at (l := c :: r) (i := 0) (by simp) rfl
        obtain ⟨y, hy⟩ : ∃ y, c.toNat = y := ⟨_, rfl⟩
        have hc : ∀ h, (((⟨(c :: r).toArray⟩ : ByteArray)[0]'h).toNat : Int) = (y : Nat) := by rw [← hy]; exact hc
        have P45 : Hid (plainT (c :: r) = (!(decide (y = 45)) && !(preX (c :: r)))) := by
          show _ = _
          unfold plainT
          rw [HO.out]
          have e2 : ((c :: r).head? == some 45) = decide (y = 45) := by
            rw [Bool.eq_iff_iff]
            simp only [List.head?_cons, beq_iff_eq, Option.some.injEq, decide_eq_true_eq]
            rw [← hy]
            constructor
            · rintro rfl; rfl
            · intro h; exact UInt8.toNat_inj.1 h
          rw [e2]
          simp
        have hpos : (0 : Int) < ((c :: r).length : Int) := by simp only [List.length_cons]; omega
        clear HO
        by_cases h45 : y = 45
        · subst h45
          go_wp2_with fail
          go_ret
          exact ⟨by rw [P45.out]; rfl, rfl⟩
        · have n45 : ((y : Int) != 45) = true := by simp; omega
          have d45 : decide (y = 45) = false := by simpa using h45
          rw [d45] at P45
          clear d45
          rcases r with _ | ⟨d, r⟩
          · go_wp2_with fail
            go_ret
            exact ⟨by rw [P45.out]; rfl, rfl⟩
          · have hx2 : (⟨(c :: d :: r).toArray⟩ : ByteArray).extract 0 2 = ⟨[c, d].toArray⟩ := by
              apply ByteArray.ext
              simp [ByteArray.data_extract]
            obtain ⟨pb, hpb⟩ : ∃ pb, preX (c :: d :: r) = pb := ⟨_, rfl⟩
            have hq : ([c, d] == [120, 58]) = pb := by rw [← hpb]; simp [preX]
            have g2 : (1 : Int) < ((c :: d :: r).length : Int) := by simp only [List.length_cons]; omega
            rw [hpb] at P45
            clear hpb
            go_wp2_with fail
            go_ret
            exact ⟨by rw [P45.out]; rfl, rfl⟩

theorem hex_ext {n : Nat} (h : n < 16) : (⟨#[48, 49, 50, 51, 52, 53, 54, 55, 56, 57, 97, 98, 99, 100, 101, 102]⟩ : ByteArray).extract n (n + 1) = ⟨#[hexD n]⟩ := by
  have key : ∀ d : Fin 16, (⟨#[48, 49, 50, 51, 52, 53, 54, 55, 56, 57, 97, 98, 99, 100, 101, 102]⟩ : ByteArray).extract d.val (d.val + 1) = ⟨#[hexD d.val]⟩ := by decide +kernel
  exact key ⟨n, h⟩
theorem str_snoc (t : Tx) (c : UInt8) : ((⟨t.toArray⟩ : ByteArray) ++ (⟨#[c]⟩ : ByteArray)) = ⟨(t ++ [c]).toArray⟩ := by
  apply ByteArray.ext
  rw [ByteArray.data_append]
  simp
theorem str_app (s t : Tx) : ((⟨s.toArray⟩ : ByteArray) ++ (⟨t.toArray⟩ : ByteArray)) = ⟨(s ++ t).toArray⟩ := by
  apply ByteArray.ext
  rw [ByteArray.data_append]
  simp
set_option maxRecDepth 100000 in
set_option maxHeartbeats 1600000 in
theorem cr_word (l : Tx) (hl : l.length ≤ 1000000) (w : World) :
    Calls Tryz.prog 13 #[encStr l] w fun e w' => e = .returned (encStr (wordT l)) ∧ Same w w' := by
  by_cases h0 : l = []
  · subst h0
    go_enter Tryz.func13, Tryz.ntmps13
    go_wp2_with fail
    go_ret
    exact ⟨rfl, Kept.refl _ _⟩
  have hie : List.isEmpty l = false := by simpa using h0
  have PL := Lib.hid (cr_plain l hl w)
  cases hp : plainT l with
  | true =>
    have e := word_plain hp
    rw [hp] at PL
    rw [e]
    clear e hp h0
    go_enter Tryz.func13, Tryz.ntmps13
    go_wp2_with fail
    refine PL.out.mono ?_
    rintro e w1 ⟨rfl, rfl⟩
    go_wp2_with fail
    go_ret
    exact ⟨rfl, Kept.refl _ _⟩
  | false =>
    have WE := Lib.hid (word_hex h0 hp)
    rw [hp] at PL
    clear hp h0
    go_enter Tryz.func13, Tryz.ntmps13
    go_wp2_with fail
    refine PL.out.mono ?_
    rintro e w1 ⟨rfl, rfl⟩
    clear PL
    go_wp2_with fail
    go_loopw [4, 5] (fun v t wr => ∃ i : Nat, v = encStr (120 :: 58 :: hexT (l.take i)) ∧ t = .int .i64 i ∧ i ≤ l.length ∧ Same w1 wr) (fun _ t _ => l.length - (intOf t).toNat)
    case atStart => exact ⟨0, rfl, rfl, by omega, Kept.refl _ _⟩
    case round =>
      obtain ⟨i, rfl, rfl, hi, hk⟩ := hrel
      have HK := Lib.hid hk
      clear hk
      by_cases hgo : i < l.length
      · have g1 : (i : Int) < (l.length : Int) := by omega
        have g0 : (0 : Int) ≤ (i : Int) := by omega
        obtain ⟨y, hxy⟩ : ∃ y, l[i].toNat = y := ⟨_, rfl⟩
        have hy := str_at hgo hxy
        have hy256 : y < 256 := by have := (l[i]).toNat_lt; omega
        have TK := Lib.hid (show 120 :: 58 :: hexT (l.take (i + 1)) = (120 :: 58 :: hexT (l.take i)) ++ [hexD (y / 16), hexD (y % 16)] from by
          rw [List.take_add_one, List.getElem?_eq_getElem hgo]
          simp only [Option.toList_some]
          rw [hexT_snoc, hxy]
          simp)
        have LN : Hid ((120 :: 58 :: hexT (l.take i)).length ≤ 2 * i + 2) := by
          show _ ≤ _
          simp only [List.length_cons, hexT_len, List.length_take]
          omega
        obtain ⟨h0, hh0⟩ : ∃ h0, (120 : UInt8) :: 58 :: hexT (l.take i) = h0 := ⟨_, rfl⟩
        rw [hh0] at TK LN
        rw [hh0]
        clear hh0 hxy
        obtain ⟨q, hq⟩ : ∃ q, y / 16 = q := ⟨_, rfl⟩
        rw [hq] at TK
        have hw1 : IntKind.u8.wrap ((y : Int) / 16) = (q : Int) := by rw [IntKind.wrap_u8]; omega
        have hx1 := hex_ext (n := q) (by omega)
        have hx2 := hex_ext (n := y % 16) (by omega)
        have hs1 := str_snoc h0 (hexD q)
        have hs2 := str_snoc (h0 ++ [hexD q]) (hexD (y % 16))
        have hq16 : (q : Int) + 1 ≤ 16 := by omega
        have hd1 : h0.length + 1 ≤ 9223372036854775807 := by have := LN.out; omega
        have hd2 : h0.length + 1 + 1 ≤ 9223372036854775807 := by have := LN.out; omega
        clear hq
        go_upto_region 10 with fail
        go_quiet (fail)
        go_wp2_with fail
        go_roundw
        case rel => exact ⟨i + 1, by rw [TK.out], by go_num, by omega, HK.out.drewN _⟩
        case measure => simp [intOf]; omega
      · have g1 : ¬ (i : Int) < (l.length : Int) := by omega
        have e : i = l.length := by omega
        subst e
        rw [List.take_length]
        go_wp2_with fail
        go_ret
        exact ⟨by rw [WE.out]; rfl, HK.out⟩
end Go.Proofs.YtnjmdldhgconmaaGreatDoor

namespace Go.Proofs.YtnjmdldhgconmaaGreatDoor
open Go.RowKit Go.Sort

set_option maxRecDepth 100000 in
theorem cr_half (c : UInt8) (w : World) :
    Calls Tryz.prog 28 #[.int .u8 (c.toNat : Nat)] w fun e w' => e = .returned (.int .u8 (halfN c : Nat)) ∧ w' = w := by
  unfold halfN
  have hc := c.toNat_lt
  obtain ⟨y, hy⟩ : ∃ y, c.toNat = y := ⟨_, rfl⟩
  rw [hy] at hc ⊢
  clear hy
  by_cases h1 : 48 ≤ y
  · have a1 : (48 : Int) ≤ (y : Int) := by omega
    by_cases h2 : y ≤ 57
    · have a2 : (y : Int) ≤ 57 := by omega
      have hw : IntKind.u8.wrap ((y : Int) - 48) = ((y - 48 : Nat) : Int) := by rw [IntKind.wrap_u8]; omega
      rw [if_pos ⟨h1, h2⟩]
      go_enter Tryz.func28, Tryz.ntmps28
      go_wp2_with fail
      go_ret
      exact ⟨rfl, rfl⟩
    · have a2 : ¬ (y : Int) ≤ 57 := by omega
      rw [if_neg (fun h => h2 h.2)]
      by_cases h3 : 97 ≤ y
      · have a3 : (97 : Int) ≤ (y : Int) := by omega
        by_cases h4 : y ≤ 102
        · have a4 : (y : Int) ≤ 102 := by omega
          obtain ⟨z, hz⟩ : ∃ z, y - 97 = z := ⟨_, rfl⟩
          have hw : IntKind.u8.wrap ((y : Int) - 97) = (z : Int) := by rw [IntKind.wrap_u8]; omega
          have hw2 : IntKind.u8.wrap ((z : Int) + 10) = ((y - 87 : Nat) : Int) := by rw [IntKind.wrap_u8]; omega
          rw [if_pos ⟨h3, h4⟩]
          clear hz
          go_enter Tryz.func28, Tryz.ntmps28
          go_wp2_with fail
          go_ret
          exact ⟨rfl, rfl⟩
        · have a4 : ¬ (y : Int) ≤ 102 := by omega
          rw [if_neg (fun h => h4 h.2)]
          go_enter Tryz.func28, Tryz.ntmps28
          go_wp2_with fail
          go_ret
          exact ⟨rfl, rfl⟩
      · have a3 : ¬ (97 : Int) ≤ (y : Int) := by omega
        rw [if_neg (fun h => h3 h.1)]
        go_enter Tryz.func28, Tryz.ntmps28
        go_wp2_with fail
        go_ret
        exact ⟨rfl, rfl⟩
  · have a1 : ¬ (48 : Int) ≤ (y : Int) := by omega
    have a3 : ¬ (97 : Int) ≤ (y : Int) := by omega
    rw [if_neg (fun h => h1 h.1), if_neg (fun h => h1 (by omega))]
    go_enter Tryz.func28, Tryz.ntmps28
    go_wp2_with fail
    go_ret
    exact ⟨rfl, rfl⟩

theorem str_dig0 (k : Nat) (t : Tx) : ((⟨#[48, 49, 50, 51, 52, 53, 54, 55, 56, 57]⟩ : ByteArray).extract (k % 10) (k % 10 + 1) ++ (⟨t.toArray⟩ : ByteArray)) = ⟨(UInt8.ofNat (48 + k % 10) :: t).toArray⟩ := by
  have key : ∀ d : Fin 10, (⟨#[48, 49, 50, 51, 52, 53, 54, 55, 56, 57]⟩ : ByteArray).extract d.val (d.val + 1) = ⟨#[UInt8.ofNat (48 + d.val)]⟩ := by decide +kernel
  rw [key ⟨k % 10, by omega⟩, str_cons]
set_option maxRecDepth 100000 in
set_option maxHeartbeats 1600000 in
theorem cr_numN (N : Nat) (hN : (N : Int) ≤ 9223372036854775807) (w : World) :
    Calls Tryz.prog 16 #[.int .i64 (N : Int)] w fun e w' => e = .returned (encStr (digT N)) ∧ w' = w := by
  have g0 : ¬ (N : Int) < 0 := by omega
  have hNl : (N : Int) ≤ 9223372036854775808 := by omega
  go_enter Tryz.func16, Tryz.ntmps16
  go_wp2_with fail
  go_loopw [0, 3] (fun u s wr => ∃ (k : Nat) (t : Tx), u = .int .i64 (k : Int) ∧ s = encStr t ∧ k ≤ N ∧ Digs N k t ∧ wr = w) (fun u s _ => (intOf u).toNat + tmN s)
  case atStart => exact ⟨N, [], rfl, rfl, Nat.le_refl _, .inl ⟨rfl, rfl⟩, rfl⟩
  case round =>
    obtain ⟨k, t, rfl, rfl, hk, hd, rfl⟩ := hrel
    by_cases hgo : 0 < k ∨ t = []
    · have DS := Lib.hid (digs_step hd hgo)
      have hl := digs_len hd hNl
      clear hd
      by_cases hk0 : 0 < k
      · have g1 : (0 : Int) < (k : Int) := by omega
        go_upto_region 5 with fail
        go_wp2_with fail
        rw [str_dig0, tmN_cons]
        refine ⟨⟨k / 10, _, by go_num, rfl, by omega, DS.out, trivial⟩, ?_⟩
        simp [intOf]
        omega
      · obtain rfl : t = [] := hgo.resolve_left hk0
        obtain rfl : k = 0 := by omega
        go_upto_region 5 with fail
        go_wp2_with fail
        rw [show ((⟨#[48, 49, 50, 51, 52, 53, 54, 55, 56, 57]⟩ : ByteArray).extract 0 1 ++ (⟨#[]⟩ : ByteArray)) = ⟨(UInt8.ofNat (48 + 0 % 10) :: ([] : Tx)).toArray⟩ from str_dig0 0 [], tmN_cons]
        refine ⟨⟨0, _, rfl, rfl, by omega, DS.out, trivial⟩, ?_⟩
        rw [show tmN (encStr []) = 1 from rfl]
        simp [intOf]
    · have k0 : k = 0 := by omega
      subst k0
      have t0 : t ≠ [] := fun e => hgo (.inr e)
      have hie : List.isEmpty t = false := by simpa using t0
      obtain rfl := digs_end hd t0
      clear hgo t0 hd
      go_wp2_with fail
      go_ret
      exact ⟨rfl, rfl⟩
set_option maxRecDepth 100000 in
theorem cr_num (n : Int) (h1 : -9223372036854775807 ≤ n) (h2 : n ≤ 9223372036854775807) (w : World) :
    Calls Tryz.prog 16 #[.int .i64 n] w fun e w' => e = .returned (encStr (numT n)) ∧ w' = w := by
  by_cases hneg : n < 0
  · obtain ⟨N, rfl⟩ : ∃ N : Nat, n = -(N : Int) := ⟨n.natAbs, by omega⟩
    have NN := Lib.hid (fun w => cr_numN N (by omega) w)
    have NT := Lib.hid (show numT (-(N : Int)) = 45 :: digT N by unfold numT; rw [if_pos hneg]; congr 2; omega)
    have hdl := dig_len 18 N (by omega)
    have hwn : IntKind.i64.wrap (- -(N : Int)) = (N : Int) := by rw [IntKind.wrap_i64]; omega
    have hg : -(N : Int) < 0 := hneg
    have hcat : 1 + (digT N).length ≤ 9223372036854775807 := by omega
    rw [NT.out]
    go_enter Tryz.func16, Tryz.ntmps16
    go_wp2_with fail
    refine (NN.out _).mono ?_
    rintro e w1 ⟨rfl, rfl⟩
    go_wp2_with fail
    go_ret
    exact ⟨congrArg (fun s => Ending.returned (Value.string s)) (str_cons 45 (digT N)), rfl⟩
  · obtain ⟨N, rfl⟩ : ∃ N : Nat, n = (N : Int) := ⟨n.toNat, by omega⟩
    rw [num_nat]
    exact cr_numN N h2 w

set_option maxRecDepth 100000 in
set_option maxHeartbeats 1600000 in
theorem cr_number (l : Tx) (hl : l.length ≤ 1000000) (w : World) :
    Calls Tryz.prog 52 #[encStr l] w fun e w' => e = .returned (.tuple #[.int .i64 ((numP l).1 : Nat), .bool (numP l).2]) ∧ w' = w := by
  by_cases h0 : l = []
  · subst h0
    go_enter Tryz.func52, Tryz.ntmps52
    go_wp2_with fail
    go_ret2
    refine ⟨?_, rfl⟩
    have : numP [] = (0, false) := by
      unfold numP
      rw [if_pos ⟨rfl, by decide⟩]
      have : valT [] = 0 := rfl
      rw [this, dig_small (by omega)]
      rfl
    rw [this]
    rfl
  have hie : List.isEmpty l = false := by simpa using h0
  by_cases h12 : 12 < l.length
  · have h12' : (12 : Int) < (l.length : Int) := by omega
    have NP : Hid (numP l = (0, false)) := by show _ = _; unfold numP; rw [if_neg (fun h => by omega)]
    clear h0
    go_enter Tryz.func52, Tryz.ntmps52
    go_wp2_with fail
    go_ret2
    exact ⟨by rw [NP.out]; rfl, rfl⟩
  have h12' : ¬ (12 : Int) < (l.length : Int) := by omega
  clear h0
  go_enter Tryz.func52, Tryz.ntmps52
  go_wp2_with fail
  go_loopw [4, 5] (fun n t wr => ∃ i : Nat, n = .int .i64 (valT (l.take i) : Nat) ∧ t = .int .i64 i ∧ i ≤ l.length ∧ (l.take i).all isDig = true ∧ wr = w) (fun _ t _ => l.length - (intOf t).toNat)
  case atStart => exact ⟨0, rfl, rfl, by omega, rfl, rfl⟩
  case round =>
    obtain ⟨i, rfl, rfl, hi, ho, rfl⟩ := hrel
    have HO := Lib.hid ho
    clear ho
    by_cases hgo : i < l.length
    · have g1 : (i : Int) < (l.length : Int) := by omega
      have g0 : (0 : Int) ≤ (i : Int) := by omega
      obtain ⟨y, hxy⟩ : ∃ y, l[i].toNat = y := ⟨_, rfl⟩
      have hy := str_at hgo hxy
      have hy256 : y < 256 := by have := (l[i]).toNat_lt; omega
      have hTk : l.take (i + 1) = l.take i ++ [l[i]] := by rw [List.take_add_one, List.getElem?_eq_getElem hgo]; rfl
      have hbad : ¬ (48 ≤ y ∧ y ≤ 57) → numP l = (0, false) := fun h => by
        unfold numP
        rw [if_neg]
        rintro ⟨h1, h2⟩
        rw [List.all_eq_true] at h1
        have h3 := h1 l[i] (List.getElem_mem hgo)
        simp only [isDig, hxy, Bool.and_eq_true, decide_eq_true_eq] at h3
        exact h h3
      by_cases hy1 : y < 48
      · have NP := Lib.hid (hbad (by omega))
        have y1 : (y : Int) < 48 := by omega
        clear hbad hTk
        go_wp2_with fail
        go_ret2
        exact ⟨by rw [NP.out]; rfl, rfl⟩
      · have y1 : ¬ (y : Int) < 48 := by omega
        by_cases hy2 : 57 < y
        · have NP := Lib.hid (hbad (by omega))
          have y2 : (57 : Int) < (y : Int) := by omega
          clear hbad hTk
          go_wp2_with fail
          go_ret2
          exact ⟨by rw [NP.out]; rfl, rfl⟩
        · have y2 : ¬ (57 : Int) < (y : Int) := by omega
          have hv := val_lt 1000000 (l.take i) (by rw [List.length_take]; omega) HO.out
          have hp := pow12 (n := (l.take i).length) (by rw [List.length_take]; omega)
          have VT := Lib.hid (show valT (l.take (i + 1)) = 10 * valT (l.take i) + (y - 48) by rw [hTk, val_snoc, hxy])
          have DT := Lib.hid (show (l.take (i + 1)).all isDig = true by
            rw [hTk, List.all_append, HO.out]
            simp [isDig, hxy]
            omega)
          clear hbad hTk
          obtain ⟨vt, hvt⟩ : ∃ v, valT (l.take i) = v := ⟨_, rfl⟩
          rw [hvt] at VT hv
          rw [hvt]
          have hv2 : vt < 1000000000000 := by omega
          clear hvt hv hp
          have hw8 : IntKind.u8.wrap ((y : Int) - 48) = ((y - 48 : Nat) : Int) := by rw [IntKind.wrap_u8]; omega
          obtain ⟨dg, hdg⟩ : ∃ d, y - 48 = d := ⟨_, rfl⟩
          rw [hdg] at hw8 VT
          have hdg9 : dg ≤ 9 := by omega
          clear hdg
          go_wp2_with fail
          go_roundw
          case rel => exact ⟨i + 1, by rw [VT.out]; go_num, by go_num, by omega, DT.out, trivial⟩
          case measure => simp [intOf]; omega
    · have g1 : ¬ (i : Int) < (l.length : Int) := by omega
      have e : i = l.length := by omega
      subst e
      rw [List.take_length] at HO
      rw [List.take_length]
      have NP : Hid (numP l = (valT l, decide (digT (valT l) = l))) := by
        show _ = _
        unfold numP
        rw [if_pos ⟨HO.out, by omega⟩]
      have hv := val_lt 1000000 l hl HO.out
      have hp := pow12 (n := l.length) (by omega)
      obtain ⟨vt, hvt⟩ : ∃ v, valT l = v := ⟨_, rfl⟩
      rw [hvt] at NP hv
      rw [hvt]
      have hv2 : vt < 1000000000000 := by omega
      have NU := Lib.hid (fun w => cr_num (vt : Int) (by omega) (by omega) w)
      rw [num_nat] at NU
      obtain ⟨pb, hpb⟩ : ∃ b, decide (digT vt = l) = b := ⟨_, rfl⟩
      have hqb : (digT vt == l) = pb := by rw [← hpb, Bool.eq_iff_iff]; simp
      rw [hpb] at NP
      clear hpb hvt hv hp
      go_wp2_with fail
      refine (NU.out _).mono ?_
      rintro e w3 ⟨rfl, rfl⟩
      go_wp2_with fail
      go_ret2
      exact ⟨by rw [NP.out]; rfl, rfl⟩
end Go.Proofs.YtnjmdldhgconmaaGreatDoor

namespace Go.Proofs.YtnjmdldhgconmaaGreatDoor
open Go.RowKit Go.Sort
attribute [local go_sem ↓] exec_app semAt_app
attribute [local go_sem] isApp_lit appA appX

theorem drop_two {l : Tx} {i : Nat} (h : i + 1 < l.length) : l.drop i = l[i] :: l[i + 1] :: l.drop (i + 2) := by
  rw [List.drop_eq_getElem_cons (by omega), List.drop_eq_getElem_cons h]
/-- What Unword tells at its end: the word of what was read must be the word. -/
def refE (l s : Tx) : Value := if wordT s = l then .tuple #[encStr s, .bool true] else .tuple #[encStr [], .bool false]
theorem refU_end {l s : Tx} (h : 2 < l.length ∧ preX l = true ∧ l.length % 2 = 0) (hu : unhexT (l.drop 2) = some s) : unwordP l = refE l s := by
  unfold unwordP refE
  rw [← refU_eq]
  unfold refU
  rw [if_pos h, hu]
  simp only
  split <;> rfl
theorem refU_bad {l : Tx} (h : 2 < l.length ∧ preX l = true ∧ l.length % 2 = 0) (hu : unhexT (l.drop 2) = none) : unwordP l = .tuple #[encStr [], .bool false] := by
  unfold unwordP
  rw [← refU_eq]
  unfold refU
  rw [if_pos h, hu]
  rfl
theorem refU_not {l : Tx} (h : ¬ (2 < l.length ∧ preX l = true ∧ l.length % 2 = 0)) : unwordP l = refE l (if l = [45] then [] else l) := by
  unfold unwordP refE
  rw [← refU_eq]
  unfold refU
  rw [if_neg h]
  generalize (if l = [45] then [] else l) = z
  by_cases hz : wordT z = l
  · rw [if_pos hz, if_pos hz]; rfl
  · rw [if_neg hz, if_neg hz]; rfl

theorem pre_ext {l : Tx} (h : 2 < l.length) : ∃ c d r, l = c :: d :: r ∧ (⟨l.toArray⟩ : ByteArray).extract 0 2 = ⟨[c, d].toArray⟩ := by
  match l, h with
  | c :: d :: r, _ => exact ⟨c, d, r, rfl, by apply ByteArray.ext; simp [ByteArray.data_extract]⟩
set_option maxRecDepth 100000 in
set_option maxHeartbeats 3200000 in
theorem cr_unword (l : Tx) (hl : l.length ≤ 400000) (w : World) :
    Calls Tryz.prog 9 #[encStr l] w fun e w' => e = .returned (unwordP l) ∧ Same w w' := by
  by_cases h45 : l = [45]
  · subst h45
    have hls : ([] : Tx).length ≤ 1000000 := by decide
    have WD := Lib.hid (fun w => cr_word [] hls w)
    rw [show wordT [] = [45] from rfl] at WD
    go_enter Tryz.func9, Tryz.ntmps9
    go_wp2_with fail
    refine (WD.out _).mono ?_
    rintro e w9 ⟨rfl, k9⟩
    have K9 := Lib.hid k9
    clear k9
    go_wp2_with fail
    go_ret2
    exact ⟨rfl, K9.out⟩
  have n45 : (l == [45]) = false := by simpa using h45
  have hls : l.length ≤ 1000000 := by omega
  have KK := Lib.hid (Kept.refl (fun _ => False) w)
  by_cases hC : 2 < l.length ∧ preX l = true ∧ l.length % 2 = 0
  · have UE := Lib.hid (fun s => refU_end (l := l) (s := s) hC)
    have UB := Lib.hid (refU_bad hC)
    obtain ⟨c, d, r, hcd, hx⟩ := pre_ext hC.1
    have hcx : [c, d] = [120, 58] := by
      have := hC.2.1
      rw [hcd] at this
      simp only [preX, Bool.and_eq_true, beq_iff_eq] at this
      rw [this.1, this.2]
    rw [hcx] at hx
    have hx : (⟨l.toArray⟩ : ByteArray).extract 0 2 = ⟨#[120, 58]⟩ := hx
    have g2 : (2 : Int) < (l.length : Int) := by omega
    have he : l.length % 2 = 0 := hC.2.2
    have gl2 : (2 : Int) ≤ (l.length : Int) := by omega
    have he' : (l.length : Int) % 2 = 0 := by omega
    clear hcd hcx
    go_enter Tryz.func9, Tryz.ntmps9
    go_wp2_with fail
    clear he'
    go_loopw [5, 6] (fun v t wr => ∃ (i : Nat) (t0 : Tx), t = .int .i64 i ∧ 2 ≤ i ∧ i ≤ l.length ∧ i % 2 = 0 ∧ t0.length + 2 ≤ i ∧ unhexT (l.drop 2) = (unhexT (l.drop i)).map (t0 ++ ·) ∧ OwnN wr w.heap.size 5 .u8 v (natsU t0) ∧ Same w wr) (fun _ t _ => l.length - (intOf t).toNat)
    case atStart => exact ⟨2, [], rfl, by omega, by omega, rfl, by decide, by cases unhexT (l.drop 2) <;> rfl, World.ownsRow_nil _ _ _ _, Kept.refl _ _⟩
    case round =>
      obtain ⟨i, t0, rfl, hi2, hi, hie, htl, hu, ho, hk⟩ := hrel
      have HO := Lib.hid ho; have HK := Lib.hid hk; have HU := Lib.hid hu
      clear ho hk hu
      by_cases hgo : i < l.length
      · have hgo1 : i + 1 < l.length := by omega
        have g1 : (i : Int) < (l.length : Int) := by omega
        have g0 : (0 : Int) ≤ (i : Int) := by omega
        have g11 : (i : Int) + 1 < (l.length : Int) := by omega
        have gt1 : ((i : Int) + 1).toNat = i + 1 := by omega
        have hD := drop_two hgo1
        obtain ⟨a, ha⟩ : ∃ a, l[i] = a := ⟨_, rfl⟩
        obtain ⟨b, hb⟩ : ∃ b, l[i + 1] = b := ⟨_, rfl⟩
        have hya := str_at hgo (congrArg UInt8.toNat ha)
        have hyb := str_at hgo1 (congrArg UInt8.toNat hb)
        rw [ha, hb] at hD
        have HA := Lib.hid (fun w => cr_half a w)
        have HB := Lib.hid (fun w => cr_half b w)
        clear ha hb
        have hab : Hid (unhexT (l.drop 2) = (if halfN a ≤ 15 ∧ halfN b ≤ 15 then (unhexT (l.drop (i + 2))).map (UInt8.ofNat (16 * halfN a + halfN b) :: ·) else none).map (t0 ++ ·)) := by
          show _ = _
          rw [HU.out, hD, unhexT]
        clear HU hD
        obtain ⟨p, hp⟩ : ∃ p, halfN a = p := ⟨_, rfl⟩
        obtain ⟨q, hq⟩ : ∃ q, halfN b = q := ⟨_, rfl⟩
        rw [hp] at HA
        rw [hq] at HB
        rw [hp, hq] at hab
        clear hp hq
        go_upto_region 9 with fail
        go_wp2_with fail
        refine (HA.out _).mono ?_
        rintro e wr ⟨rfl, rfl⟩
        by_cases hp15 : 15 < p
        · have hp15' : (15 : Int) < (p : Int) := by omega
          have ZZ := Lib.hid (show unwordP l = .tuple #[encStr [], .bool false] by
            refine UB.out ?_
            rw [hab.out, if_neg (fun h => by omega)]
            rfl)
          go_wp2_with fail
          go_ret2
          exact ⟨by rw [ZZ.out]; rfl, HK.out⟩
        have hp15' : ¬ (15 : Int) < (p : Int) := by omega
        go_wp2_with fail
        refine (HB.out _).mono ?_
        rintro e wr ⟨rfl, rfl⟩
        by_cases hq15 : 15 < q
        · have hq15' : (15 : Int) < (q : Int) := by omega
          have ZZ := Lib.hid (show unwordP l = .tuple #[encStr [], .bool false] by
            refine UB.out ?_
            rw [hab.out, if_neg (fun h => by omega)]
            rfl)
          go_wp2_with fail
          go_ret2
          exact ⟨by rw [ZZ.out]; rfl, HK.out⟩
        have hq15' : ¬ (15 : Int) < (q : Int) := by omega
        obtain ⟨z, hz⟩ : ∃ z : Nat, 16 * p + q = z := ⟨_, rfl⟩
        have hz255 : z ≤ 255 := by omega
        have UZ := Lib.hid (show unhexT (l.drop 2) = (unhexT (l.drop (i + 2))).map ((t0 ++ [UInt8.ofNat z]) ++ ·) by
          rw [hab.out, if_pos ⟨by omega, by omega⟩, hz]
          cases unhexT (l.drop (i + 2)) <;> simp)
        have NZ := Lib.hid (show natsU (t0 ++ [UInt8.ofNat z]) = natsU t0 ++ [z] by
          rw [natsU_app]
          simp [natsU, Nat.mod_eq_of_lt (show z < 256 by omega)])
        have hwa : IntKind.u8.wrap (16 * (p : Int) + (q : Int)) = (z : Int) := by rw [IntKind.wrap_u8]; omega
        have hwi : IntKind.i64.wrap ((i : Int) + 1) = ((i + 1 : Nat) : Int) := by rw [IntKind.wrap_i64]; omega
        go_upto_region 11 with fail
        refine wp_region_T (S := fun _ => True) 4 (by kernel_rfl) trivial (fun hHeld hDn => ?_)
        refine wpT_zw 0 43 hHeld hDn fun hDn => ?_
        refine wpT_zs 1 44 hHeld hDn fun hDn => ?_
        refine wpT_zs 2 45 hHeld hDn fun hDn => ?_
        refine wpT_zs 3 46 (v := .int .u8 (a.toNat : Nat)) hHeld hDn (fun hDn => ?_) (hv := by intro w _; go_simp)
        refine wpT_zw 6 49 hHeld hDn fun hDn => ?_
        refine wpT_zw 7 50 hHeld hDn fun hDn => ?_
        refine wpT_zw 8 51 hHeld hDn fun hDn => ?_
        refine wpT_zw 9 52 (v := .int .u8 (b.toNat : Nat)) hHeld hDn (fun hDn => ?_) (hv := by intro w _; go_simp)
        refine wpT_last rfl (by kernel_rfl) hDn (fun K hK => ?_)
        go_simp
        refine (HA.out _).mono ?_
        rintro e w5 ⟨rfl, rfl⟩
        refine hK.out _ _ (fun hDn' => ?_)
        clear hK K hDn hHeld; have hDn := hDn'; clear hDn'
        refine wpT_ze 5 48 hDn fun hDn => ?_
        refine wpT_oneF (i := 10) rfl (by kernel_rfl) rfl (by kernel_rfl) hDn (fun K hK => ?_)
        go_simp
        refine (HB.out _).mono ?_
        rintro e w6 ⟨rfl, rfl⟩
        refine hK.out _ _ (fun hDn' => ?_)
        clear hK K hDn; have hDn := hDn'; clear hDn'
        refine wpT_ze 11 54 (v := .int .u8 (z : Nat)) hDn (fun hDn => ?_) (hv := by intro w; go_simp; rw [IntKind.wrap_u8, IntKind.wrap_u8]; omega)
        refine wpT_oneF (i := 12) rfl (by kernel_rfl) rfl (by kernel_rfl) hDn (fun K hK => ?_)
        go_simp
        refine hK.out _ _ (fun hDn' => ?_)
        clear hK K hDn; have hDn := hDn'; clear hDn'
        refine wpT_oneF (i := 13) rfl (by kernel_rfl) rfl (by kernel_rfl) hDn (fun K hK => ?_)
        have kW : Same wr (wr.alloc (.cells #[.int .u8 (z : Nat)] 5)).drew := ((Kept.refl _ wr).alloc _).drew
        refine step_appendN rfl _ _ 25 rfl w.heap.size 5 .u8 1 Tryz.underlying25 info8 (by decide) _ (natsU t0) rfl (HO.out.same kW) _ _ _ [z] rfl rfl ((one_at wr z _).same ((Kept.refl _ _).drew)) (fun e => by cases e) (by rw [natsU_len]; show (_ + 1) * 1 ≤ _; omega) (Nat.le_trans HK.out.size kW.size) ?_
        intro v5 w5 h5 g5 _
        have K5 := Lib.hid ((HK.out.trans kW).grownNew g5 (fun k hk => by have := (World.ownsRow.lt HO.out _ hk).1; omega))
        have H5 := Lib.hid h5
        clear h5 g5 kW HO HK
        refine hK.out _ _ (fun hDn' => ?_)
        clear hK K hDn; have hDn := hDn'; clear hDn'
        refine wpT_ze 14 5 hDn fun hDn => ?_
        refine wpT_done (by kernel_rfl) ?_ _
        clear hDn HA HB
        go_wp2_with fail
        go_roundw
        case rel => exact ⟨i + 2, t0 ++ [UInt8.ofNat z], by go_num, by omega, by omega, by omega, by rw [List.length_append]; show _ + 1 + 2 ≤ _; omega, UZ.out, by rw [NZ.out]; exact H5.out, K5.out⟩
        case measure => simp [intOf]; omega
      · have e : i = l.length := by omega
        subst e
        have hu := HU.out
        rw [List.drop_length, unhexT, Option.map_some, List.append_nil] at hu
        have UU := Lib.hid (UE.out _ hu)
        have KK := HK
        obtain ⟨ao, n', cap, rfl, hn, -, hat, -⟩ := HO.out.rd
        have hcv := conv_str ao n' cap (natsU t0) wr hn.out hat
        rw [strN_natsU] at hcv
        have hls : t0.length ≤ 1000000 := by omega
        clear hn HO hat HU hu UE UB
        have g1 : ¬ (l.length : Int) < (l.length : Int) := by omega
        go_upto_region 13 with fail
        have WD := Lib.hid (fun w => cr_word (t0) hls w)
        by_cases hw : wordT (t0) = l
        · have EE := Lib.hid (show refE l (t0) = .tuple #[encStr (t0), .bool true] by unfold refE; rw [if_pos hw])
          have q1 : (l == l) = true := by simp
          have q2 : (l != l) = false := by simp
          rw [hw] at WD
          go_wp2_with fail
          refine (WD.out _).mono ?_
          rintro e w9 ⟨rfl, k9⟩
          have K9 := Lib.hid (KK.out.trans k9)
          clear k9
          go_wp2_with fail
          go_ret2
          exact ⟨by rw [UU.out, EE.out]; rfl, K9.out⟩
        · have EE := Lib.hid (show refE l (t0) = .tuple #[encStr [], .bool false] by unfold refE; rw [if_neg hw])
          obtain ⟨wd, hwd⟩ : ∃ x, wordT (t0) = x := ⟨_, rfl⟩
          rw [hwd] at WD hw
          have q1 : (wd == l) = false := by simpa using hw
          have q2 : (wd != l) = true := by simpa using hw
          go_wp2_with fail
          refine (WD.out _).mono ?_
          rintro e w9 ⟨rfl, k9⟩
          have K9 := Lib.hid (KK.out.trans k9)
          clear k9
          go_wp2_with fail
          go_ret2
          exact ⟨by rw [UU.out, EE.out]; rfl, K9.out⟩
  · have UU := Lib.hid (refU_not hC)
    rw [if_neg h45] at UU
    by_cases g2 : 2 < l.length
    · obtain ⟨c, d, r, hcd, hx⟩ := pre_ext g2
      have g2' : (2 : Int) < (l.length : Int) := by omega
      have gl2 : (2 : Int) ≤ (l.length : Int) := by omega
      have hp : ([c, d] == [120, 58]) = preX l := by rw [hcd]; simp [preX]
      clear hcd
      cases hpx : preX l with
      | false =>
        rw [hpx] at hp
        clear hpx
        go_enter Tryz.func9, Tryz.ntmps9
        go_upto_region 13 with fail
        have WD := Lib.hid (fun w => cr_word (l) hls w)
        by_cases hw : wordT (l) = l
        · have EE := Lib.hid (show refE l (l) = .tuple #[encStr (l), .bool true] by unfold refE; rw [if_pos hw])
          have q1 : (l == l) = true := by simp
          have q2 : (l != l) = false := by simp
          rw [hw] at WD
          go_wp2_with fail
          refine (WD.out _).mono ?_
          rintro e w9 ⟨rfl, k9⟩
          have K9 := Lib.hid (KK.out.trans k9)
          clear k9
          go_wp2_with fail
          go_ret2
          exact ⟨by rw [UU.out, EE.out]; rfl, K9.out⟩
        · have EE := Lib.hid (show refE l (l) = .tuple #[encStr [], .bool false] by unfold refE; rw [if_neg hw])
          obtain ⟨wd, hwd⟩ : ∃ x, wordT (l) = x := ⟨_, rfl⟩
          rw [hwd] at WD hw
          have q1 : (wd == l) = false := by simpa using hw
          have q2 : (wd != l) = true := by simpa using hw
          go_wp2_with fail
          refine (WD.out _).mono ?_
          rintro e w9 ⟨rfl, k9⟩
          have K9 := Lib.hid (KK.out.trans k9)
          clear k9
          go_wp2_with fail
          go_ret2
          exact ⟨by rw [UU.out, EE.out]; rfl, K9.out⟩
      | true =>
        rw [hpx] at hp
        have he' : (l.length : Int) % 2 = 1 := by
          have : ¬ l.length % 2 = 0 := fun e => hC ⟨g2, hpx, e⟩
          omega
        clear hpx
        go_enter Tryz.func9, Tryz.ntmps9
        go_upto_region 13 with fail
        have WD := Lib.hid (fun w => cr_word (l) hls w)
        by_cases hw : wordT (l) = l
        · have EE := Lib.hid (show refE l (l) = .tuple #[encStr (l), .bool true] by unfold refE; rw [if_pos hw])
          have q1 : (l == l) = true := by simp
          have q2 : (l != l) = false := by simp
          rw [hw] at WD
          go_wp2_with fail
          refine (WD.out _).mono ?_
          rintro e w9 ⟨rfl, k9⟩
          have K9 := Lib.hid (KK.out.trans k9)
          clear k9
          go_wp2_with fail
          go_ret2
          exact ⟨by rw [UU.out, EE.out]; rfl, K9.out⟩
        · have EE := Lib.hid (show refE l (l) = .tuple #[encStr [], .bool false] by unfold refE; rw [if_neg hw])
          obtain ⟨wd, hwd⟩ : ∃ x, wordT (l) = x := ⟨_, rfl⟩
          rw [hwd] at WD hw
          have q1 : (wd == l) = false := by simpa using hw
          have q2 : (wd != l) = true := by simpa using hw
          go_wp2_with fail
          refine (WD.out _).mono ?_
          rintro e w9 ⟨rfl, k9⟩
          have K9 := Lib.hid (KK.out.trans k9)
          clear k9
          go_wp2_with fail
          go_ret2
          exact ⟨by rw [UU.out, EE.out]; rfl, K9.out⟩
    · have g2' : ¬ (2 : Int) < (l.length : Int) := by omega
      go_enter Tryz.func9, Tryz.ntmps9
      go_upto_region 13 with fail
      have WD := Lib.hid (fun w => cr_word (l) hls w)
      by_cases hw : wordT (l) = l
      · have EE := Lib.hid (show refE l (l) = .tuple #[encStr (l), .bool true] by unfold refE; rw [if_pos hw])
        have q1 : (l == l) = true := by simp
        have q2 : (l != l) = false := by simp
        rw [hw] at WD
        go_wp2_with fail
        refine (WD.out _).mono ?_
        rintro e w9 ⟨rfl, k9⟩
        have K9 := Lib.hid (KK.out.trans k9)
        clear k9
        go_wp2_with fail
        go_ret2
        exact ⟨by rw [UU.out, EE.out]; rfl, K9.out⟩
      · have EE := Lib.hid (show refE l (l) = .tuple #[encStr [], .bool false] by unfold refE; rw [if_neg hw])
        obtain ⟨wd, hwd⟩ : ∃ x, wordT (l) = x := ⟨_, rfl⟩
        rw [hwd] at WD hw
        have q1 : (wd == l) = false := by simpa using hw
        have q2 : (wd != l) = true := by simpa using hw
        go_wp2_with fail
        refine (WD.out _).mono ?_
        rintro e w9 ⟨rfl, k9⟩
        have K9 := Lib.hid (KK.out.trans k9)
        clear k9
        go_wp2_with fail
        go_ret2
        exact ⟨by rw [UU.out, EE.out]; rfl, K9.out⟩
end Go.Proofs.YtnjmdldhgconmaaGreatDoor

namespace Go.Proofs.YtnjmdldhgconmaaGreatDoor
open Go.RowKit Go.Sort
attribute [local go_sem ↓] exec_app semAt_app
attribute [local go_sem] isApp_lit appA appX

/-- A text as an element. -/
def txE : Enc Tx where
  n := 1
  enc x := [encStr x]
  len _ := rfl
  pos := Nat.one_pos
  one x v hv := by simp at hv; subst hv; rfl
theorem txE_all (l : List Tx) : txE.all l = l.map encStr := by
  induction l with
  | nil => rfl
  | cons x l ih => rw [txE.all_cons, ih]; rfl
theorem txInfo : (Tryz.prog.info? 9).map (fun i => (i.zero, i.size, i.bytes)) = some (some (.string ByteArray.empty), 1, 16) := by kernel_rfl
/-- The cell of one. -/
theorem tx_cell {w : World} {a : Option Addr} {l : List Tx} (h : ElsAt txE w a l) {i : Nat} {x : Tx} (hx : l[i]? = some x) : ∃ b off, a = some ⟨b, off, none⟩ ∧ b < w.heap.size ∧ w.cell? ⟨b, off + i, none⟩ = some (encStr x) := by
  obtain ⟨b, off, rfl, hb⟩ := h.there (fun e => by rw [e] at hx; simp at hx)
  refine ⟨b, off, rfl, hb, ?_⟩
  have := h.get hx 0 (u := encStr x) rfl
  rw [show txE.n = 1 from rfl, Nat.mul_one, Nat.add_zero] at this
  exact this
/-- One text, put behind texts of one's own. -/
theorem tx_push {w : World} {base : Nat} {v : Value} {l : List Tx} (h : OwnE txE w base 9 v l) (hb : base ≤ w.heap.size) (s : Tx) (hl : l.length ≤ 4000000) :
    ∃ v' w', (Builtin.append_ #[46, 46] 46 #[v, .slice (some ⟨w.heap.size, 0, none⟩) 1 1]).run Tryz.prog (w.alloc (.cells #[encStr s] 9)) = .ok v' w' ∧ OwnE txE w' base 9 v' (l ++ [s]) ∧ Kept (fun j => v.ownBlock = some j) w w' := by
  have kA : Same w (w.alloc (.cells #[encStr s] 9)) := (Kept.refl _ w).alloc _
  have hone : ElsAt txE (w.alloc (.cells #[encStr s] 9)) (some ⟨w.heap.size, 0, none⟩) [s] := elsAt_one (E := txE) (x := s) (Blk.new w _ _) rfl
  obtain ⟨v', w', hrun, ho, hgr, hob⟩ := run_appendE (P := Tryz.prog) (w.alloc (.cells #[encStr s] 9)) 46 46 base 9 (.string ByteArray.empty) 16 txE Tryz.underlying46 txInfo rfl v l (h.same kA) (some ⟨w.heap.size, 0, none⟩) 1 1 [s] rfl hone (fun e => by cases e) (by simp [maxLen]; omega) (by simp; omega) (by simp; omega)
  exact ⟨v', w', hrun, ho, (kA.mono (fun _ _ q => q.elim)).grown hgr (fun k hk _ => hk)⟩

/-- A field's letter. -/
def fldC : Fld → UInt8
  | .t => 116
  | .k => 107
  | .v => 118
  | .n => 110
  | .d => 100
  | .fl => 102
def shapeN (k : Nat) : Tx := (shapeT k).elim [] (·.1)
def shapeF (k : Nat) : List Fld := (shapeT k).elim [] (·.2)
set_option maxRecDepth 100000 in
set_option maxHeartbeats 1600000 in
theorem cr_shape (k : Nat) (w : World) :
    Calls Tryz.prog 32 #[.int .u8 (k : Nat)] w fun e w' => e = .returned (.tuple #[encStr (shapeN k), encStr ((shapeF k).map fldC)]) ∧ w' = w := by
  match k with
  | 0 =>
    go_enter Tryz.func32, Tryz.ntmps32
    go_wp2_with fail
    go_ret2
    exact ⟨rfl, rfl⟩
  | 1 =>
    go_enter Tryz.func32, Tryz.ntmps32
    go_wp2_with fail
    go_ret2
    exact ⟨rfl, rfl⟩
  | 2 =>
    go_enter Tryz.func32, Tryz.ntmps32
    go_wp2_with fail
    go_ret2
    exact ⟨rfl, rfl⟩
  | 3 =>
    go_enter Tryz.func32, Tryz.ntmps32
    go_wp2_with fail
    go_ret2
    exact ⟨rfl, rfl⟩
  | 4 =>
    go_enter Tryz.func32, Tryz.ntmps32
    go_wp2_with fail
    go_ret2
    exact ⟨rfl, rfl⟩
  | 5 =>
    go_enter Tryz.func32, Tryz.ntmps32
    go_wp2_with fail
    go_ret2
    exact ⟨rfl, rfl⟩
  | 6 =>
    go_enter Tryz.func32, Tryz.ntmps32
    go_wp2_with fail
    go_ret2
    exact ⟨rfl, rfl⟩
  | 7 =>
    go_enter Tryz.func32, Tryz.ntmps32
    go_wp2_with fail
    go_ret2
    exact ⟨rfl, rfl⟩
  | 8 =>
    go_enter Tryz.func32, Tryz.ntmps32
    go_wp2_with fail
    go_ret2
    exact ⟨rfl, rfl⟩
  | 9 =>
    go_enter Tryz.func32, Tryz.ntmps32
    go_wp2_with fail
    go_ret2
    exact ⟨rfl, rfl⟩
  | 10 =>
    go_enter Tryz.func32, Tryz.ntmps32
    go_wp2_with fail
    go_ret2
    exact ⟨rfl, rfl⟩
  | 11 =>
    go_enter Tryz.func32, Tryz.ntmps32
    go_wp2_with fail
    go_ret2
    exact ⟨rfl, rfl⟩
  | 12 =>
    go_enter Tryz.func32, Tryz.ntmps32
    go_wp2_with fail
    go_ret2
    exact ⟨rfl, rfl⟩
  | n + 13 =>
    obtain ⟨m, hm⟩ : ∃ m, n + 13 = m := ⟨_, rfl⟩
    have e1 : shapeN (n + 13) = [] := rfl
    have e2 : shapeF (n + 13) = [] := rfl
    rw [e1, e2, hm]
    have q0 : ((m : Int) == 0) = false := by simp; omega
    have q1 : ((m : Int) == 1) = false := by simp; omega
    have q2 : ((m : Int) == 2) = false := by simp; omega
    have q3 : ((m : Int) == 3) = false := by simp; omega
    have q4 : ((m : Int) == 4) = false := by simp; omega
    have q5 : ((m : Int) == 5) = false := by simp; omega
    have q6 : ((m : Int) == 6) = false := by simp; omega
    have q7 : ((m : Int) == 7) = false := by simp; omega
    have q8 : ((m : Int) == 8) = false := by simp; omega
    have q9 : ((m : Int) == 9) = false := by simp; omega
    have q10 : ((m : Int) == 10) = false := by simp; omega
    have q11 : ((m : Int) == 11) = false := by simp; omega
    have q12 : ((m : Int) == 12) = false := by simp; omega
    clear hm e1 e2
    go_enter Tryz.func32, Tryz.ntmps32
    go_wp2_with fail
    go_ret2
    exact ⟨rfl, rfl⟩

theorem split_at (l : Tx) {i : Nat} (hi : i < l.length) : splitT (l.take (i + 1)) = addC (splitT (l.take i)) l[i] := by
  rw [List.take_add_one, List.getElem?_eq_getElem hi]
  exact split_snoc (l.take i) l[i]
theorem str_one {l : Tx} {i : Nat} (hi : i < l.length) : (⟨l.toArray⟩ : ByteArray).extract i (i + 1) = ⟨#[l[i]]⟩ := by
  apply ByteArray.ext
  rw [ByteArray.data_extract]
  apply Array.ext
  · simp; omega
  · intro j h1 h2
    simp at h1 h2
    obtain rfl : j = 0 := by omega
    simp
theorem addC_len {ws : List Tx} (h : ws ≠ []) (c : UInt8) : (addC ws c).length ≤ ws.length + 1 := by
  unfold addC
  have := List.length_pos_iff.2 h
  split
  · simp
  · simp
/-- The last word grows. -/
theorem addC_set {ws : List Tx} {m : Nat} (h : ws.length = m + 1) {c : UInt8} (hc : c ≠ 32) {x : Tx} (hx : ws[m]? = some x) : addC ws c = ws.set m (x ++ [c]) := by
  unfold addC
  rw [if_neg hc]
  have hl : ws.getLast? = some x := by rw [List.getLast?_eq_getElem?, h]; exact hx
  rw [hl]
  have hne : ws ≠ [] := fun e => by rw [e] at h; simp at h
  apply List.ext_getElem?
  intro j
  by_cases hj : j = m
  · subst hj
    rw [List.getElem?_set_self (by omega), List.getElem?_append_right (by simp [h])]
    simp [h]
  · rw [List.getElem?_set_ne (fun e => hj e.symm)]
    by_cases hj2 : j < m
    · rw [List.getElem?_append_left (by simp [h]; omega)]
      rw [List.getElem?_dropLast]
      exact if_pos (by omega)
    · rw [List.getElem?_eq_none (by simp [h]; omega), List.getElem?_eq_none (by omega)]
theorem split_tx (l : Tx) : ∀ x ∈ splitT l, x.length ≤ l.length := by
  induction l with
  | nil => intro x hx; simp [splitT] at hx; subst hx; simp
  | cons c r ih =>
    intro x hx
    by_cases hc : c = 32
    · rw [splitT, if_pos hc] at hx
      rcases List.mem_cons.1 hx with rfl | hx
      · simp
      · have := ih x hx; simp only [List.length_cons]; omega
    · cases hs : splitT r with
      | nil => exact absurd hs (split_ne r)
      | cons h t =>
        rw [splitT, if_neg hc, hs] at hx
        rw [hs] at ih
        rcases List.mem_cons.1 hx with rfl | hx
        · have := ih h (by simp); simp only [List.length_cons]; omega
        · have := ih x (by simp [hx]); simp only [List.length_cons]; omega

set_option maxRecDepth 100000 in
set_option maxHeartbeats 3200000 in
theorem cr_words (l : Tx) (hl : l.length ≤ 400000) (w : World) :
    Calls Tryz.prog 31 #[encStr l] w fun e w' => ∃ v, e = .returned v ∧ OwnE txE w' w.heap.size 9 v (splitT l) ∧ Same w w' := by
  obtain ⟨base, hbase⟩ : ∃ b, w.heap.size = b := ⟨_, rfl⟩
  have HB := Lib.hid hbase
  go_enter Tryz.func31, Tryz.ntmps31
  go_wp2_with fail
  clear hbase
  have kA : Same w (w.alloc (.cells #[encStr []] 9)) := (Kept.refl _ w).alloc _
  have o0 : OwnE txE (w.alloc (.cells #[encStr []] 9)) base 9 (.slice (some ⟨base, 0, none⟩) 1 1) [[]] := by
    have hb : Blk (w.alloc (.cells #[encStr []] 9)) base #[encStr []] 9 := Blk.new' _ _ _ HB.out.symm
    exact ⟨rfl, .inr ⟨base, 1, _, rfl, Nat.le_refl _, hb, by decide, by decide, rfl, rfl⟩⟩
  go_loopw [3, 4] (fun v t wr => ∃ i : Nat, t = .int .i64 i ∧ i ≤ l.length ∧ OwnE txE wr base 9 v (splitT (l.take i)) ∧ Same w wr) (fun _ t _ => l.length - (intOf t).toNat)
  case atStart => exact ⟨0, rfl, by omega, o0, kA⟩
  case round =>
    obtain ⟨i, rfl, hi, ho, hk⟩ := hrel
    have HO := Lib.hid ho; have HK := Lib.hid hk
    clear ho hk
    by_cases hgo : i < l.length
    · have g1 : (i : Int) < (l.length : Int) := by omega
      have g0 : (0 : Int) ≤ (i : Int) := by omega
      obtain ⟨c, hc⟩ : ∃ c, l[i] = c := ⟨_, rfl⟩
      have hy := str_at hgo (congrArg UInt8.toNat hc)
      have hs := split_at l hgo
      rw [hc] at hs
      have hln := split_len (l.take i)
      rw [List.length_take] at hln
      have hne := split_ne (l.take i)
      have hxl := split_tx (l.take i)
      obtain ⟨ws, hws⟩ : ∃ ws, splitT (l.take i) = ws := ⟨_, rfl⟩
      rw [hws] at hs HO hln hne hxl
      have HS := Lib.hid hs
      clear hs
      have hbs : base ≤ wr.heap.size := by have := HK.out.size; have := HB.out; omega
      by_cases h32 : c = 32
      · subst h32
        have EA := Lib.hid (show addC ws 32 = ws ++ [[]] by unfold addC; rw [if_pos rfl])
        obtain ⟨v5, w5, hrun, o5, k5⟩ := tx_push HO.out hbs [] (by omega)
        obtain ⟨aok, aV, aW⟩ := app_of hrun
        have K5 := Lib.hid (HK.out.step k5 (fun j hj q => by have := (HO.out.far j q).1; have := HB.out; omega))
        have O5 := Lib.hid o5
        clear hrun o5 k5 HO HK
        go_wp2_with fail
        go_roundw
        case rel => exact ⟨i + 1, by go_num, by omega, by rw [HS.out, EA.out]; exact O5.out, K5.out⟩
        case measure => simp [intOf]; omega
      · have n32 : ((c.toNat : Int) == 32) = false := by
          simp only [beq_eq_false_iff_ne]
          intro e
          exact h32 (UInt8.toNat_inj.1 (show c.toNat = 32 by omega))
        obtain ⟨m, hm⟩ : ∃ m, ws.length = m + 1 := ⟨ws.length - 1, by have := List.length_pos_iff.2 hne; omega⟩
        obtain ⟨x, hx⟩ : ∃ x, ws[m]? = some x := ⟨_, List.getElem?_eq_getElem (by omega)⟩
        have hxlen := hxl x (List.mem_of_getElem? hx)
        rw [List.length_take] at hxlen
        have EA := Lib.hid (addC_set hm h32 hx)
        obtain ⟨g, cap, cur, rfl, hg, hb, hcap, hmax, hsz, htake⟩ := HO.out.read hne
        have os := HO.out.set (k := m) (by omega) (x ++ [c])
        rw [show m * txE.n = m from Nat.mul_one m] at os
        have OS := Lib.hid (show OwnE txE (wr.setCell ⟨g, m, none⟩ (.string ⟨(x ++ [c]).toArray⟩)).drew base 9 (.slice (some ⟨g, 0, none⟩) ws.length cap) (ws.set m (x ++ [c])) from OwnE.same (w := wr.setCell ⟨g, m, none⟩ (.string ⟨(x ++ [c]).toArray⟩)) os (Kept.refl _ _).drew)
        have KS := Lib.hid (show Same w (wr.setCell ⟨g, m, none⟩ (.string ⟨(x ++ [c]).toArray⟩)).drew from (HK.out.setCell (p := ⟨g, m, none⟩) (fun h => by have := HB.out; have hg' : g < w.heap.size := h; omega) _).drew)
        rw [hm] at OS
        clear os
        have HC := Lib.hid (show ∀ w', Same wr w' → w'.cell? ⟨g, m, none⟩ = some (encStr x) from fun w' k => by
          obtain ⟨b', off', e, _, hcl⟩ := tx_cell (HO.out.same k).at.1 hx
          cases e
          rw [Nat.zero_add] at hcl
          exact hcl)
        have p0 := HC.out _ (Kept.refl _ _)
        have f0 := hb.free m
        have hlt := hb.lt
        rw [hm]
        have hx1 := str_one hgo
        rw [hc] at hx1
        have hs1 := str_snoc x c
        have hd1 : x.length + 1 ≤ 9223372036854775807 := by omega
        have g2 : (i : Int) + 1 ≤ (l.length : Int) := by omega
        have hwm : ((m + 1 : Nat) : Int) - 1 = (m : Int) := by omega
        have hwi : IntKind.i64.wrap ((i : Int) + 1) = ((i + 1 : Nat) : Int) := by rw [IntKind.wrap_i64]; omega
        have hwm0 : IntKind.i64.wrap (m : Int) = (m : Int) := by rw [IntKind.wrap_i64]; omega
        have hm0 : (0 : Int) ≤ (m : Int) := by omega
        have hd2 : ¬ 9223372036854775807 < x.length + 1 := by omega
        have gi1 : (0 : Int) ≤ (i : Int) + 1 := by omega
        have gi2 : (i : Int) ≤ (i : Int) + 1 := by omega
        have hme2 : (m : Int) < (m : Int) + 1 := by omega
        have hme : ((m : Nat) : Int) < ((m + 1 : Nat) : Int) := by omega
        clear HO hws hxl hne htake hsz hb hc
        go_upto_region 7 with fail
        refine wp_region_T (S := fun w' => Same wr w') 17 (by kernel_rfl) (Kept.refl _ _).drew (fun hHeld hDn => ?_)
        refine wpT_zs 0 19 hHeld hDn fun hDn => ?_
        refine wpT_zs 1 20 hHeld hDn fun hDn => ?_
        refine wpT_zs 2 21 hHeld hDn fun hDn => ?_
        refine wpT_zs 3 22 hHeld hDn fun hDn => ?_
        refine wpT_zs 4 23 hHeld hDn fun hDn => ?_
        refine wpT_zs 5 24 hHeld hDn fun hDn => ?_
        refine wpT_zs 6 25 hHeld hDn fun hDn => ?_
        refine wpT_zs 7 26 hHeld hDn fun hDn => ?_
        refine wpT_zs 8 27 hHeld hDn fun hDn => ?_
        refine wpT_zs 9 28 (v := encStr x) hHeld hDn (fun hDn => ?_) (hv := by intro w hSw; have hc := HC.out w hSw; go_simp)
        refine wpT_zs 10 29 hHeld hDn fun hDn => ?_
        refine wpT_zs 11 30 hHeld hDn fun hDn => ?_
        refine wpT_zs 12 31 hHeld hDn fun hDn => ?_
        refine wpT_zs 13 32 hHeld hDn fun hDn => ?_
        refine wpT_zs 14 33 hHeld hDn fun hDn => ?_
        refine wpT_zs 15 34 hHeld hDn fun hDn => ?_
        refine wpT_zs 16 35 hHeld hDn fun hDn => ?_
        refine wpT_last rfl (by kernel_rfl) hDn (fun K hK => ?_)
        go_simp
        refine hK.out _ _ (fun hDn' => ?_)
        clear hK K hDn hHeld; have hDn := hDn'; clear hDn'
        refine wpT_done (by kernel_rfl) ?_ _
        clear hDn
        go_wp2_with fail
        go_roundw
        case rel => exact ⟨i + 1, by go_num, by omega, by rw [HS.out, EA.out]; exact OS.out, KS.out⟩
        case measure => simp [intOf]; omega
    · have g1 : ¬ (i : Int) < (l.length : Int) := by omega
      have e : i = l.length := by omega
      subst e
      rw [List.take_length] at HO
      go_wp2_with fail
      go_ret
      exact ⟨_, rfl, by rw [HB.out]; exact HO.out, HK.out⟩
end Go.Proofs.YtnjmdldhgconmaaGreatDoor
