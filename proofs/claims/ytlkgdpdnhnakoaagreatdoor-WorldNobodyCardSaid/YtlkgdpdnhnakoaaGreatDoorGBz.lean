/- GBz: Bm5, Bm6, Bm4. -/
import Derived.Test.YtlkgdpdnhnakoaaGreatDoorGBmA
import Derived.Test.YtlkgdpdnhnakoaaGreatDoorBits
import Derived.Test.YtlkgdpdnhnakoaaGreatDoorBmBits
import Derived.Test.YtlkgdpdnhnakoaaGreatDoorGFm
import Derived.Lib.MinMax
namespace Go.Proofs.YtlkgdpdnhnakoaaGreatDoor
open Go.RowKit
/-- A number that is told, or none. -/
abbrev foundV (r : Option Nat) : Value := .tuple #[.int .i64 ((r.getD 0 : Nat) : Int), .bool r.isSome]
end Go.Proofs.YtlkgdpdnhnakoaaGreatDoor
namespace Go.Proofs.YtlkgdpdnhnakoaaGreatDoor
open Go.RowKit
/-- The word that Next looks at. -/
def look (x : Nat) (on : Bool) : Nat := if on then x else 18446744073709551615 - x
theorem look_lt (x : Nat) (on : Bool) (hx : x < 18446744073709551616) : look x on < 18446744073709551616 := by
  unfold look; split <;> omega
theorem look_bit (x : Nat) (on : Bool) (hx : x < 18446744073709551616) (b : Nat) (hb : b < 64) : (look x on).testBit b = (x.testBit b == on) := by
  unfold look
  cases on
  · rw [if_neg (by simp), show 18446744073709551615 - x = 2 ^ 64 - (x + 1) from by omega, Nat.testBit_two_pow_sub_succ hx]
    simp [hb]
  · simp
/-- All ones but the d lowest bits. -/
def high (d : Nat) : Nat := 18446744073709551616 - 2 ^ d
theorem pow64 {d : Nat} (hd : d < 64) : 2 ^ d < 18446744073709551616 := by
  have : 2 ^ d < 2 ^ 64 := Nat.pow_lt_pow_right (by decide) hd
  simpa using this
theorem high_lt (d : Nat) : high d < 18446744073709551616 := by have := Nat.two_pow_pos d; unfold high; omega
theorem high_bit (d : Nat) (hd : d < 64) (b : Nat) (hb : b < 64) : (high d).testBit b = decide (d ≤ b) := by
  have hp := Nat.two_pow_pos d
  have hl := pow64 hd
  rw [high, show 18446744073709551616 - 2 ^ d = 2 ^ 64 - ((2 ^ d - 1) + 1) from by omega, Nat.testBit_two_pow_sub_succ (by omega), Nat.testBit_two_pow_sub_one]
  by_cases h : b < d
  · have : ¬ d ≤ b := by omega
    simp [hb, h, this]
  · have : d ≤ b := by omega
    simp [hb, h, this]
theorem high_eq (d : Nat) (hd : d < 64) : IntKind.u64.wrap (18446744073709551615 * 2 ^ d) = ((high d : Nat) : Int) := by
  have hp := Nat.two_pow_pos d
  have hl := pow64 hd
  have e : ((2 ^ d : Nat) : Int) = (2 : Int) ^ d := Int.natCast_pow 2 d
  rw [IntKind.wrap_u64, ← e]
  unfold high
  generalize 2 ^ d = y at *
  omega
/-- What was looked at, and is not it. -/
def Past (s : Nat) (ws : List Nat) (f : Nat) (on : Bool) (n : Nat) : Prop := ∀ j, f ≤ j → j < n → j < s → bitN ws j = !on
/-- No number of the word is found: the word is zero. -/
theorem next_skip {s : Nat} {ws : List Nat} {f : Nat} {on : Bool} {i d : Nat} (hx : ws.getD i 0 < 18446744073709551616) (hd : d < 64) (hz : look (ws.getD i 0) on &&& high d = 0)
    (hp : Past s ws f on (64 * i + d)) : Past s ws f on (64 * (i + 1)) := by
  intro j h1 h2 h3
  by_cases h : j < 64 * i + d
  · exact hp j h1 h h3
  · obtain ⟨b, rfl⟩ : ∃ b, j = 64 * i + b := ⟨j - 64 * i, by omega⟩
    have hb : b < 64 := by omega
    rw [bitN_at ws i b hb]
    have t : (look (ws.getD i 0) on &&& high d).testBit b = false := by rw [hz]; simp
    rw [Nat.testBit_and, look_bit _ _ hx b hb, high_bit d hd b hb] at t
    have : d ≤ b := by omega
    simp [this] at t
    cases on <;> simpa using t
/-- The lowest one is the next. -/
theorem next_here {s : Nat} {ws : List Nat} {f : Nat} {on : Bool} {i d : Nat} (hx : ws.getD i 0 < 18446744073709551616) (hd : d < 64) (hf : f ≤ 64 * i + d) (hz : look (ws.getD i 0) on &&& high d ≠ 0)
    (hp : Past s ws f on (64 * i + d)) :
    Lib.ctz 64 (look (ws.getD i 0) on &&& high d) < 64 ∧ f ≤ 64 * i + Lib.ctz 64 (look (ws.getD i 0) on &&& high d) ∧ bitN ws (64 * i + Lib.ctz 64 (look (ws.getD i 0) on &&& high d)) = on ∧
      Past s ws f on (64 * i + Lib.ctz 64 (look (ws.getD i 0) on &&& high d)) := by
  obtain ⟨c1, c2, c3, _⟩ := ctz_low _ hz (Nat.lt_of_le_of_lt Nat.and_le_left (look_lt _ _ hx))
  have t : ∀ b, b < 64 → (look (ws.getD i 0) on &&& high d).testBit b = ((bitN ws (64 * i + b) == on) && decide (d ≤ b)) := fun b hb => by
    rw [Nat.testBit_and, look_bit _ _ hx b hb, high_bit d hd b hb, bitN_at ws i b hb]
  generalize look (ws.getD i 0) on &&& high d = y at *
  generalize Lib.ctz 64 y = c at *
  rw [t c c1] at c2
  simp at c2
  refine ⟨c1, by omega, c2.1, ?_⟩
  intro j h1 h2 h3
  by_cases h : j < 64 * i + d
  · exact hp j h1 h h3
  · obtain ⟨b, rfl⟩ : ∃ b, j = 64 * i + b := ⟨j - 64 * i, by omega⟩
    have u := c3 b (by omega)
    rw [t b (by omega)] at u
    have : d ≤ b := by omega
    simp [this] at u
    cases on <;> simpa using u
theorem high_none (y : Nat) (hy : y < 18446744073709551616) : y &&& high 0 = y := by
  apply Nat.eq_of_testBit_eq
  intro b
  rw [Nat.testBit_and]
  by_cases hb : b < 64
  · rw [high_bit 0 (by omega) b hb]; simp
  · have : y.testBit b = false := by
      rw [Nat.testBit_lt_two_pow]
      exact Nat.lt_of_lt_of_le hy (by have : 2 ^ 64 ≤ 2 ^ b := Nat.pow_le_pow_right (by decide) (by omega); simpa using this)
    rw [this]; rfl
set_option maxRecDepth 100000 in
set_option maxHeartbeats 400000 in
theorem bm_next_low (s : Int) (a : Option Addr) (cap : Nat) (ws : List Nat) (f F : Int) (hF : max f 0 = F) (on : Bool) (w : World) (h : inB s ws F = false) (hat : NatsAt w .u64 a ws) :
    Calls Tryz.prog 390 #[mapV s a ws.length cap, .int .i64 f, .bool on] w fun e w' => e = .returned (foundV none) ∧ Same w w' := by
  have CK := Lib.hid fun w' (k : NatsAt w' .u64 a ws) => (bm_in s a cap ws F w' k).mono (R' := fun e w'' => e = .returned (.bool false) ∧ Same w' w'') fun _ _ k => by rw [h] at k; exact k
  have HA := Lib.hid hat; clear hat h
  generalize ws.length = l at *
  go_enter Tryz.func390, Tryz.ntmps390
  go_wp2_with fail
  refine Calls.boxes1 ?_
  intro W g1 k1 _
  refine (CK.out W (HA.out.same k1)).mono ?_
  rintro e w2 ⟨rfl, k2⟩
  have K := Lib.hid (k1.trans k2)
  clear g1 k1 k2
  go_wp2
  exact bodyPost_ret (v := foundV none) (by simp [results, Tryz.results390, go_sem]) rfl ⟨rfl, K.out⟩
theorem u64_max : IntKind.u64.max = ((18446744073709551615 : Nat) : Int) := by decide
theorem xor_max (x : Nat) (hx : x < 18446744073709551616) : bits .xor .u64 IntKind.u64.max (x : Int) = ((look x false : Nat) : Int) := by
  rw [u64_max, u64_xor_nat 18446744073709551615 x (by omega) hx]
  congr 1
  apply Nat.eq_of_testBit_eq
  intro b
  rw [Nat.testBit_xor]
  by_cases hb : b < 64
  · rw [look_bit x false hx b hb, show 18446744073709551615 = 2 ^ 64 - 1 from by decide, Nat.testBit_two_pow_sub_one]
    simp [hb]
  · have t : ∀ z, z < 18446744073709551616 → z.testBit b = false := fun z hz => by
      rw [Nat.testBit_lt_two_pow]
      exact Nat.lt_of_lt_of_le hz (by have : 2 ^ 64 ≤ 2 ^ b := Nat.pow_le_pow_right (by decide) (by omega); simpa using this)
    rw [t x hx, t _ (look_lt x false hx), t _ (by omega)]
    rfl
theorem and_high (x d : Nat) (hx : x < 18446744073709551616) (hd : d < 64) : bits .and .u64 (x : Int) (IntKind.u64.wrap (18446744073709551615 * 2 ^ d)) = ((x &&& high d : Nat) : Int) := by
  rw [high_eq d hd]
  exact u64_and_nat x (high d) hx (high_lt d)
/-- A round of Next. -/
theorem next_facts {s : Nat} {ws : List Nat} {F : Nat} {on : Bool} {k x y : Nat} (hk : F / 64 ≤ k) (hx : ws.getD k 0 = x) (hx64 : x < 18446744073709551616) (hp : Past s ws F on (if k = F / 64 then F else 64 * k))
    (hy : y = look x on &&& high (if k = F / 64 then F % 64 else 0)) :
    (y = 0 → Past s ws F on (if k + 1 = F / 64 then F else 64 * (k + 1))) ∧ (y ≠ 0 → Lib.ctz 64 y < 64 ∧ F ≤ 64 * k + Lib.ctz 64 y ∧ bitN ws (64 * k + Lib.ctz 64 y) = on ∧ Past s ws F on (64 * k + Lib.ctz 64 y)) := by
  subst hx
  have hd : (if k = F / 64 then F % 64 else 0) < 64 := by split <;> omega
  have e : (if k = F / 64 then F else 64 * k) = 64 * k + (if k = F / 64 then F % 64 else 0) := by split <;> omega
  rw [e] at hp
  rw [if_neg (show ¬ k + 1 = F / 64 by omega)]
  have hF : F ≤ 64 * k + (if k = F / 64 then F % 64 else 0) := by split <;> omega
  generalize (if k = F / 64 then F % 64 else 0) = d at *
  subst hy
  exact ⟨fun h => next_skip hx64 hd h hp, fun h => next_here hx64 hd hF h hp⟩
set_option maxRecDepth 100000 in
set_option maxHeartbeats 800000 in
theorem bm_next_pos (s : Nat) (a : Option Addr) (cap : Nat) (ws : List Nat) (f : Int) (F : Nat) (hF : max f 0 = (F : Int)) (on : Bool) (w : World) (hw : Words ws) (h : inB s ws F = true) (hT : TabOK w) (hat : NatsAt w .u64 a ws) :
    Calls Tryz.prog 390 #[mapV s a ws.length cap, .int .i64 f, .bool on] w fun e w' => ∃ r, e = .returned (foundV r) ∧ NextSpec s ws F on r ∧ Same w w' := by
  have CK := Lib.hid fun w' (k : NatsAt w' .u64 a ws) => (bm_in s a cap ws F w' k).mono (R' := fun e w'' => e = .returned (.bool true) ∧ Same w' w'') fun _ _ k => by rw [h] at k; exact k
  obtain ⟨i0, i1, i2, i3, i4⟩ := inB_index h
  have hm : mapOK s ws = true := by simp only [inB, Bool.and_eq_true] at h; exact h.1
  have h2 := mapOK_len hm
  rw [Int.toNat_natCast] at h2
  rw [Int.toNat_natCast] at i3
  have hFs : F < s := by omega
  have hs : s ≤ 4096 := by omega
  have HA := Lib.hid hat; clear hat
  have HT := Lib.hid hT; clear hT
  have HW := Lib.hid hw; clear hw
  have HM := Lib.hid hm; clear hm h i0 i1 i2
  have hl1 : s ≤ 64 * ws.length := by omega
  have HS := Lib.hid h2; clear h2
  generalize hlen : ws.length = l at CK i3 i4 hl1 HS ⊢
  have HLen := Lib.hid hlen; clear hlen
  go_enter Tryz.func390, Tryz.ntmps390
  go_wp2_with fail
  refine Calls.boxes1 ?_
  intro W g1 k1 _
  refine (CK.out W (HA.out.same k1)).mono ?_
  rintro e w2 ⟨rfl, k2⟩
  have K := Lib.hid (k1.trans k2)
  have G1 := g1.kept k2 (fun h => h)
  have q0 : w2.cell? ⟨w.heap.size, 0, none⟩ = some (.int .i64 s) := G1.cell 0 rfl
  have q1 : w2.cell? ⟨w.heap.size, 1, none⟩ = some (.slice a l cap) := G1.cell 1 rfl
  have A2 := Lib.hid (HA.out.same K.out)
  have T2 := Lib.hid (HT.out.same K.out)
  clear g1 k1 k2 G1 HA HT CK
  go_wp2_with fail
  go_loop [8, 9, 10] (fun i y n => ∃ (k : Nat) (v1 v2 : Value), F / 64 ≤ k ∧ k ≤ l ∧ Hid (Past s ws F on (if k = F / 64 then F else 64 * k)) ∧ i = .int .i64 (k : Nat) ∧ y = v1 ∧ n = v2) (fun i _ _ => l - (intOf i).toNat)
  case atStart => exact ⟨F / 64, _, _, Nat.le_refl _, by omega, (by show Past s ws F on _; intro j h1 h2; rw [if_pos rfl] at h2; omega), rfl, rfl, rfl⟩
  case round =>
    obtain ⟨k, v1, v2, hk1, hk2, hp, rfl, rfl, rfl⟩ := hrel
    by_cases hlt : k < l
    · obtain ⟨b, off, x, rfl, hb, hx, hc⟩ := A2.out.at (i := k) (by rw [HLen.out]; omega)
      have hx' : ws.getD k 0 = x := by rw [List.getD, hx]; rfl
      have hx64 := HW.out x (List.mem_of_getElem? hx)
      have HX := Lib.hid hx'
      have HX64 := Lib.hid hx64
      clear hx hx' hb
      cases on
      · have EX := xor_max x hx64
        have hz64 := look_lt x false hx64
        have hze : Hid (look x false = look x false) := rfl
        obtain ⟨z, hz⟩ : ∃ z, look x false = z := ⟨_, rfl⟩
        rw [hz] at EX hz64
        have HZ := Lib.hid hz; clear hz hze
        by_cases hkF : k = F / 64
        · have NF : Hid _ := next_facts hk1 HX.out HX64.out hp.out (y := z &&& high (F % 64)) (by rw [HZ.out, if_pos hkF])
          subst hkF
          have EY := and_high z (F % 64) hz64 (by omega)
          have hy64 := Nat.lt_of_le_of_lt (Nat.and_le_left (n := z) (m := high (F % 64))) hz64
          generalize z &&& high (F % 64) = y at *
          have TZ := Lib.hid (bits_tz y w2 hy64 T2.out)
          have hsig : IntKind.u64.signed = false := rfl
          by_cases hy0 : y = 0
          · have P := Lib.hid (NF.out.1 hy0)
            have hb0 : ((y : Int) != 0) = false := by rw [hy0]; rfl
            clear hy0
            generalize Lib.ctz 64 y = c at *
            go_wp2_with (first | rw [EX] | rw [EY] | (go_at_call 443; refine TZ.out.mono ?_; rintro e w3 ⟨rfl, rfl⟩))
            go_roundw
            case rel => exact ⟨(F / 64) + 1, _, _, by omega, by omega, P.out, by go_num, rfl, rfl⟩
            case measure => simp [intOf]; omega
          · obtain ⟨c1, c2, c3, c4⟩ := NF.out.2 hy0
            have C2 := Lib.hid c2; have C3 := Lib.hid c3; have C4 := Lib.hid c4
            clear c2 c3 c4
            have hb0 : ((y : Int) != 0) = true := by simpa using hy0
            clear hy0
            generalize Lib.ctz 64 y = c at *
            by_cases hn : 64 * (F / 64) + c < s
            · go_wp2_with (first | rw [EX] | rw [EY] | (go_at_call 443; refine TZ.out.mono ?_; rintro e w3 ⟨rfl, rfl⟩))
              refine bodyPost_ret (v := foundV (some (64 * (F / 64) + c))) (by simp [results, Tryz.results390, go_sem]; omega) rfl ?_
              exact ⟨_, rfl, ⟨HM.out, by have := C2.out; omega, by omega, C3.out, fun j h1 h2 => C4.out j (by omega) h2 (by omega)⟩, K.out⟩
            · have P : Hid (Past s ws F false (if (F / 64) + 1 = F / 64 then F else 64 * ((F / 64) + 1))) := by
                show Past _ _ _ _ _
                rw [if_neg (show ¬ (F / 64) + 1 = F / 64 by omega)]
                intro j h1 h2 h3
                exact C4.out j h1 (by omega) h3
              go_wp2_with (first | rw [EX] | rw [EY] | (go_at_call 443; refine TZ.out.mono ?_; rintro e w3 ⟨rfl, rfl⟩))
              go_roundw
              case rel => exact ⟨(F / 64) + 1, _, _, by omega, by omega, P.out, by go_num, rfl, rfl⟩
              case measure => simp [intOf]; omega
        · have NF : Hid _ := next_facts hk1 HX.out HX64.out hp.out (y := z) (by rw [HZ.out, if_neg hkF, high_none _ hz64])
          have hkF' : ¬ (k : Int) = (F : Int) / 64 := by omega
          have EY := EX
          have hy64 := hz64
          generalize z = y at *
          have TZ := Lib.hid (bits_tz y w2 hy64 T2.out)
          have hsig : IntKind.u64.signed = false := rfl
          by_cases hy0 : y = 0
          · have P := Lib.hid (NF.out.1 hy0)
            have hb0 : ((y : Int) != 0) = false := by rw [hy0]; rfl
            clear hy0
            generalize Lib.ctz 64 y = c at *
            go_wp2_with (first | rw [EX] | rw [EY] | (go_at_call 443; refine TZ.out.mono ?_; rintro e w3 ⟨rfl, rfl⟩))
            go_roundw
            case rel => exact ⟨k + 1, _, _, by omega, by omega, P.out, by go_num, rfl, rfl⟩
            case measure => simp [intOf]; omega
          · obtain ⟨c1, c2, c3, c4⟩ := NF.out.2 hy0
            have C2 := Lib.hid c2; have C3 := Lib.hid c3; have C4 := Lib.hid c4
            clear c2 c3 c4
            have hb0 : ((y : Int) != 0) = true := by simpa using hy0
            clear hy0
            generalize Lib.ctz 64 y = c at *
            by_cases hn : 64 * k + c < s
            · go_wp2_with (first | rw [EX] | rw [EY] | (go_at_call 443; refine TZ.out.mono ?_; rintro e w3 ⟨rfl, rfl⟩))
              refine bodyPost_ret (v := foundV (some (64 * k + c))) (by simp [results, Tryz.results390, go_sem]; omega) rfl ?_
              exact ⟨_, rfl, ⟨HM.out, by have := C2.out; omega, by omega, C3.out, fun j h1 h2 => C4.out j (by omega) h2 (by omega)⟩, K.out⟩
            · have P : Hid (Past s ws F false (if k + 1 = F / 64 then F else 64 * (k + 1))) := by
                show Past _ _ _ _ _
                rw [if_neg (show ¬ k + 1 = F / 64 by omega)]
                intro j h1 h2 h3
                exact C4.out j h1 (by omega) h3
              go_wp2_with (first | rw [EX] | rw [EY] | (go_at_call 443; refine TZ.out.mono ?_; rintro e w3 ⟨rfl, rfl⟩))
              go_roundw
              case rel => exact ⟨k + 1, _, _, by omega, by omega, P.out, by go_num, rfl, rfl⟩
              case measure => simp [intOf]; omega
      · by_cases hkF : k = F / 64
        · have NF : Hid _ := next_facts hk1 HX.out HX64.out hp.out (y := x &&& high (F % 64)) (by rw [if_pos hkF]; rfl)
          subst hkF
          have EY := and_high x (F % 64) hx64 (by omega)
          have EX := EY
          have hy64 := Nat.lt_of_le_of_lt (Nat.and_le_left (n := x) (m := high (F % 64))) hx64
          generalize x &&& high (F % 64) = y at *
          have TZ := Lib.hid (bits_tz y w2 hy64 T2.out)
          have hsig : IntKind.u64.signed = false := rfl
          by_cases hy0 : y = 0
          · have P := Lib.hid (NF.out.1 hy0)
            have hb0 : ((y : Int) != 0) = false := by rw [hy0]; rfl
            clear hy0
            generalize Lib.ctz 64 y = c at *
            go_wp2_with (first | rw [EX] | rw [EY] | (go_at_call 443; refine TZ.out.mono ?_; rintro e w3 ⟨rfl, rfl⟩))
            go_roundw
            case rel => exact ⟨(F / 64) + 1, _, _, by omega, by omega, P.out, by go_num, rfl, rfl⟩
            case measure => simp [intOf]; omega
          · obtain ⟨c1, c2, c3, c4⟩ := NF.out.2 hy0
            have C2 := Lib.hid c2; have C3 := Lib.hid c3; have C4 := Lib.hid c4
            clear c2 c3 c4
            have hb0 : ((y : Int) != 0) = true := by simpa using hy0
            clear hy0
            generalize Lib.ctz 64 y = c at *
            by_cases hn : 64 * (F / 64) + c < s
            · go_wp2_with (first | rw [EX] | rw [EY] | (go_at_call 443; refine TZ.out.mono ?_; rintro e w3 ⟨rfl, rfl⟩))
              refine bodyPost_ret (v := foundV (some (64 * (F / 64) + c))) (by simp [results, Tryz.results390, go_sem]; omega) rfl ?_
              exact ⟨_, rfl, ⟨HM.out, by have := C2.out; omega, by omega, C3.out, fun j h1 h2 => C4.out j (by omega) h2 (by omega)⟩, K.out⟩
            · have P : Hid (Past s ws F true (if (F / 64) + 1 = F / 64 then F else 64 * ((F / 64) + 1))) := by
                show Past _ _ _ _ _
                rw [if_neg (show ¬ (F / 64) + 1 = F / 64 by omega)]
                intro j h1 h2 h3
                exact C4.out j h1 (by omega) h3
              go_wp2_with (first | rw [EX] | rw [EY] | (go_at_call 443; refine TZ.out.mono ?_; rintro e w3 ⟨rfl, rfl⟩))
              go_roundw
              case rel => exact ⟨(F / 64) + 1, _, _, by omega, by omega, P.out, by go_num, rfl, rfl⟩
              case measure => simp [intOf]; omega
        · have NF : Hid _ := next_facts hk1 HX.out HX64.out hp.out (y := x) (by rw [if_neg hkF, high_none _ (look_lt _ _ hx64)]; rfl)
          have hkF' : ¬ (k : Int) = (F : Int) / 64 := by omega
          have EX := u64_max
          have EY := u64_max
          have hy64 := hx64
          generalize x = y at *
          have TZ := Lib.hid (bits_tz y w2 hy64 T2.out)
          have hsig : IntKind.u64.signed = false := rfl
          by_cases hy0 : y = 0
          · have P := Lib.hid (NF.out.1 hy0)
            have hb0 : ((y : Int) != 0) = false := by rw [hy0]; rfl
            clear hy0
            generalize Lib.ctz 64 y = c at *
            go_wp2_with (first | rw [EX] | rw [EY] | (go_at_call 443; refine TZ.out.mono ?_; rintro e w3 ⟨rfl, rfl⟩))
            go_roundw
            case rel => exact ⟨k + 1, _, _, by omega, by omega, P.out, by go_num, rfl, rfl⟩
            case measure => simp [intOf]; omega
          · obtain ⟨c1, c2, c3, c4⟩ := NF.out.2 hy0
            have C2 := Lib.hid c2; have C3 := Lib.hid c3; have C4 := Lib.hid c4
            clear c2 c3 c4
            have hb0 : ((y : Int) != 0) = true := by simpa using hy0
            clear hy0
            generalize Lib.ctz 64 y = c at *
            by_cases hn : 64 * k + c < s
            · go_wp2_with (first | rw [EX] | rw [EY] | (go_at_call 443; refine TZ.out.mono ?_; rintro e w3 ⟨rfl, rfl⟩))
              refine bodyPost_ret (v := foundV (some (64 * k + c))) (by simp [results, Tryz.results390, go_sem]; omega) rfl ?_
              exact ⟨_, rfl, ⟨HM.out, by have := C2.out; omega, by omega, C3.out, fun j h1 h2 => C4.out j (by omega) h2 (by omega)⟩, K.out⟩
            · have P : Hid (Past s ws F true (if k + 1 = F / 64 then F else 64 * (k + 1))) := by
                show Past _ _ _ _ _
                rw [if_neg (show ¬ k + 1 = F / 64 by omega)]
                intro j h1 h2 h3
                exact C4.out j h1 (by omega) h3
              go_wp2_with (first | rw [EX] | rw [EY] | (go_at_call 443; refine TZ.out.mono ?_; rintro e w3 ⟨rfl, rfl⟩))
              go_roundw
              case rel => exact ⟨k + 1, _, _, by omega, by omega, P.out, by go_num, rfl, rfl⟩
              case measure => simp [intOf]; omega
    · have e : k = l := by omega
      subst e
      have R : Hid (NextSpec s ws F on none) := by
        intro _ j h1 h2
        have := hp.out
        rw [if_neg (show ¬ k = F / 64 by omega)] at this
        exact this j (by omega) (by omega) (by omega)
      go_wp2
      exact bodyPost_ret (v := foundV none) (by simp [results, Tryz.results390, go_sem]) rfl ⟨none, rfl, R.out, K.out⟩
set_option maxRecDepth 100000 in
theorem bm_next (s : Int) (a : Option Addr) (cap : Nat) (ws : List Nat) (f : Int) (on : Bool) (w : World) (hw : Words ws) (hT : TabOK w) (hat : NatsAt w .u64 a ws) :
    Calls Tryz.prog 390 #[mapV s a ws.length cap, .int .i64 f, .bool on] w fun e w' => ∃ r, e = .returned (foundV r) ∧ NextSpec s ws f on r ∧ Same w w' := by
  obtain ⟨F, hF⟩ := Int.eq_ofNat_of_zero_le (show 0 ≤ max f 0 by omega)
  cases hin : inB s ws (F : Int)
  · refine (bm_next_low s a cap ws f F hF on w hin hat).mono fun _ _ h => ⟨none, h.1, ?_, h.2⟩
    intro hm j h1 h2
    simp only [inB, hm, Bool.true_and] at hin
    simp at hin
    omega
  · obtain ⟨i0, i1, i2, i3, i4⟩ := inB_index hin
    have hs : 0 ≤ s := by omega
    obtain ⟨S, rfl⟩ := Int.eq_ofNat_of_zero_le hs
    refine (bm_next_pos S a cap ws f F hF on w hw hin hT hat).mono fun _ _ h => ?_
    obtain ⟨r, h1, h2, h3⟩ := h
    refine ⟨r, h1, ?_, h3⟩
    cases r with
    | none => intro hm j k1 k2; exact h2 hm j (by omega) k2
    | some n => obtain ⟨a1, a2, a3, a4, a5⟩ := h2; exact ⟨a1, by omega, a3, a4, fun j k1 k2 => a5 j (by omega) k2⟩
end Go.Proofs.YtlkgdpdnhnakoaaGreatDoor
namespace Go.Proofs.YtlkgdpdnhnakoaaGreatDoor
open Go.RowKit
theorem cnt_le (ws : List Nat) (n : Nat) : cnt ws n ≤ n := by
  induction n with
  | zero => exact Nat.le_refl _
  | succ n ih => have : (bitN ws n).toNat ≤ 1 := by cases bitN ws n <;> decide
                 simp only [cnt]; omega
end Go.Proofs.YtlkgdpdnhnakoaaGreatDoor
