/- A call on both logs; WalPlays. -/
import Derived.Test.YtlmpkonfclnceaaGreatWd4
import Derived.Test.YtlmpkonfclnceaaGreatWd5
namespace Go.Proofs.YtlmpkonfclnceaaGreat
open Go.RowKit Go.Sort

theorem wd_any {w : World} {x d bs cap m g : Nat} {D : Dsk} {L : Lg} {a : Option Addr} {c : Nat} {ha : Option Addr} {hc : Nat} {wa : Option Addr} {wc : Nat} (h : W10 w x d bs cap m g D L a c ha hc wa wc) (A : A10) (hA : ActD w d bs m A) (hs : A.s.length ≤ 1000000) (hb : Bts A.s) (hne : D.s ≠ []) :
    Calls Tryz.prog 9 #[.pointer (some ⟨x, 0, none⟩), actV A] w (DoW w x d bs cap m g D.s.length) := by
  by_cases h1 : A.k % 8 < 3
  · exact wd_add h A h1 hs hb
  by_cases h2 : A.k % 8 = 3 ∨ A.k % 8 = 4
  · exact wd_sync h A h2
  by_cases h3 : A.k % 8 = 5
  · exact wd_restart h A h3
  by_cases h4 : A.k % 8 = 6
  · exact wd_disk h A h4 hA
  · exact wd_power h A (by omega) hA hne
theorem new30 (q : Nat) (hq : q ≤ 27) : newE (newD 30) 3 (q : Int) 1 = 0 := by
  have h1 : (newD 30).s.length = 30 := by kernel_rfl
  unfold newE
  rw [h1, show (newD 30).off = false from rfl, if_neg (by decide), if_neg (by omega), if_neg (by omega)]
section
attribute [local go_sem ↓] exec_app semAt_app
attribute [local go_sem] isApp_lit appA appX
set_option maxRecDepth 100000 in
set_option maxHeartbeats 4000000 in
theorem play10_any (W : World) (n0 : Nat) (_hn : n0 < 256) (a : Option Addr) (len cap0 : Nat) (A : Nat → A10) (hacts : len = 0 ∨ ∃ b off, a = some ⟨b, off, none⟩ ∧ b < W.heap.size ∧ Acts10 W b off len A) :
    Calls Tryz.prog 3 #[.int .u8 (n0 : Nat), .slice a len cap0] W fun e w' => e = .returned (.bool true) ∧ Same W w' := by
  have FEW := Lib.hid (few10 W a len cap0 40 (by decide) A hacts W (Kept.refl _ _))
  by_cases hr : fewA A len 40 = true
  · rw [hr] at FEW
    obtain ⟨hl40', hsh⟩ := fewA_true hr
    have hl40 : len ≤ 40 := by omega
    have SH := Lib.hid hsh
    have HA := Lib.hid hacts
    obtain ⟨q, hq⟩ : ∃ q, n0 % 28 = q := ⟨_, rfl⟩
    have e28 : (n0 : Int) % 28 = (q : Int) := by omega
    have hq27 : q ≤ 27 := by omega
    have BG := Lib.hid (wd_begun 30 3 (q : Int) (new30 q hq27) (by intro z; have := congrArg List.length z; rw [show (newD 30).s.length = 30 by kernel_rfl] at this; cases this))
    have HLN := Lib.hid (show (newD 30).s.length = 30 by kernel_rfl)
    obtain ⟨D0, hD0⟩ : ∃ D0, newD 30 = D0 := ⟨_, rfl⟩
    obtain ⟨L0, hL0⟩ : ∃ L0, newL 3 (q : Int) 1 = L0 := ⟨_, rfl⟩
    rw [hD0, hL0] at BG
    rw [hD0] at HLN
    clear hr hl40' hsh hacts hq hD0 hL0
    go_enter Tryz.func3, Tryz.ntmps3
    go_wp2_with fail
    with_reducible refine FEW.out.mono ?_
    rintro e w0 ⟨rfl, rfl⟩
    go_wp2_with fail
    with_reducible refine (BG.out _).mono ?_
    rintro e w1 ⟨⟨x, d, bs, cap, m, g0, a0, c0, ha0, hc0, wa0, wc0, rfl, hw, hx1, hd1, hbs1, hm1, hg1⟩, k1⟩
    have HW := Lib.hid hw
    have K1 := Lib.hid k1
    clear hw k1 BG FEW
    go_wp2_with fail
    with_reducible refine (wd_same HW.out).mono ?_
    rintro e w2 ⟨rfl, k2⟩
    have HW2 := Lib.hid (HW.out.same k2)
    have K2 := Lib.hid (K1.out.trans k2)
    clear k2 HW K1
    go_wp2_with fail
    go_loopw [7] (fun t wr => ∃ (i g : Nat) (D : Dsk) (L : Lg) (a1 : Option Addr) (c1 : Nat) (ha : Option Addr) (hc : Nat) (wa : Option Addr) (wc : Nat), t = .int .i64 i ∧ i ≤ len ∧ W10 wr x d bs cap m g D L a1 c1 ha hc wa wc ∧ D.s.length = 30 ∧ w0.heap.size ≤ g ∧ Same w0 wr) (fun t _ => len - (intOf t).toNat)
    case atStart => exact ⟨0, g0, D0, L0, a0, c0, ha0, hc0, wa0, wc0, rfl, Nat.zero_le _, HW2.out, HLN.out, hg1, K2.out⟩
    case round =>
      clear HW2 K2 HLN
      obtain ⟨i, g, D, L, a1, c1, ha, hc, wa, wc, rfl, hi, hw, hdl, hg, hk⟩ := hrel
      have HW := Lib.hid hw
      have K := Lib.hid hk
      have DL := Lib.hid hdl
      clear hw hk hdl
      by_cases hgo : i < len
      · obtain ⟨b, off, rfl, hb, hall⟩ := HA.out.resolve_left (by omega)
        have AC := Lib.hid ((hall i hgo).same K.out hb)
        have SHI := Lib.hid (SH.out i hgo)
        have AT := Lib.hid (hall i hgo).at_
        have hoff : (A i).fs = [] ∨ ∀ y, (A i).fa = some y → ¬ dod d bs m y.block := by
          rcases AT.out with q | ⟨b', o', q, hb', _⟩
          · exact .inl q
          · refine .inr (fun y hy => ?_)
            rw [q] at hy
            cases hy
            rintro (z | z | z) <;> (dsimp only at z; omega)
        have DA := Lib.hid (wd_any HW.out (A i) ⟨AC.out.kb2, AC.out.nb2, AC.out.cb, AC.out.ub, AC.out.fl_, AC.out.fc_, AC.out.fb, AC.out.at_, hoff⟩ (by have := SHI.out; omega) AC.out.sb (by intro z; have := DL.out; rw [z] at this; cases this))
        rw [DL.out] at DA
        unfold actV at DA
        clear hoff AT SHI
        generalize A i = α at *
        obtain ⟨k, s, n, kq, nq, cc, u, dn, fa, fl, fc, fs⟩ := α
        obtain ⟨v0, v1, v2, v3, v4, v5, v6, v7, v8, -, -, -, -, -, -, -, -, -, -, -⟩ := AC.out
        dsimp only at v0 v1 v2 v3 v4 v5 v6 v7 v8 DA
        have g1 : (i : Int) < (len : Int) := by omega
        have gz : (0 : Int) ≤ (i : Int) := by omega
        clear hall AC
        go_wp2_with fail
        with_reducible refine DA.out.mono ?_
        rintro e w5 ⟨g5, D5, L5, a5, c5, ha5, hc5, wa5, wc5, rfl, hdl5, hw5, hg5, k5⟩
        have HW5 := Lib.hid hw5
        have K5 := Lib.hid (K.out.step k5 (fun j hj z => by rcases z with z | z | z | z | z <;> omega))
        have HD5 := Lib.hid hdl5
        have hsz := K.out.size
        clear hw5 k5 hdl5 DA HW K v0 v1 v2 v3 v4 v5 v6 v7 v8
        go_wp2_with fail
        with_reducible refine (wd_same HW5.out).mono ?_
        rintro e w6 ⟨rfl, k6⟩
        go_wp2_with fail
        go_roundw
        case rel => exact ⟨i + 1, g5, D5, L5, a5, _, ha5, hc5, wa5, wc5, by go_num, by omega, HW5.out.same k6, HD5.out, by omega, K5.out.trans k6⟩
        case measure => simp [intOf]; omega
      · have g1 : ¬ (i : Int) < (len : Int) := by omega
        go_wp2_with fail
        with_reducible refine (aw10 _).mono ?_
        rintro e w6 ⟨rfl, k6⟩
        go_wp2_with fail
        go_ret
        exact ⟨rfl, K.out.trans k6⟩
  · have hr' : fewA A len 40 = false := by simpa using hr
    rw [hr'] at FEW
    clear hr hr' hacts
    go_enter Tryz.func3, Tryz.ntmps3
    go_wp2_with fail
    with_reducible refine FEW.out.mono ?_
    rintro e w0 ⟨rfl, rfl⟩
    go_wp2_with fail
    with_reducible refine (aw10 _).mono ?_
    rintro e w6 ⟨rfl, k6⟩
    go_wp2_with fail
    go_ret
    exact ⟨rfl, k6⟩
end
end Go.Proofs.YtlmpkonfclnceaaGreat
