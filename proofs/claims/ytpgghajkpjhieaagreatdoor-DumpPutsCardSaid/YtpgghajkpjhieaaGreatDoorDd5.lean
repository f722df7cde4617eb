/- Dd5: the document reads a dump. -/
import Derived.Test.YtpgghajkpjhieaaGreatDoorDd4
import Derived.Test.YtpgghajkpjhieaaGreatDoorGDo
import Derived.Deep.Cut
import Derived.Shelf.Abstract
namespace Go.Proofs.YtpgghajkpjhieaaGreatDoor
open Go.RowKit Go.Sort

/-- The document's reader in memory. -/
def RdrR (w : World) (g : Nat) (a : Option Addr) (cap : Nat) (xs : List Nat) (er : Nat) : Prop :=
  Blk w g #[.slice a xs.length cap, .int .i64 (er : Nat)] 61 ∧ NatsAt w .u8 a xs ∧ xs.length ≤ cap ∧ cap ≤ 9223372036854775807
theorem RdrR.kept {w w' : World} {g : Nat} {a : Option Addr} {cap : Nat} {xs : List Nat} {er : Nat} {fp : Nat → Prop} (h : RdrR w g a cap xs er) (k : Kept fp w w') (hg : ¬ fp g) (ha : ∀ x, a = some x → ¬ fp x.block) : RdrR w' g a cap xs er :=
  ⟨h.1.kept k hg, h.2.1.kept k ha, h.2.2⟩
theorem rdText_ok {x : List Nat} {e most : Nat} (h : (rdText x e most).2.1 = 0) : e = 0 ∧ (rdText x e most).1.length + 2 ≤ x.length := by
  unfold rdText at h ⊢
  by_cases he : e = 0
  · subst he
    rw [if_neg (by simp)] at h ⊢
    by_cases h2 : (gT x).2.2 = 0
    · rw [if_neg (by simpa using h2)] at h ⊢
      by_cases hm : most < (gT x).1.length
      · rw [if_pos hm] at h; simp at h
      · rw [if_neg hm] at h ⊢
        obtain ⟨q1, q2, -⟩ := gT_ok x h2
        refine ⟨rfl, ?_⟩
        simp only [List.length_drop]
        omega
    · rw [if_pos (by simpa using h2)] at h
      exact absurd h h2
  · rw [if_pos (by simpa using he)] at h
    exact absurd h he
/-- Rounds without an error take four bytes each. -/
theorem rdN_prog (x : List Nat) (e : Nat) : ∀ i, (rdN i x e).2.2 = 0 → 4 * i + (rdN i x e).2.1.length ≤ x.length
  | 0, _ => by simp [rdN]
  | i + 1, h => by
    simp only [rdN, rd1] at h ⊢
    obtain ⟨h1, h2⟩ := rdText_ok h
    obtain ⟨h3, h4⟩ := rdText_ok h1
    have := rdN_prog x e i h3
    omega
theorem rc_open_short (a : Option Addr) (n c : Nat) (hn : n < 8) (w : World) : Calls Tryz.prog 29 #[.slice a n c, .int .i64 (n : Nat)] w fun e w' => e = .returned (.tuple #[.slice none 0 0, .int .i64 2]) ∧ w' = w := by
  have h8 : (n : Int) < 8 := by omega
  go_enter Tryz.func29, Tryz.ntmps29
  go_wp2_with fail
  go_ret2
  exact ⟨rfl, rfl⟩
theorem rput_nil (w : World) : Calls Tryz.prog 9 #[.slice none 0 0] w fun e w' => ∃ a' c' l er, e = .returned (.tuple #[.slice a' l c', .int .i64 (er : Nat)]) ∧ Same w w' := by
  refine (rdump_put none 0 0 [] rfl (by decide) w (.inl rfl)).mono ?_
  rintro e w' ⟨a', c', rfl, -, k⟩
  exact ⟨a', c', _, _, rfl, k⟩
theorem small_nil : rdSmall [] 0 = ([], 3, 0) := by decide
set_option maxRecDepth 100000 in
set_option maxHeartbeats 800000 in
theorem rdump_get_bad (a : Option Addr) (n C er : Nat) (b : List Nat) (w : World) (her : er = 2 ∨ er = 4 ∨ er = 10) (ho : OpenR b er [])
    (CO : Hid (Calls Tryz.prog 29 #[.slice a n C, .int .i64 (n : Nat)] w fun e w' => ∃ a1 c1, e = .returned (.tuple #[.slice a1 0 c1, .int .i64 (er : Nat)]) ∧ NatsAt w' .u8 a1 [] ∧ c1 ≤ 9223372036854775807 ∧ Same w w')) :
    Calls Tryz.prog 11 #[.slice a n C] w fun e w' => GotPost b w w' e := by
  have OR := Lib.hid ho
  obtain ⟨R, hR⟩ : ∃ R : Ending → World → Prop, R = fun e w' => GotPost b w w' e := ⟨_, rfl⟩
  have HR := Lib.hid hR
  rw [← hR]
  clear hR ho
  by_cases h10 : er = 10
  · subst h10
    clear her
    go_enter Tryz.func11, Tryz.ntmps11
    go_wp2_with fail
    refine CO.out.mono ?_
    rintro e w1 ⟨a1, c1, rfl, -, -, k1⟩
    have K1 := Lib.hid k1
    clear k1 CO
    simp only [show ((10 : Nat) : Int) = 10 from rfl]
    go_wp2_with fail
    rw [HR.out]
    exact ⟨none, 0, [], 10, rfl, got_sum OR.out, .inl rfl, K1.out⟩
  · have h0 : er ≠ 0 := by omega
    have q10 : ((er : Int) == 10) = false := by simpa using fun h => h10 (by omega)
    have q0 : ((er : Int) == 0) = false := by simpa using h0
    have q1 : ((er : Int) != 0) = true := by simpa using h0
    have GF := Lib.hid (got_form OR.out h0 h10)
    clear her h10 h0
    go_enter Tryz.func11, Tryz.ntmps11
    go_wp2_with fail
    refine CO.out.mono ?_
    rintro e w1 ⟨a1, c1, rfl, n1, hc1, k1⟩
    have K1 := Lib.hid k1
    have SM := rf_small a1 c1 [] 0 w1 (fun x hx => by cases hx) n1 (Nat.zero_le _) hc1
    rw [small_nil] at SM
    clear k1 CO n1
    go_wp2_with fail
    refine SM.mono ?_
    rintro e w2 ⟨a2, c2, rfl, -, -, -, -, k2⟩
    have K2 := Lib.hid (K1.out.trans k2)
    clear k2 SM
    simp only [List.length_nil, Int.natCast_zero]
    go_wp2_with fail
    have K3 := Lib.hid (K2.out.alloc (.cells #[.slice a2 0 c2, .int .i64 3] 61))
    refine cutWl (fun wn => Same w wn) K3.out ?_
    intro w3 k3
    have K4 := Lib.hid k3
    clear k3 K3
    go_loop [8, 9] (fun v t => v = .slice none 0 0 ∧ t = .int .i64 0) (fun _ _ => 0)
    case atStart => exact ⟨rfl, rfl⟩
    case round =>
      obtain ⟨rfl, rfl⟩ := hrel
      go_wp2_with fail
      refine (rput_nil w3).mono ?_
      rintro e w5 ⟨a5, c5, l5, e5, rfl, k5⟩
      have K5 := Lib.hid (K4.out.trans k5)
      clear k5
      go_wp2_with fail
      rw [HR.out]
      exact ⟨none, 0, [], 4, rfl, GF.out, .inl rfl, K5.out⟩
section
attribute [local go_sem ↓] exec_app semAt_app
attribute [local go_sem] isApp_lit appA appX
set_option maxRecDepth 100000 in
set_option maxHeartbeats 1600000 in
theorem rdump_get_ok (g o n C m : Nat) (b : List Nat) (hz : n = 8 + m) (hn : n = b.length) (hl : n ≤ 3000) (hC : n ≤ C) (hb : Bts b) (w : World) (hat : NatsAt w .u8 (some ⟨g, o, none⟩) b) (h0 : (openM b m).2 = 0)
    (CO0 : Hid (Calls Tryz.prog 29 #[.slice (some ⟨g, o, none⟩) n C, .int .i64 (n : Nat)] w fun e w' => ∃ a1 c1, e = .returned (.tuple #[.slice a1 (openM b m).1.length c1, .int .i64 0]) ∧ NatsAt w' .u8 a1 (openM b m).1 ∧ (openM b m).1.length ≤ c1 ∧ c1 ≤ 9223372036854775807 ∧ (∀ x, a1 = some x → x.block < w'.heap.size) ∧ Same w w')) :
    Calls Tryz.prog 11 #[.slice (some ⟨g, o, none⟩) n C] w fun e w' => GotPost b w w' e := by
  have OR := Lib.hid (open_R (hn.symm.trans hz) hb)
  have OL := (open_er b m).2
  obtain ⟨X, hX⟩ : ∃ X, (openM b m).1 = X := ⟨_, rfl⟩
  have e1 : openM b m = (X, 0) := by rw [← hX, ← h0]
  rw [e1] at OR OL
  have CO := Lib.hid CO0.out
  rw [hX] at CO
  have HN := Lib.hid hn; have HB := Lib.hid hb; have AT := Lib.hid hat; have HC := Lib.hid hC
  have XB : Hid (Bts X) := by rcases OR.out with ⟨q, -⟩ | ⟨q, -⟩ | ⟨-, -, _, -, -, q⟩; cases q; (rcases q with q | q <;> cases q); exact q
  clear hn hb hat hC e1 hX h0 hz CO0
  simp only at OL
  obtain ⟨R, hR⟩ : ∃ R : Ending → World → Prop, R = fun e w' => GotPost b w w' e := ⟨_, rfl⟩
  have HR := Lib.hid hR
  rw [← hR]
  clear hR
  obtain ⟨q, hq⟩ : ∃ q, X.length = q := ⟨_, rfl⟩
  have HQ := Lib.hid hq
  rw [← HN.out, hq] at OL
  simp only [hq] at CO
  clear hq
  go_enter Tryz.func11, Tryz.ntmps11
  go_wp2_with fail
  refine CO.out.mono ?_
  rintro e w1 ⟨a1, c1, rfl, n1, l1, m1, far1, k1⟩
  have K1 := Lib.hid k1
  have FR1 := Lib.hid far1
  have SM := rf_small a1 c1 X 0 w1 XB.out n1 (by rw [HQ.out]; exact l1) m1
  rw [HQ.out] at SM
  clear n1 l1 m1 k1 CO far1
  go_wp2_with fail
  refine SM.mono ?_
  rintro e w2 ⟨a2, c2, rfl, n2, l2, m2, b2, k2⟩
  have K2 := Lib.hid (K1.out.trans k2)
  have N2 := Lib.hid n2
  have C2 := Lib.hid l2
  have M2 := Lib.hid m2
  have FR2 : Hid (∀ x, a2 = some x → x.block < w2.heap.size) := fun x hx => by
    obtain ⟨y, hy, e⟩ := b2 x hx
    have := FR1.out y hy
    have := k2.size
    omega
  have HK := Lib.hid (got_by OR.out)
  have RB := Lib.hid (rdSmall_bytes (er := 0) XB.out)
  have RL := (rdSmall_le X 0).1
  have RN := (rdSmall_le X 0).2
  rw [HQ.out] at RL
  clear n2 l2 m2 b2 k2 SM
  generalize (rdSmall X 0).2.2 = N at *
  generalize (rdSmall X 0).2.1 = er1 at *
  generalize (rdSmall X 0).1 = X1 at *
  have RL' := Lib.hid RL
  have RF := Lib.hid (rdN_facts X1 er1 RB.out)
  have RP := Lib.hid (rdN_prog X1 er1)
  obtain ⟨q1, hq1⟩ : ∃ q1, X1.length = q1 := ⟨_, rfl⟩
  have HQ1 := Lib.hid hq1
  have R0 : Hid (∀ w', Same w2 w' → ∀ g', Blk w' g' #[.slice a2 q1 c2, .int .i64 (er1 : Nat)] 61 → RdrR w' g' a2 c2 X1 er1) := fun w' k g' hb => ⟨by rw [HQ1.out]; exact hb, N2.out.same k, C2.out, M2.out⟩
  rw [hq1]
  clear RL RB hq1
  go_wp2_with fail
  refine cutWl (fun wn => (RdrR wn w2.heap.size a2 c2 X1 er1 ∧ wn.heap.size = w2.heap.size + 1) ∧ Same w wn) ⟨⟨R0.out _ ((Kept.refl _ _).alloc _) _ (Blk.new _ _ _), by simp⟩, K2.out.alloc _⟩ ?_
  rintro w3 ⟨⟨r3, hs3⟩, k3⟩
  obtain ⟨g6, hg6⟩ : ∃ g6, w2.heap.size = g6 := ⟨_, rfl⟩
  have GW := Lib.hid (show w.heap.size ≤ g6 by rw [← hg6]; exact K2.out.size)
  rw [hg6] at r3 hs3 FR2 ⊢
  have R3 := Lib.hid r3
  have K3 := Lib.hid k3
  have HS3 := Lib.hid hs3
  clear r3 k3 hs3 hg6 R0 K2 N2 C2 M2
  go_loopw [8, 9] (fun v t wr => ∃ i : Nat, t = .int .i64 i ∧ i ≤ N ∧ i ≤ 800 ∧ OwnE prE wr (g6 + 1) 42 v (rdN i X1 er1).1 ∧ (∃ a' cap', RdrR wr g6 a' cap' (rdN i X1 er1).2.1 (rdN i X1 er1).2.2 ∧ ∀ x, a' = some x → x.block < g6) ∧ g6 + 1 ≤ wr.heap.size ∧ Same w wr) (fun _ t _ => N - (intOf t).toNat)
  case atStart => exact ⟨0, rfl, by omega, by omega, OwnE.nil _ _ _, ⟨a2, c2, R3.out, FR2.out⟩, by rw [HS3.out]; exact Nat.le_refl _, K3.out⟩
  case round =>
    obtain ⟨i, rfl, hi, hi8, ho, ⟨a', cap', hr, hf⟩, hbw, hkw⟩ := hrel
    have HO := Lib.hid ho; have K := Lib.hid hkw; have RR := Lib.hid hr; have FF := Lib.hid hf; have BW := Lib.hid hbw
    have rb0 : wr.cell? ⟨g6, 0, none⟩ = some (.slice a' (rdN i X1 er1).2.1.length cap') := hr.1.cell 0 rfl
    have rb1 : wr.cell? ⟨g6, 1, none⟩ = some (.int .i64 ((rdN i X1 er1).2.2 : Nat)) := hr.1.cell 1 rfl
    clear ho hkw hr hf hbw
    by_cases hgo : i < N ∧ (rdN i X1 er1).2.2 = 0
    · obtain ⟨hgo, her0⟩ := hgo
      have g1 : (i : Int) < (N : Int) := by omega
      have g0 : (0 : Int) ≤ (i : Int) := by omega
      obtain ⟨f1, f2, f3, f4⟩ := RF.out i
      have hp := RP.out i her0
      have hi9 : i + 1 ≤ 800 := by have := RL'.out; omega
      have F1 := Lib.hid f1
      have F3' := Lib.hid f3
      have F4 : Hid ((rdN i X1 er1).2.1.length ≤ 3000) := by have := RL'.out; show _ ≤ _; omega
      have STP : Hid (rdN (i + 1) X1 er1 = rd1 (rdN i X1 er1)) := rfl
      clear f1 f2 f3 f4 hp
      obtain ⟨s, hs⟩ : ∃ s, rdN i X1 er1 = s := ⟨_, rfl⟩
      rw [hs] at HO RR F1 F3' F4 STP rb0 rb1 her0
      clear hs
      obtain ⟨l0, y0, e0⟩ := s
      simp only at HO RR F1 F3' F4 rb0 rb1 her0
      subst her0
      unfold rd1 at STP
      simp only at STP
      rw [Int.natCast_zero] at rb1
      obtain ⟨z0, hz0⟩ : ∃ z, y0.length = z := ⟨_, rfl⟩
      have HZ0 := Lib.hid hz0
      rw [hz0] at rb0
      clear hz0
      have B1 := Lib.hid (rdText_bts F3'.out 0 16)
      have L1' := Lib.hid (rdText_len y0 0 16)
      generalize hk0 : (rdText y0 0 16).2.2 = k0 at *
      generalize he4 : (rdText y0 0 16).2.1 = e4 at *
      generalize hy4 : (rdText y0 0 16).1 = y4 at *
      have E3 : Hid (rdText y0 0 16 = (y4, e4, k0)) := by show _ = _; rw [← hk0, ← he4, ← hy4]
      have B2 := Lib.hid (rdText_bts B1.out e4 24)
      generalize hu0 : (rdText y4 e4 24).2.2 = u0 at *
      generalize he5 : (rdText y4 e4 24).2.1 = e5 at *
      generalize hy5 : (rdText y4 e4 24).1 = y5 at *
      have E5 : Hid (rdText y4 e4 24 = (y5, e5, u0)) := by show _ = _; rw [← hu0, ← he5, ← hy5]
      obtain ⟨z4, hz4⟩ : ∃ z, y4.length = z := ⟨_, rfl⟩
      have HZ4 := Lib.hid hz4
      obtain ⟨z5, hz5⟩ : ∃ z, y5.length = z := ⟨_, rfl⟩
      have HZ5 := Lib.hid hz5
      clear hk0 he4 hy4 hu0 he5 hy5 hz4 hz5
      go_upto_region 10 with fail
      obtain ⟨p, hp⟩ : ∃ p, wr.heap.size = p := ⟨_, rfl⟩
      rw [hp] at BW ⊢
      have PG : ¬ p = g6 := by have := BW.out; omega
      have GP : ¬ g6 = p := fun h => PG h.symm
      refine cutWl (fun wn => Fr wn [(p, #[.string ⟨#[]⟩, .string ⟨#[]⟩], 42), (g6, #[.slice a' z0 cap', .int .i64 0], 61)] ∧ Same wr wn) ⟨⟨Blk.new' _ _ _ hp.symm, by have h := RR.out.1; rw [HZ0.out] at h; exact h.alloc _, trivial⟩, (Kept.refl _ _).alloc _⟩ ?_
      rintro w4 ⟨hf4, k4⟩
      have F4f := Lib.hid hf4
      have K4 := Lib.hid (K.out.trans k4)
      have N4 := Lib.hid (RR.out.2.1.same k4)
      have O4 := Lib.hid (HO.out.same k4)
      have OF : Hid (∀ j, u8.ownBlock = some j → g6 + 1 ≤ j ∧ j < p) := fun j hj => by have := HO.out.far j hj; omega
      have HP := Lib.hid hp
      have C4 := Lib.hid RR.out.2.2
      obtain ⟨p0, f0, p1, f1, -⟩ := hf4.rules
      have T1 := rf_text a' cap' y0 0 16 w4 F3'.out (by have := F4.out; omega) (by decide) N4.out C4.out.1 C4.out.2
      rw [HZ0.out, E3.out] at T1
      simp only [HZ4.out] at T1
      clear hf4 k4 rb0 rb1 hp RR HO K
      go_wp2_with fail
      refine T1.mono ?_
      rintro e w5 ⟨a5, c5, rfl, n5, l5, m5, b5, k5⟩
      have F5f := Lib.hid (F4f.out.same k5)
      have K5 := Lib.hid (K4.out.trans k5)
      have O5 := Lib.hid (O4.out.same k5)
      have N5 := Lib.hid n5
      have C5 := Lib.hid (And.intro l5 m5)
      have A5 : Hid (∀ x, a5 = some x → x.block < g6) := fun x hx => by obtain ⟨y, hy, e⟩ := b5 x hx; rw [e]; exact FF.out y hy
      clear n5 l5 m5 b5 k5 T1 p0 f0 p1 f1 F4f K4 O4 N4 C4
      obtain ⟨p0, f0, p1, f1, -⟩ := F5f.out.rules
      go_upto_region 11 with fail
      refine cutWl (fun wn => Fr wn [(p, #[.string (strN k0), .string ⟨#[]⟩], 42), (g6, #[.slice a5 z4 c5, .int .i64 (e4 : Nat)], 61)] ∧ Kept (fun j => j = p ∨ j = g6) w5 wn) ⟨⟨((F5f.out.1.other PG _).other PG _).set 0 _, ((F5f.out.2.1.set 0 _).set 1 _).other GP _, trivial⟩, (((Kept.refl _ _).setCell (fun _ => .inr rfl) _).setCell (fun _ => .inr rfl) _).setCell (fun _ => .inl rfl) _⟩ ?_
      rintro w6 ⟨hf6, k6⟩
      have F6f := Lib.hid hf6
      have K6 := Lib.hid (K5.out.step k6 (fun j hj q => by have := GW.out; have := BW.out; omega))
      have N6 := Lib.hid (N5.out.kept k6 (fun x hx q => by have := A5.out x hx; have := BW.out; omega))
      have O6 := Lib.hid (O5.out.kept k6 (fun j hj q => by have := OF.out j hj; omega))
      clear p0 f0 p1 f1 hf6 k6 F5f K5 N5 O5
      obtain ⟨p0, f0, p1, f1, -⟩ := F6f.out.rules
      have T2 := rf_text a5 c5 y4 e4 24 w6 B1.out (by have := F4.out; have := L1'.out; omega) (by decide) N6.out (by rw [HZ4.out]; exact C5.out.1) C5.out.2
      rw [HZ4.out, E5.out] at T2
      simp only [HZ5.out] at T2
      go_wp2_with fail
      refine T2.mono ?_
      rintro e w7 ⟨a7, c7, rfl, n7, l7, m7, b7, k7⟩
      have F7f := Lib.hid (F6f.out.same k7)
      have K7 := Lib.hid (K6.out.trans k7)
      have O7 := Lib.hid (O6.out.same k7)
      have N7 := Lib.hid n7
      have C7 := Lib.hid (And.intro l7 m7)
      have A7 : Hid (∀ x, a7 = some x → x.block < g6) := fun x hx => by obtain ⟨y, hy, e⟩ := b7 x hx; rw [e]; exact A5.out y hy
      clear n7 l7 m7 b7 k7 T2 p0 f0 p1 f1 F6f K6 O6 N6 C5
      obtain ⟨p0, f0, p1, f1, -⟩ := F7f.out.rules
      go_upto_region 12 with fail
      refine cutWl (fun wn => Fr wn [(p, #[.string (strN k0), .string (strN u0)], 42), (g6, #[.slice a7 z5 c7, .int .i64 (e5 : Nat)], 61)] ∧ Kept (fun j => j = p ∨ j = g6) w7 wn) ⟨⟨((F7f.out.1.other PG _).other PG _).set 1 _, ((F7f.out.2.1.set 0 _).set 1 _).other GP _, trivial⟩, (((Kept.refl _ _).setCell (fun _ => .inr rfl) _).setCell (fun _ => .inr rfl) _).setCell (fun _ => .inl rfl) _⟩ ?_
      rintro w8 ⟨hf8, k8⟩
      have F8f := Lib.hid hf8
      have K8 := Lib.hid (K7.out.step k8 (fun j hj q => by have := GW.out; have := BW.out; omega))
      have N8 := Lib.hid (N7.out.kept k8 (fun x hx q => by have := A7.out x hx; have := BW.out; omega))
      have O8 := Lib.hid (O7.out.kept k8 (fun j hj q => by have := OF.out j hj; omega))
      have BW8 : Hid (g6 + 1 ≤ w8.heap.size) := by have := F8f.out.1.lt; have := BW.out; show _ ≤ _; omega
      clear p0 f0 p1 f1 hf8 k8 F7f K7 N7 O7
      obtain ⟨p0, f0, p1, f1, -⟩ := F8f.out.rules
      obtain ⟨v9, w9, hr9, o9, k9⟩ := pr_pushN O8.out BW8.out (by have := F1.out; omega) k0 u0
      obtain ⟨aok, aV, aW⟩ := app_of hr9
      have K9 := Lib.hid (K8.out.step k9 (fun j hj q => by have := GW.out; omega))
      have O9 := Lib.hid o9
      have BW9 := Lib.hid (Nat.le_trans BW8.out k9.size)
      have R9 : Hid (RdrR w9 g6 a7 c7 y5 e5) := ⟨by rw [HZ5.out]; exact F8f.out.2.1.kept k9 (by omega), N8.out.kept k9 (fun x hx q => by have := A7.out x hx; omega), by rw [HZ5.out]; exact C7.out.1, C7.out.2⟩
      have STQ : Hid (rdN (i + 1) X1 er1 = (l0 ++ [(bU k0, bU u0)], y5, e5)) := STP.out
      clear hr9 o9 k9 STP
      go_wp2_with fail
      go_roundw
      case rel => exact ⟨i + 1, by go_num, by omega, by omega, by rw [STQ.out]; exact O9.out, ⟨a7, c7, by rw [STQ.out]; exact R9.out, A7.out⟩, BW9.out, K9.out⟩
      case measure => simp [intOf]; omega
    · have EX : Hid (i = N ∨ (i ≤ N ∧ (rdN i X1 er1).2.2 ≠ 0)) := by
        show _ ∨ _
        by_cases h : i < N
        · exact .inr ⟨hi, fun h2 => hgo ⟨h, h2⟩⟩
        · exact .inl (by omega)
      have HKK := Lib.hid (HK.out i (by rcases EX.out with h | h; exact .inl h; exact .inr (.inr h)))
      obtain ⟨f1, -, -, -⟩ := RF.out i
      have GT : Hid (¬ i < N ∨ ¬ (rdN i X1 er1).2.2 = 0) := by show _ ∨ _; rcases EX.out with h | h; exact .inl (by omega); exact .inr h.2
      obtain ⟨er, her⟩ : ∃ er, (rdN i X1 er1).2.2 = er := ⟨_, rfl⟩
      rw [her] at rb1 GT
      generalize (rdN i X1 er1).1 = L at *
      obtain ⟨a7, l7, c7, rfl, hl7, -, hat7, -⟩ := HO.out.rd
      have hl7' : l7 = i := by rw [hl7.out, f1]
      subst hl7'
      have PU := rdump_put a7 l7 c7 L f1.symm (by omega) wr hat7.out
      have AT7 := Lib.hid hat7.out
      have FL := Lib.hid f1
      obtain ⟨y0, hy0⟩ : ∃ y, (rdN l7 X1 er1).2.1.length = y := ⟨_, rfl⟩
      rw [hy0] at rb0
      clear f1 hl7 hat7 HO RR FF hgo her hy0 HK RF RP
      rcases Classical.em (l7 < N) with hlt | hge
      · have g1 : (l7 : Int) < (N : Int) := by omega
        have her0 : er ≠ 0 := by rcases GT.out with h | h; exact absurd hlt h; exact h
        have q0 : ((er : Int) == 0) = false := by simpa using her0
        clear her0 hlt
        go_wp2_with fail
        refine PU.mono ?_
        rintro e w8 ⟨a8, c8, rfl, n8, k8⟩
        have K8 := Lib.hid (K.out.trans k8)
        have AT8 := Lib.hid (AT7.out.same k8)
        have N8 := Lib.hid n8
        clear k8 n8 PU K AT7
        by_cases hz : (putL L).2 = 0
        · have hv1 := conv_str a8 (putL L).1.length c8 (putL L).1 w8 rfl N8.out
          have hv2 := conv_str (some ⟨g, o, none⟩) n C b w8 HN.out (AT.out.same K8.out)
          have hbq := str_beq (put_bts L) HB.out
          rw [hz]
          simp only [Int.natCast_zero]
          have HP : Hid (putL L = (b, 0) ↔ (putL L).1 = b) := ⟨fun h => by rw [h], fun h => by rw [← h, ← hz]⟩
          obtain ⟨lz, hlz⟩ : ∃ lz, (putL L).1.length = lz := ⟨_, rfl⟩
          rw [hlz] at hv1 ⊢
          by_cases hbe : (putL L).1 = b
          · have YES := Lib.hid (HKK.out.1 (HP.out.2 hbe))
            rw [decide_eq_true hbe] at hbq
            obtain ⟨Z, hZ⟩ : ∃ Z, (putL L).1 = Z := ⟨_, rfl⟩
            rw [hZ] at hv1 hbq
            clear hbe hz hZ HP hlz
            go_wp2_with fail
            rw [HR.out]
            exact ⟨a7, c7, L, 0, by rw [FL.out]; rfl, YES.out, AT8.out, K8.out⟩
          · have NO := Lib.hid (HKK.out.2 (fun h => hbe (HP.out.1 h)))
            rw [decide_eq_false hbe] at hbq
            obtain ⟨Z, hZ⟩ : ∃ Z, (putL L).1 = Z := ⟨_, rfl⟩
            rw [hZ] at hv1 hbq
            clear hbe hz hZ HP hlz
            go_wp2_with fail
            rw [HR.out]
            exact ⟨none, 0, [], 4, rfl, NO.out, .inl rfl, K8.out⟩
        · have NO := Lib.hid (HKK.out.2 (fun h => hz (by rw [h])))
          obtain ⟨pe, hpe⟩ : ∃ p, (putL L).2 = p := ⟨_, rfl⟩
          rw [hpe] at hz ⊢
          have hz1 : ((pe : Int) != 0) = true := by simpa using hz
          clear hpe
          go_wp2_with fail
          rw [HR.out]
          exact ⟨none, 0, [], 4, rfl, NO.out, .inl rfl, K8.out⟩
      · have g1 : ¬ (l7 : Int) < (N : Int) := by omega
        clear hge
        go_wp2_with fail
        refine PU.mono ?_
        rintro e w8 ⟨a8, c8, rfl, n8, k8⟩
        have K8 := Lib.hid (K.out.trans k8)
        have AT8 := Lib.hid (AT7.out.same k8)
        have N8 := Lib.hid n8
        clear k8 n8 PU K AT7
        by_cases hz : (putL L).2 = 0
        · have hv1 := conv_str a8 (putL L).1.length c8 (putL L).1 w8 rfl N8.out
          have hv2 := conv_str (some ⟨g, o, none⟩) n C b w8 HN.out (AT.out.same K8.out)
          have hbq := str_beq (put_bts L) HB.out
          rw [hz]
          simp only [Int.natCast_zero]
          have HP : Hid (putL L = (b, 0) ↔ (putL L).1 = b) := ⟨fun h => by rw [h], fun h => by rw [← h, ← hz]⟩
          obtain ⟨lz, hlz⟩ : ∃ lz, (putL L).1.length = lz := ⟨_, rfl⟩
          rw [hlz] at hv1 ⊢
          by_cases hbe : (putL L).1 = b
          · have YES := Lib.hid (HKK.out.1 (HP.out.2 hbe))
            rw [decide_eq_true hbe] at hbq
            obtain ⟨Z, hZ⟩ : ∃ Z, (putL L).1 = Z := ⟨_, rfl⟩
            rw [hZ] at hv1 hbq
            clear hbe hz hZ HP hlz
            go_wp2_with fail
            rw [HR.out]
            exact ⟨a7, c7, L, 0, by rw [FL.out]; rfl, YES.out, AT8.out, K8.out⟩
          · have NO := Lib.hid (HKK.out.2 (fun h => hbe (HP.out.1 h)))
            rw [decide_eq_false hbe] at hbq
            obtain ⟨Z, hZ⟩ : ∃ Z, (putL L).1 = Z := ⟨_, rfl⟩
            rw [hZ] at hv1 hbq
            clear hbe hz hZ HP hlz
            go_wp2_with fail
            rw [HR.out]
            exact ⟨none, 0, [], 4, rfl, NO.out, .inl rfl, K8.out⟩
        · have NO := Lib.hid (HKK.out.2 (fun h => hz (by rw [h])))
          obtain ⟨pe, hpe⟩ : ∃ p, (putL L).2 = p := ⟨_, rfl⟩
          rw [hpe] at hz ⊢
          have hz1 : ((pe : Int) != 0) = true := by simpa using hz
          clear hpe
          go_wp2_with fail
          rw [HR.out]
          exact ⟨none, 0, [], 4, rfl, NO.out, .inl rfl, K8.out⟩
end
/-- The document reads a dump. -/
theorem rdump_get (a : Option Addr) (n C : Nat) (b : List Nat) (hn : n = b.length) (hl : n ≤ 3000) (hC : n ≤ C) (hb : Bts b) (w : World) (hat : NatsAt w .u8 a b) :
    Calls Tryz.prog 11 #[.slice a n C] w fun e w' => GotPost b w w' e := by
  by_cases h8 : n < 8
  · refine rdump_get_bad a n C 2 b w (.inl rfl) (open_short (by omega) (.inr rfl)) ?_
    refine (rc_open_short a n C h8 w).mono ?_
    rintro e w' ⟨rfl, rfl⟩
    exact ⟨none, 0, rfl, .inl rfl, Nat.zero_le _, Kept.refl _ _⟩
  · obtain ⟨m, hm⟩ : ∃ m, n = 8 + m := ⟨n - 8, by omega⟩
    obtain ⟨g, o, rfl⟩ : ∃ g o, a = some ⟨g, o, none⟩ := by
      rcases hat with rfl | ⟨g, o, rfl, -⟩
      · simp at hn; omega
      · exact ⟨g, o, rfl⟩
    have OR := open_R (hn.symm.trans hm) hb
    have CO := rc_openM g o m n C hm (by omega) hC b hn.symm hb w hat
    obtain ⟨her, -⟩ := open_er b m
    by_cases h0 : (openM b m).2 = 0
    · refine rdump_get_ok g o n C m b hm hn hl hC hb w hat h0 ?_
      refine CO.mono ?_
      rintro e w' ⟨a1, c1, rfl, n1, l1, m1, f1, k1⟩
      exact ⟨a1, c1, by rw [h0]; rfl, n1, l1, m1, f1, k1⟩
    · have hX : (openM b m).1 = [] := by
        rcases OR with ⟨-, -, -, h⟩ | ⟨-, -, h, -⟩ | ⟨h, -⟩
        · exact h
        · exact h
        · exact absurd h h0
      rw [hX] at OR
      refine rdump_get_bad _ n C (openM b m).2 b w (by omega) OR ?_
      refine CO.mono ?_
      rintro e w' ⟨a1, c1, rfl, -, -, m1, -, k⟩
      exact ⟨a1, c1, by rw [hX]; rfl, .inl rfl, m1, k⟩
end Go.Proofs.YtpgghajkpjhieaaGreatDoor
