/- WalKeeps: the walk. -/
import Derived.Test.YtlmpkonfclnceaaAct10
import Derived.Test.YtlmpkonfclnceaaKeepP
import Derived.Deep.CutRange
import Derived.Deep.CutBlock
import Derived.LoopTactic
namespace Go.Proofs.Ytlmpkonfclnceaa
open Go.RowKit Go.Sort

section
attribute [local go_sem ↓] exec_app semAt_app
attribute [local go_sem] isApp_lit appA appX
theorem KI.len {D : Dsk} {L : Lg} {n : Nat} (h : KI D L n) : D.s.length = 20 := by
  obtain ⟨G, _, _, h3⟩ := h.g
  exact h3.len
theorem KI.up {D : Dsk} {L : Lg} {n m : Nat} (h : KI D L n) (q : n ≤ m) : KI D L m := ⟨h.off, h.first, h.count, h.clo, h.bad, Nat.le_trans h.ep q, h.lok, h.st, h.g⟩
theorem DI.up {D : Dsk} {L : Lg} {n m : Nat} (h : DI D L n) (q : n ≤ m) : DI D L m := ⟨Nat.le_trans h.ep q, h.g⟩
theorem brk_arg (n : Int) : 0 ≤ wrap64 ((IntKind.u64.wrap n).tmod 6) ∧ wrap64 ((IntKind.u64.wrap n).tmod 6) < 6 := by
  rw [IntKind.wrap_u64, Int.tmod_eq_emod_of_nonneg (Int.emod_nonneg _ (by decide))]
  unfold wrap64
  omega
theorem LogI.og {w : World} {g d bs m : Nat} {L : Lg} (h : LogI w g d bs m L) : ¬ dod d bs m g := by
  obtain ⟨_, _, _, _, h⟩ := h
  exact h.og
theorem LogP.og {w : World} {g d bs m : Nat} {L : Lg} {P : Nat → Prop} (h : LogP w g d bs m L P) : ¬ dod d bs m g := by
  obtain ⟨_, _, _, _, h, _⟩ := h
  exact h.og
/-- A log stays, when its disk turns. -/
theorem LogP.disk {w w' : World} {g d bs m : Nat} {L : Lg} {P : Nat → Prop} (h : LogP w g d bs m L P) (k : Kept (dod d bs m) w w') : LogP w' g d bs m L P := by
  obtain ⟨ha, hc, wa, wc, h, h1, h2⟩ := h
  exact ⟨ha, hc, wa, wc, ⟨h.box.kept k h.og, h.has.kept k (fun y hy => (h.oh y hy).1), h.hcap, h.hnil, h.wt.kept k (fun y hy => (h.ow y hy).1), h.wcap, h.wnil, h.og,
    fun y hy => ⟨(h.oh y hy).1, (h.oh y hy).2.1, Nat.lt_of_lt_of_le (h.oh y hy).2.2.1 k.size, (h.oh y hy).2.2.2⟩, fun y hy => ⟨(h.ow y hy).1, (h.ow y hy).2.1, Nat.lt_of_lt_of_le (h.ow y hy).2.2.1 k.size, (h.ow y hy).2.2.2⟩⟩, h1, h2⟩
theorem Blk.not_own {w : World} {b B : Nat} {cs : Array Value} {t : TypeId} (h : Blk w b cs t) {v : Value} {l : List (List Nat)} (ho : OwnT w B v l) (ht : t ≠ 9) : ¬ v.ownBlock = some b := by
  intro q
  rcases ho.2 with ⟨rfl, _⟩ | ⟨g, cap, cur, rfl, _, h2, _⟩
  · simp [Value.ownBlock] at q
  · obtain rfl : g = b := by simpa [Value.ownBlock] using q
    have h' := h2.symm.trans h
    simp only [Option.some.injEq, Obj.cells.injEq] at h'
    exact ht h'.2.1.symm
theorem KI.small {D : Dsk} {L : Lg} {n : Nat} (h : KI D L n) : L.has.length + L.wait.length ≤ 5736 := by
  have h1 := h.lok.hl
  have h2 := h.lok.room h.clo
  have h3 := len_prt L.wait
  rw [h.clo, if_neg (by decide)] at h1
  rw [h.count] at h2
  omega
set_option maxRecDepth 100000 in
set_option maxHeartbeats 4000000 in
theorem keep_any (W : World) (a : Option Addr) (len cap0 : Nat) (A : Nat → A10) (hacts : len = 0 ∨ ∃ b off, a = some ⟨b, off, none⟩ ∧ b < W.heap.size ∧ Acts10 W b off len A) :
    Calls Try.prog 11 #[.slice a len cap0] W fun e w' => e = .returned (.bool true) ∧ Same W w' := by
  have FEW := Lib.hid (few10 W a len cap0 40 (by decide) A hacts W (Kept.refl _ _))
  by_cases hr : fewA A len 40 = true
  · rw [hr] at FEW
    obtain ⟨hl40', hsh⟩ := fewA_true hr
    have hl40 : len ≤ 40 := by omega
    have SH := Lib.hid hsh
    have HA := Lib.hid hacts
    clear hr hl40' hsh hacts
    go_enter Try.func11, Try.ntmps11
    go_wp2_with fail
    with_reducible refine FEW.out.mono ?_
    rintro e w0 ⟨rfl, rfl⟩
    go_wp2_with fail
    refine (sd_new 20 w0).mono ?_
    rintro e w1 ⟨d, bs, cap, m, rfl, h1, hd, hbs, hm, k1⟩
    have H1 := Lib.hid h1
    have K1 := Lib.hid k1
    have NW := Lib.hid (wl_new H1.out 2 12 1)
    rw [show newE (newD 20) 2 12 1 = 0 by kernel_rfl] at NW
    clear h1 k1 FEW
    go_wp2_with fail
    with_reducible refine NW.out.mono ?_
    rintro e w2 ⟨hp, k2⟩
    rw [if_pos rfl] at hp
    obtain ⟨g0, rfl, hg, hgw⟩ := hp
    have hsz1 := K1.out.size
    have L2 := Lib.hid hg
    have H2 := Lib.hid (H1.out.same k2)
    have K2 := Lib.hid (K1.out.trans k2)
    have hd2 := H2.out.box.lt
    have hbs2 := H2.out.safe.lt
    have hm2 := H2.out.map.lt
    have hs2 := K2.out.size
    have hg2 := hg.blk
    obtain ⟨B, hB⟩ : ∃ B, w2.heap.size = B := ⟨_, rfl⟩
    have HB := Lib.hid (show B ≤ w2.heap.size by omega)
    rw [hB] at hd2 hbs2 hm2 hs2 hg2
    clear hg k2 NW H1 K1 hB
    go_wp2_with fail
    go_loopw [4, 6, 7, 8] (fun xv av sv t wr => ∃ (i g : Nat) (D : Dsk) (L : Lg), xv = .pointer (some ⟨g, 0, none⟩) ∧ t = .int .i64 i ∧ i ≤ len ∧ sv = .int .i64 (L.has.length : Nat) ∧ KI D L (1 + 2 * i) ∧ DiskIn wr d bs cap m D ∧ LogP wr g d bs m L (fun j => ¬ av.ownBlock = some j) ∧ ¬ av.ownBlock = some g ∧ w0.heap.size ≤ g ∧ OwnT wr B av (L.has ++ L.wait) ∧ B ≤ wr.heap.size ∧ Same w0 wr) (fun _ _ _ t _ => len - (intOf t).toNat)
    case atStart => exact ⟨0, g0, newD 20, newL 2 12 1, rfl, rfl, Nat.zero_le _, rfl, keep_start, H2.out, L2.out.p.mono (fun _ _ _ q => by cases q), (fun q => by cases q), by omega, OwnE.nil _ _ _, HB.out, K2.out⟩
    case round =>
      clear H2 K2 L2 HB
      obtain ⟨i, g, D, L, rfl, rfl, hi, rfl, hki, hdi, hlg, hag, hg0, how, hBr, hk⟩ := hrel
      have KI0 := Lib.hid hki; have DI := Lib.hid hdi; have LG := Lib.hid hlg; have OW := Lib.hid how; have K := Lib.hid hk; have AG := Lib.hid hag
      clear hki hdi hlg how hk hag
      by_cases hgo : i < len
      · obtain ⟨b, off, rfl, hb, hall⟩ := HA.out.resolve_left (by omega)
        have AC := Lib.hid ((hall i hgo).same K.out hb)
        have SHI := Lib.hid (SH.out i hgo)
        have AC0 := Lib.hid (hall i hgo)
        generalize A i = α at AC AC0 SHI
        obtain ⟨k, s, n, k2, n2, c, u, dn, fa, fl, fc, fs⟩ := α
        obtain ⟨c0, c1, c2, c3, c4, c5, c6, c7, c8, -, -, -, -, -, -, -, -, -, -, -⟩ := AC.out
        dsimp only at c0 c1 c2 c3 c4 c5 c6 c7 c8
        have g1 : (i : Int) < (len : Int) := by omega
        have gz : (0 : Int) ≤ (i : Int) := by omega
        obtain ⟨kk, hkk⟩ : ∃ kk, k % 8 = kk := ⟨_, rfl⟩
        have e8 : (k : Int) % 8 = (kk : Int) := by omega
        have hk8 : kk < 8 := by omega
        obtain ⟨a4, l4, c4', rfl, hl4, hn4, ha4, hc4⟩ := OwnE.rd OW.out
        clear hall hkk ha4
        go_upto_region 13 with fail
        have hgl := LG.out.i.blk
        refine cutWl (fun wn => Blk wn wr.heap.size #[.int .u8 (k : Nat), .string (strN s), .int .i64 n, .int .u8 (k2 : Nat), .int .i64 n2, .int .u8 (c : Nat), .int .u8 (u : Nat), .bool dn, .slice fa fl fc] 92 ∧ Same wr wn) ⟨Blk.new _ _ _, (Kept.refl _ _).alloc _⟩ ?_
        rintro wn ⟨hbx, kn⟩
        have KN := Lib.hid (K.out.trans kn)
        have DN := Lib.hid (DI.out.same kn)
        have LN := Lib.hid (LG.out.same kn)
        have ON := Lib.hid (OW.out.same kn)
        have BX := Lib.hid hbx
        have AN := Lib.hid (AC.out.same kn (by have := K.out.size; omega))
        have hsn := kn.size
        clear kn hbx LG OW K DI c0 c1 c2 c3 c4 c5 c6 c7 c8 AC
        generalize wr.heap.size = X at *
        have hXn := BX.out.lt
        have p0 := cell_blk BX.out
        have f0 := fun i => BX.out.free i
        go_upto_block 2 with fail
        go_cut [6, 7] from 29 to 132 (fun av sv wx => ∃ (D2 : Dsk) (L2 : Lg), sv = .int .i64 (L2.has.length : Nat) ∧ DiskIn wx d bs cap m D2 ∧ LogP wx g d bs m L2 (fun j => ¬ av.ownBlock = some j) ∧ ¬ av.ownBlock = some g ∧ OwnT wx B av (L2.has ++ L2.wait) ∧ X < wx.heap.size ∧ Blk wx X #[.int .u8 (k : Nat), .string (strN s), .int .i64 n, .int .u8 (k2 : Nat), .int .i64 n2, .int .u8 (c : Nat), .int .u8 (u : Nat), .bool dn, .slice fa fl fc] 92 ∧ LOK L2 20 ∧ Same w0 wx ∧ ((KI D2 L2 (2 + 2 * i) ∧ kk ≠ 7) ∨ (DI D2 L2 (2 + 2 * i) ∧ D2.off = true) ∨ (UI D2 L2 (2 + 2 * i) ∧ kk = 7)))
        case first =>
          have hP : ∀ j, wn.heap.size ≤ j → ¬ (Value.slice a4 l4 c4').ownBlock = some j := fun j hj q => by have := (ON.out.far j q).2; omega
          have HP := Lib.hid hP
          have hog := LN.out.og
          have hdg : d ≠ g := fun q => hog (.inl q.symm)
          have hbg : bs ≠ g := fun q => hog (.inr (.inl q.symm))
          have hmg : m ≠ g := fun q => hog (.inr (.inr q.symm))
          have hLL := KI0.out.len
          have hep := KI0.out.ep
          clear hP
          by_cases h34 : kk = 3 ∨ kk = 4
          · have SY := Lib.hid (wl_syncP HP.out DN.out LN.out (by rw [hLL]; exact KI0.out.lok))
            have KS := Lib.hid KI0.out.sync
            have OKR := Lib.hid (syncL_ok KI0.out.lok D)
            obtain ⟨R, hR⟩ : ∃ R, syncL L D = R := ⟨_, rfl⟩
            rw [hR] at SY KS OKR
            clear hR
            rcases h34 with rfl | rfl
            · go_wp2_with fail
              with_reducible refine SY.out.mono ?_
              rintro e w4 ⟨rfl, h4, g4, k4⟩
              have D4 := Lib.hid h4
              have L4 := Lib.hid g4
              have K4 := Lib.hid (KN.out.step k4 (fun j hj q => by rcases q with q | q | q | q <;> omega))
              have O4 := Lib.hid (ON.out.kept k4 (fun j hj q => by have := (ON.out.far j hj).1; rcases q with q | q | q | q <;> first | omega | exact AG.out (by rw [hj, q])))
              have B4 := Lib.hid (BX.out.kept k4 (by rintro (q | q | q | q) <;> omega))
              clear SY h4 g4 k4 BX DN LN KN
              by_cases h0 : R.2.2 = 0
              · obtain ⟨q1, q2, q3, q4⟩ := KS.out.1 h0
                have gE : ((R.2.2 : Nat) : Int) = 0 := by omega
                have Q1 := Lib.hid q1; have Q2 := Lib.hid q2; have Q3 := Lib.hid q3
                clear q1 q2 q3 q4 h0 KS p0 f0
                go_wp2_with fail
                go_meet
                refine ⟨R.2.1, R.1, ?_, D4.out, L4.out, AG.out, ?_, B4.out.lt, B4.out, Q1.out.lok, K4.out, .inl ⟨Q1.out.up (by omega), by omega⟩⟩
                · rw [hl4.out, Q2.out]
                · rw [Q2.out, Q3.out, List.append_nil]; exact O4.out
              · obtain ⟨q1, q2, q3, q4, q5⟩ := KS.out.2 h0
                have gE : ¬ ((R.2.2 : Nat) : Int) = 0 := by omega
                have Q1 := Lib.hid q1; have Q2 := Lib.hid q2; have Q3 := Lib.hid q3; have Q4 := Lib.hid q4
                clear q1 q2 q3 q4 q5 h0 KS p0 f0
                go_wp2_with fail
                go_meet
                refine ⟨R.2.1, R.1, ?_, D4.out, L4.out, AG.out, ?_, B4.out.lt, B4.out, OKR.out, K4.out, .inr (.inl ⟨Q2.out.up (by omega), Q1.out⟩)⟩
                · rw [Q3.out]
                · rw [Q3.out, Q4.out]; exact O4.out
            · go_wp2_with fail
              with_reducible refine SY.out.mono ?_
              rintro e w4 ⟨rfl, h4, g4, k4⟩
              have D4 := Lib.hid h4
              have L4 := Lib.hid g4
              have K4 := Lib.hid (KN.out.step k4 (fun j hj q => by rcases q with q | q | q | q <;> omega))
              have O4 := Lib.hid (ON.out.kept k4 (fun j hj q => by have := (ON.out.far j hj).1; rcases q with q | q | q | q <;> first | omega | exact AG.out (by rw [hj, q])))
              have B4 := Lib.hid (BX.out.kept k4 (by rintro (q | q | q | q) <;> omega))
              clear SY h4 g4 k4 BX DN LN KN
              by_cases h0 : R.2.2 = 0
              · obtain ⟨q1, q2, q3, q4⟩ := KS.out.1 h0
                have gE : ((R.2.2 : Nat) : Int) = 0 := by omega
                have Q1 := Lib.hid q1; have Q2 := Lib.hid q2; have Q3 := Lib.hid q3
                clear q1 q2 q3 q4 h0 KS p0 f0
                go_wp2_with fail
                go_meet
                refine ⟨R.2.1, R.1, ?_, D4.out, L4.out, AG.out, ?_, B4.out.lt, B4.out, Q1.out.lok, K4.out, .inl ⟨Q1.out.up (by omega), by omega⟩⟩
                · rw [hl4.out, Q2.out]
                · rw [Q2.out, Q3.out, List.append_nil]; exact O4.out
              · obtain ⟨q1, q2, q3, q4, q5⟩ := KS.out.2 h0
                have gE : ¬ ((R.2.2 : Nat) : Int) = 0 := by omega
                have Q1 := Lib.hid q1; have Q2 := Lib.hid q2; have Q3 := Lib.hid q3; have Q4 := Lib.hid q4
                clear q1 q2 q3 q4 q5 h0 KS p0 f0
                go_wp2_with fail
                go_meet
                refine ⟨R.2.1, R.1, ?_, D4.out, L4.out, AG.out, ?_, B4.out.lt, B4.out, OKR.out, K4.out, .inr (.inl ⟨Q2.out.up (by omega), Q1.out⟩)⟩
                · rw [Q3.out]
                · rw [Q3.out, Q4.out]; exact O4.out
          by_cases h5 : kk = 5
          · subst h5
            have EP := Lib.hid (wl_epoch LN.out.i)
            have KR := Lib.hid (KI0.out.restart (by omega))
            have RS := Lib.hid (wl_restartP LN.out ((L.epoch : Int) + 1))
            rw [KR.out.1] at RS
            have gw : IntKind.i64.wrap ((L.epoch : Int) + 1) = (L.epoch : Int) + 1 := IntWalk.i64_in _ (by omega)
            clear h34
            go_wp2_with fail
            with_reducible refine EP.out.mono ?_
            rintro e w4 ⟨rfl, rfl⟩
            go_wp2_with fail
            with_reducible refine RS.out.mono ?_
            rintro e w5 ⟨rfl, g5, k5⟩
            have D5 := Lib.hid (DN.out.kept k5 (by omega) (by omega) (by omega))
            have L5 := Lib.hid g5
            have K5 := Lib.hid (KN.out.step k5 (fun j hj q => by omega))
            have B5 := Lib.hid (BX.out.kept k5 (by omega))
            have BL : B ≤ w5.heap.size := by have := k5.size; omega
            clear RS EP g5 k5 BX DN LN KN p0 f0
            go_wp2_with fail
            go_meet
            refine ⟨D, restartL L ((L.epoch : Int) + 1), ?_, D5.out, L5.out.mono (fun _ _ _ q => by cases q), (fun q => by cases q), ?_, B5.out.lt, B5.out, KR.out.2.1.lok, K5.out, .inl ⟨KR.out.2.1.up (by omega), by omega⟩⟩
            · rw [KR.out.2.2.1]; rfl
            · rw [KR.out.2.2.1, KR.out.2.2.2]; exact OwnE.nil _ _ _
          by_cases h6 : kk = 6
          · subst h6
            clear h34 h5
            obtain ⟨q0, q1⟩ := brk_arg n
            have BR := Lib.hid fun (x : Int) (hx : x < 9223372036854775808) => sd_break DN.out x hx dn
            have Q0 := Lib.hid q0; have Q1 := Lib.hid q1
            clear q0 q1
            go_wp2_with fail
            generalize wrap64 ((IntKind.u64.wrap n).tmod 6) = x at *
            with_reducible refine (BR.out x (by have := Q1.out; omega)).mono ?_
            rintro e w4 ⟨rfl, h4, k4⟩
            have D4 := Lib.hid h4
            have L4 := Lib.hid (LN.out.disk (k4.mono (fun _ _ q => .inl q)))
            have K4 := Lib.hid (KN.out.step k4 (fun j hj q => by omega))
            have O4 := Lib.hid (ON.out.kept k4 (fun j hj q => by have := (ON.out.far j hj).1; omega))
            have B4 := Lib.hid (BX.out.kept k4 (by omega))
            have KB := Lib.hid (KI0.out.brk Q0.out dn)
            clear BR h4 k4 BX DN LN KN p0 f0
            go_wp2_with fail
            go_meet
            exact ⟨(breakD D x dn).1, L, rfl, D4.out, L4.out, AG.out, O4.out, B4.out.lt, B4.out, KI0.out.lok, K4.out, .inl ⟨KB.out.up (by omega), by omega⟩⟩
          by_cases h7 : kk = 7
          · subst h7
            have PW := Lib.hid (sd_power DN.out fa fl fc fs AN.out.fl_ AN.out.fc_ AN.out.fb AN.out.at_)
            have FB := Lib.hid AN.out.fb
            clear h34 h5 h6
            go_wp2_with fail
            with_reducible refine PW.out.mono ?_
            rintro e w4 ⟨rfl, h4, k4⟩
            have D4 := Lib.hid h4
            have L4 := Lib.hid (LN.out.disk k4)
            have K4 := Lib.hid (KN.out.step k4 (fun j hj q => by rcases q with q | q | q <;> omega))
            have O4 := Lib.hid (ON.out.kept k4 (fun j hj q => by have := (ON.out.far j hj).1; rcases q with q | q | q <;> omega))
            have B4 := Lib.hid (BX.out.kept k4 (by rintro (q | q | q) <;> omega))
            clear PW h4 k4 BX DN LN KN p0 f0
            go_wp2_with fail
            go_meet
            exact ⟨powerD D fs, L, rfl, D4.out, L4.out, AG.out, O4.out, B4.out.lt, B4.out, KI0.out.lok, K4.out, .inr (.inr ⟨(KI0.out.di.up (by omega)).power FB.out, trivial⟩)⟩
          · have h2 : kk < 3 := by omega
            have t3 : (((kk : Nat) : Int) == 3) = false := by simp; omega
            have t4 : (((kk : Nat) : Int) == 4) = false := by simp; omega
            have t5 : (((kk : Nat) : Int) == 5) = false := by simp; omega
            have t6 : (((kk : Nat) : Int) == 6) = false := by simp; omega
            have t7 : (((kk : Nat) : Int) == 7) = false := by simp; omega
            have AD := Lib.hid (wl_addP HP.out LN.out (by omega) (by omega) (by omega) KI0.out.lok s (by have : s.length ≤ 300 := SHI.out; omega))
            have KA := Lib.hid (KI0.out.add (s := s) AN.out.sb)
            obtain ⟨E, hE⟩ : ∃ E, addE L s = E := ⟨_, rfl⟩
            rw [hE] at AD KA
            have HT := Lib.hid h2
            clear hE h34 h5 h6 h7 h2
            go_wp2_with fail
            with_reducible refine AD.out.mono ?_
            rintro e w4 ⟨rfl, g4, k4⟩
            have D4 := Lib.hid (DN.out.kept k4 (by omega) (by omega) (by omega))
            have L4 := Lib.hid g4
            have K4 := Lib.hid (KN.out.step k4 (fun j hj q => by omega))
            have O4 := Lib.hid (ON.out.kept k4 (fun j hj q => AG.out (by rw [hj, q])))
            have B4 := Lib.hid (BX.out.kept k4 (by omega))
            have hs4 := k4.size
            clear AD g4 k4 BX DN LN KN ON p0 f0 t3 t4 t5 t6 t7
            by_cases h0 : E = 0
            · subst h0
              have KA3 := KA.out.2.2
              rw [if_pos rfl] at KA3
              have K3 := Lib.hid KA3
              clear KA3
              have p0 := cell_blk B4.out
              have f0 := fun i => B4.out.free i
              have hl6 : (L.has ++ L.wait).length ≤ 100000 := by have := KI0.out.small; rw [List.length_append]; omega
              obtain ⟨v5, w5, hrun5, o5, k5, b5⟩ := txts_push O4.out (by omega) s hl6
              obtain ⟨aok5, aV5, aW5⟩ := app_of hrun5
              have D5 := Lib.hid (D4.out.kept k5 (fun q => by have := (O4.out.far d q).1; omega) (fun q => by have := (O4.out.far bs q).1; omega) (fun q => by have := (O4.out.far m q).1; omega))
              have K5 := Lib.hid (K4.out.step k5 (fun j hj q => by have := (O4.out.far j q).1; omega))
              have O5 := Lib.hid o5
              have L5 := Lib.hid (L4.out.push (H := w4.heap.size + 1) AG.out (by omega) b5 k5)
              have AG5 : Hid (¬ v5.ownBlock = some g) := by
                intro q
                rcases b5 with z | z
                · exact AG.out (by rw [← z, q])
                · rw [z] at q; cases q; omega
              have B5 := Lib.hid (B4.out.kept k5 (fun q => by exact B4.out.not_own O4.out (by decide) q))
              clear hrun5 o5 k5 b5 D4 L4 K4 O4
              go_wp2_with fail
              go_meet
              refine ⟨D, addL L s, ?_, D5.out, L5.out, AG5.out, ?_, B5.out.lt, B5.out, KA.out.1.lok, K5.out, .inl ⟨KA.out.1.up (by omega), by have := HT.out; omega⟩⟩
              · rw [KA.out.2.1]
              · rw [K3.out]; exact O5.out
            · have gE : ¬ ((E : Nat) : Int) = 0 := by omega
              have KA3 := KA.out.2.2
              rw [if_neg h0] at KA3
              have K3 := Lib.hid KA3
              clear KA3 h0
              go_wp2_with fail
              go_meet
              refine ⟨D, addL L s, ?_, D4.out, L4.out, AG.out, ?_, B4.out.lt, B4.out, KA.out.1.lok, K4.out, .inl ⟨KA.out.1.up (by omega), by have := HT.out; omega⟩⟩
              · rw [KA.out.2.1]
              · rw [K3.out]; exact O4.out
        case rest =>
          obtain ⟨D2, L2, rfl, hd2', hl2, hag2, ho2, hX2, hb2, hok2, hk2, hst⟩ := hcut
          have DW := Lib.hid hd2'; have LW := Lib.hid hl2; have OW := Lib.hid ho2; have BW := Lib.hid hb2; have OKW := Lib.hid hok2; have KW := Lib.hid hk2; have AGW := Lib.hid hag2
          have OFF := Lib.hid (sd_off DW.out)
          have F1 := Lib.hid AN.out.fl_; have F2 := AN.out.fc_; have F3 := Lib.hid AN.out.fb; have F4 := Lib.hid (AC0.out.at_)
          have p0 := cell_blk BW.out
          have f0 := fun i => BW.out.free i
          clear hd2' hl2 ho2 hb2 hok2 hk2 hag2
          rcases hst with ⟨hki, h7⟩ | ⟨hdn, hoff⟩ | ⟨hui, h7⟩
          · have KI2 := Lib.hid hki
            rw [hki.off] at OFF
            have t7 : (((kk : Nat) : Int) == 7) = false := by simp; omega
            have t8 : (((kk : Nat) : Int) != 7) = true := by simp; omega
            clear hki h7
            go_wp2_with fail
            with_reducible refine OFF.out.mono ?_
            rintro e w4 ⟨rfl, rfl⟩
            go_wp2_with fail
            go_roundw
            case rel => exact ⟨i + 1, g, D2, L2, rfl, by go_num, by omega, rfl, KI2.out.up (by omega), DW.out, LW.out, AGW.out, hg0, OW.out, by omega, KW.out⟩
            case measure => simp [intOf]; omega
          · have UIX := Lib.hid fun (z : Unit) => hdn.power F3.out
            rw [hoff] at OFF
            clear hdn hoff
            go_wp2_with fail
            with_reducible refine OFF.out.mono ?_
            rintro e w4 ⟨rfl, rfl⟩
            have PW := Lib.hid (sd_power DW.out fa fl fc fs F1.out F2 F3.out (F4.out.same KW.out))
            have hog := LW.out.og
            have hdg : d ≠ g := fun q => hog (.inl q.symm)
            go_wp2_with fail
            with_reducible refine PW.out.mono ?_
            rintro e w5 ⟨rfl, h5, k5⟩
            have D5 := Lib.hid h5
            have L5 := Lib.hid (LW.out.disk k5)
            have K5 := Lib.hid (KW.out.step k5 (fun j hj q => by rcases q with q | q | q <;> omega))
            have O5 := Lib.hid (OW.out.kept k5 (fun j hj q => by have := (OW.out.far j hj).1; rcases q with q | q | q <;> omega))
            have hs5 := k5.size
            have U5 := Lib.hid (UIX.out ())
            have OPN := Lib.hid (U5.out.opens D5.out.ok (by omega))
            have EP := Lib.hid (wl_epoch L5.out.i)
            have OP := Lib.hid (wl_open D5.out 2 12 ((L2.epoch : Nat) : Int))
            clear PW h5 k5 DW LW KW OW BW p0 f0 hog UIX
            go_wp2_with fail
            with_reducible refine EP.out.mono ?_
            rintro e w6 ⟨rfl, rfl⟩
            go_wp2_with fail
            with_reducible refine OP.out.mono ?_
            rintro e w7 ⟨hp, k7⟩
            rw [if_pos OPN.out.1] at hp
            obtain ⟨y, rfl, hy, hyw⟩ := hp
            have OKY := Lib.hid (openL_ok D5.out.ok OPN.out.1)
            have LY := Lib.hid hy
            have D7 := Lib.hid (D5.out.same k7)
            have O7 := Lib.hid (O5.out.same k7)
            have K7 := Lib.hid (K5.out.trans k7)
            have OPP := Lib.hid OPN.out.2
            obtain ⟨D3, hD3⟩ : ∃ D3, powerD D2 fs = D3 := ⟨_, rfl⟩
            have hyl := hy.blk
            have hs7 := k7.size
            rw [hD3] at D7 OKY OPP LY
            obtain ⟨LL, hLL⟩ : ∃ LL, openL D3 2 12 ((L2.epoch : Nat) : Int) = LL := ⟨_, rfl⟩
            rw [hLL] at OKY OPP LY
            have RC := Lib.hid (wl_records LY.out (by have := OKY.out.hasl; omega))
            clear hy k7 D5 O5 K5 OP OPN U5 hD3 hLL EP L5
            go_wp2_with fail
            with_reducible refine RC.out.mono ?_
            rintro e w8 ⟨⟨v8, rfl, o8⟩, k8⟩
            obtain ⟨a8, l8, c8, rfl, hl8, hn8, ha8, hc8⟩ := OwnE.rd o8
            have D8 := Lib.hid (D7.out.same k8)
            have O8 := Lib.hid (O7.out.same k8)
            have K8 := Lib.hid (K7.out.trans k8)
            have LY8 := Lib.hid (LY.out.same k8)
            obtain ⟨a9, l9, c9, rfl, hl9, hn9, ha9, hc9⟩ := OwnE.rd O8.out
            have hs8 := k8.size
            have hsm : (L2.has ++ L2.wait).length ≤ 1000000 := by
              have := OKW.out.hasl
              have := OKW.out.wl
              rw [List.length_append]
              omega
            have BG := Lib.hid (begins_true a8 a9 l8 l9 c8 c9 LL.has (L2.has ++ L2.wait) hl8.out hl9.out hc9.out.1 (by have := hl9.out; omega) OKY.out.hb OPP.out.1 w8 ha8.out ha9.out)
            have g8 : ¬ ((l8 : Nat) : Int) < (L2.has.length : Int) := by have := OPP.out.2.1; have := hl8.out; omega
            clear RC k8 o8 D7 O7 K7 LY ha8 ha9 O8
            go_wp2_with fail
            with_reducible refine BG.out.mono ?_
            rintro e w9 ⟨rfl, k9⟩
            have D9 := Lib.hid (D8.out.same k9)
            have K9 := Lib.hid (K8.out.trans k9)
            have LY9 := Lib.hid (LY8.out.same k9)
            have EP := Lib.hid (wl_epoch LY9.out)
            have RS := Lib.hid (wl_restartP LY9.out.p ((L2.epoch : Int) + 1))
            rw [OPP.out.2.2.1] at EP
            rw [OPP.out.2.2.2.1] at RS
            have hep : L2.epoch ≤ 1099511627776 := OKW.out.ep.2
            have gw : IntKind.i64.wrap ((L2.epoch : Int) + 1) = (L2.epoch : Int) + 1 := IntWalk.i64_in _ (by omega)
            have hs9 := k9.size
            have hog := LY9.out.og
            have hdy : d ≠ y := fun q => hog (.inl q.symm)
            have hby : bs ≠ y := fun q => hog (.inr (.inl q.symm))
            have hmy : m ≠ y := fun q => hog (.inr (.inr q.symm))
            clear BG k9 D8 K8 LY8 hog
            go_wp2_with fail
            with_reducible refine EP.out.mono ?_
            rintro e w10 ⟨rfl, rfl⟩
            go_wp2_with fail
            with_reducible refine RS.out.mono ?_
            rintro e w11 ⟨rfl, g11, k11⟩
            have D11 := Lib.hid (D9.out.kept k11 hdy hby hmy)
            have L11 := Lib.hid (g11.mono (Q := fun j => ¬ (Value.slice none 0 0).ownBlock = some j) (fun _ _ _ q => by cases q))
            have K11 := Lib.hid (K9.out.step k11 (fun j hj q => by omega))
            have hs11 := k11.size
            clear RS EP g11 k11 D9 K9 LY9
            go_wp2_with fail
            go_roundw
            case rel =>
              refine ⟨i + 1, y, D3, restartL LL ((L2.epoch : Int) + 1), rfl, by go_num, by omega, ?_, OPP.out.2.2.2.2.1.up (by omega), D11.out, L11.out, (fun q => by cases q), by omega, ?_, by omega, K11.out⟩
              · rw [OPP.out.2.2.2.2.2.1]; rfl
              · rw [OPP.out.2.2.2.2.2.1, OPP.out.2.2.2.2.2.2]; exact OwnE.nil _ _ _
            case measure => simp [intOf]; omega
          · subst h7
            have UIX := Lib.hid fun (z : Unit) => hui.power F3.out
            rw [hui.off] at OFF
            clear hui
            go_wp2_with fail
            with_reducible refine OFF.out.mono ?_
            rintro e w4 ⟨rfl, rfl⟩
            have PW := Lib.hid (sd_power DW.out fa fl fc fs F1.out F2 F3.out (F4.out.same KW.out))
            have hog := LW.out.og
            have hdg : d ≠ g := fun q => hog (.inl q.symm)
            go_wp2_with fail
            with_reducible refine PW.out.mono ?_
            rintro e w5 ⟨rfl, h5, k5⟩
            have D5 := Lib.hid h5
            have L5 := Lib.hid (LW.out.disk k5)
            have K5 := Lib.hid (KW.out.step k5 (fun j hj q => by rcases q with q | q | q <;> omega))
            have O5 := Lib.hid (OW.out.kept k5 (fun j hj q => by have := (OW.out.far j hj).1; rcases q with q | q | q <;> omega))
            have hs5 := k5.size
            have U5 := Lib.hid (UIX.out ())
            have OPN := Lib.hid (U5.out.opens D5.out.ok (by omega))
            have EP := Lib.hid (wl_epoch L5.out.i)
            have OP := Lib.hid (wl_open D5.out 2 12 ((L2.epoch : Nat) : Int))
            clear PW h5 k5 DW LW KW OW BW p0 f0 hog UIX
            go_wp2_with fail
            with_reducible refine EP.out.mono ?_
            rintro e w6 ⟨rfl, rfl⟩
            go_wp2_with fail
            with_reducible refine OP.out.mono ?_
            rintro e w7 ⟨hp, k7⟩
            rw [if_pos OPN.out.1] at hp
            obtain ⟨y, rfl, hy, hyw⟩ := hp
            have OKY := Lib.hid (openL_ok D5.out.ok OPN.out.1)
            have LY := Lib.hid hy
            have D7 := Lib.hid (D5.out.same k7)
            have O7 := Lib.hid (O5.out.same k7)
            have K7 := Lib.hid (K5.out.trans k7)
            have OPP := Lib.hid OPN.out.2
            obtain ⟨D3, hD3⟩ : ∃ D3, powerD D2 fs = D3 := ⟨_, rfl⟩
            have hyl := hy.blk
            have hs7 := k7.size
            rw [hD3] at D7 OKY OPP LY
            obtain ⟨LL, hLL⟩ : ∃ LL, openL D3 2 12 ((L2.epoch : Nat) : Int) = LL := ⟨_, rfl⟩
            rw [hLL] at OKY OPP LY
            have RC := Lib.hid (wl_records LY.out (by have := OKY.out.hasl; omega))
            clear hy k7 D5 O5 K5 OP OPN U5 hD3 hLL EP L5
            go_wp2_with fail
            with_reducible refine RC.out.mono ?_
            rintro e w8 ⟨⟨v8, rfl, o8⟩, k8⟩
            obtain ⟨a8, l8, c8, rfl, hl8, hn8, ha8, hc8⟩ := OwnE.rd o8
            have D8 := Lib.hid (D7.out.same k8)
            have O8 := Lib.hid (O7.out.same k8)
            have K8 := Lib.hid (K7.out.trans k8)
            have LY8 := Lib.hid (LY.out.same k8)
            obtain ⟨a9, l9, c9, rfl, hl9, hn9, ha9, hc9⟩ := OwnE.rd O8.out
            have hs8 := k8.size
            have hsm : (L2.has ++ L2.wait).length ≤ 1000000 := by
              have := OKW.out.hasl
              have := OKW.out.wl
              rw [List.length_append]
              omega
            have BG := Lib.hid (begins_true a8 a9 l8 l9 c8 c9 LL.has (L2.has ++ L2.wait) hl8.out hl9.out hc9.out.1 (by have := hl9.out; omega) OKY.out.hb OPP.out.1 w8 ha8.out ha9.out)
            have g8 : ¬ ((l8 : Nat) : Int) < (L2.has.length : Int) := by have := OPP.out.2.1; have := hl8.out; omega
            clear RC k8 o8 D7 O7 K7 LY ha8 ha9 O8
            go_wp2_with fail
            with_reducible refine BG.out.mono ?_
            rintro e w9 ⟨rfl, k9⟩
            have D9 := Lib.hid (D8.out.same k9)
            have K9 := Lib.hid (K8.out.trans k9)
            have LY9 := Lib.hid (LY8.out.same k9)
            have EP := Lib.hid (wl_epoch LY9.out)
            have RS := Lib.hid (wl_restartP LY9.out.p ((L2.epoch : Int) + 1))
            rw [OPP.out.2.2.1] at EP
            rw [OPP.out.2.2.2.1] at RS
            have hep : L2.epoch ≤ 1099511627776 := OKW.out.ep.2
            have gw : IntKind.i64.wrap ((L2.epoch : Int) + 1) = (L2.epoch : Int) + 1 := IntWalk.i64_in _ (by omega)
            have hs9 := k9.size
            have hog := LY9.out.og
            have hdy : d ≠ y := fun q => hog (.inl q.symm)
            have hby : bs ≠ y := fun q => hog (.inr (.inl q.symm))
            have hmy : m ≠ y := fun q => hog (.inr (.inr q.symm))
            clear BG k9 D8 K8 LY8 hog
            go_wp2_with fail
            with_reducible refine EP.out.mono ?_
            rintro e w10 ⟨rfl, rfl⟩
            go_wp2_with fail
            with_reducible refine RS.out.mono ?_
            rintro e w11 ⟨rfl, g11, k11⟩
            have D11 := Lib.hid (D9.out.kept k11 hdy hby hmy)
            have L11 := Lib.hid (g11.mono (Q := fun j => ¬ (Value.slice none 0 0).ownBlock = some j) (fun _ _ _ q => by cases q))
            have K11 := Lib.hid (K9.out.step k11 (fun j hj q => by omega))
            have hs11 := k11.size
            clear RS EP g11 k11 D9 K9 LY9
            go_wp2_with fail
            go_roundw
            case rel =>
              refine ⟨i + 1, y, D3, restartL LL ((L2.epoch : Int) + 1), rfl, by go_num, by omega, ?_, OPP.out.2.2.2.2.1.up (by omega), D11.out, L11.out, (fun q => by cases q), by omega, ?_, by omega, K11.out⟩
              · rw [OPP.out.2.2.2.2.2.1]; rfl
              · rw [OPP.out.2.2.2.2.2.1, OPP.out.2.2.2.2.2.2]; exact OwnE.nil _ _ _
            case measure => simp [intOf]; omega
      · have g1 : ¬ (i : Int) < (len : Int) := by omega
        go_wp2_with fail
        refine (aw10 _).mono ?_
        rintro e w' ⟨rfl, k⟩
        go_wp2_with fail
        go_ret
        exact ⟨rfl, K.out.trans k⟩
  · have hr' : fewA A len 40 = false := by cases h : fewA A len 40 with | false => rfl | true => exact absurd h hr
    rw [hr'] at FEW
    clear hr hr' hacts
    go_enter Try.func11, Try.ntmps11
    go_wp2_with fail
    with_reducible refine FEW.out.mono ?_
    rintro e w0 ⟨rfl, rfl⟩
    go_wp2_with fail
    refine (aw10 _).mono ?_
    rintro e w' ⟨rfl, k⟩
    go_wp2_with fail
    go_ret
    exact ⟨rfl, k⟩
end
end Go.Proofs.Ytlmpkonfclnceaa
