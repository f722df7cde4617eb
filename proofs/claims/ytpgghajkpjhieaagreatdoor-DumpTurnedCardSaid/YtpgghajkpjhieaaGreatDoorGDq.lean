/- GDq: Dd6, Dd7. -/
import Derived.Test.YtpgghajkpjhieaaGreatDoorDd5
import Derived.Test.YtpgghajkpjhieaaGreatDoorDSame
import Derived.Test.YtpgghajkpjhieaaGreatDoorGDm
namespace Go.Proofs.YtpgghajkpjhieaaGreatDoor
open Go.RowKit Go.Sort

def Lgt1 (p : HPr) : Prop := p.1.length ≤ 100 ∧ p.2.length ≤ 100
instance (p : HPr) : Decidable (Lgt1 p) := by unfold Lgt1; infer_instance
def Lgts (l : List HPr) : Prop := ∀ p ∈ l, Lgt1 p
instance (l : List HPr) : Decidable (Lgts l) := by unfold Lgts; infer_instance
/-- Few and small enough. -/
def lgt (L : List HPr) (most : Nat) : Bool := decide (L.length ≤ most ∧ Lgts L)
set_option maxRecDepth 100000 in
set_option maxHeartbeats 800000 in
theorem rdump_light (a : Option Addr) (n c most : Nat) (L : List HPr) (hn : n = L.length) (hm : most ≤ 1000) (w : World) (hat : ElsAt prE w a L) :
    Calls Tryz.prog 6 #[.slice a n c, .int .i64 (most : Nat)] w fun e w' => e = .returned (.bool (lgt L most)) ∧ w' = w := by
  by_cases hl : n ≤ most
  · have HN := Lib.hid hn; have HAT := Lib.hid hat; have HL := Lib.hid hl
    have g0 : ¬ (most : Int) < (n : Int) := by omega
    clear hn hat hl
    go_enter Tryz.func6, Tryz.ntmps6
    go_wp2_with fail
    go_loop [5] (fun t => ∃ (i : Nat), t = .int .i64 i ∧ i ≤ n ∧ Lgts (L.take i)) (fun t => n - (intOf t).toNat)
    case atStart => exact ⟨0, rfl, by omega, fun p hp => by simp at hp⟩
    case round =>
      obtain ⟨i, rfl, hi, hfi⟩ := hrel
      have FI := Lib.hid hfi
      clear hfi
      by_cases hgo : i < n
      · have hil : i < L.length := by have := HN.out; omega
        obtain ⟨b, off, rfl, hbl, hc⟩ := prq_at HAT.out hil
        obtain ⟨c0, c1⟩ := hc _ (Kept.refl _ _)
        have NO : Hid (¬ Lgt1 L[i] → lgt L most = false) := fun h => decide_eq_false fun q => h (q.2 _ (List.getElem_mem hil))
        have YES : Hid (Lgt1 L[i] → Lgts (L.take (i + 1))) := fun h p hp => by
          rw [← List.take_append_getElem hil, List.mem_append, List.mem_singleton] at hp
          rcases hp with hp | rfl
          · exact FI.out p hp
          · exact h
        obtain ⟨x, hx⟩ : ∃ x, L[i] = x := ⟨_, rfl⟩
        rw [hx] at c0 c1 NO YES
        have g1 : (i : Int) < (n : Int) := by omega
        have g2 : (0 : Int) ≤ (i : Int) := by omega
        have hm' : n ≤ 1000 := Nat.le_trans HL.out hm
        clear hc hx
        by_cases h16 : x.1.length ≤ 100
        · have f16 : ¬ (100 : Int) < (x.1.length : Int) := by omega
          by_cases h24 : x.2.length ≤ 100
          · have f24 : ¬ (100 : Int) < (x.2.length : Int) := by omega
            have ST := Lib.hid (YES.out ⟨h16, h24⟩)
            clear NO YES h16 h24
            go_wp2_with fail
            go_round
            case rel => exact ⟨i + 1, by go_num, by omega, ST.out⟩
            case measure => simp [intOf]; omega
          · have f24 : (100 : Int) < (x.2.length : Int) := by omega
            have NE := Lib.hid (NO.out fun h => h24 h.2)
            clear NO YES h16 h24
            go_wp2_with fail
            go_ret
            exact ⟨by rw [NE.out]; rfl, rfl⟩
        · have f16 : (100 : Int) < (x.1.length : Int) := by omega
          have NE := Lib.hid (NO.out fun h => h16 h.1)
          clear NO YES h16
          go_wp2_with fail
          go_ret
          exact ⟨by rw [NE.out]; rfl, rfl⟩
      · have g2 : ¬ (i : Int) < (n : Int) := by omega
        have YE : Hid (lgt L most = true) := decide_eq_true ⟨by rw [← HN.out]; exact HL.out, by have := FI.out; rw [show i = L.length by have := HN.out; omega, List.take_length] at this; exact this⟩
        go_wp2_with fail
        go_ret
        exact ⟨by rw [YE.out]; rfl, rfl⟩
  · have NE : Hid (lgt L most = false) := decide_eq_false fun q => hl (by rw [hn]; exact q.1)
    have g0 : (most : Int) < (n : Int) := by omega
    go_enter Tryz.func6, Tryz.ntmps6
    go_wp2_with fail
    go_ret
    exact ⟨by rw [NE.out]; rfl, rfl⟩
theorem got_len {b : List Nat} {e : Nat} {l : List HPr} (h : GotD b e l) : l.length ≤ 15000 := by
  rcases h with ⟨-, -, -, rfl⟩ | ⟨-, -, rfl, -⟩ | ⟨-, h⟩
  · simp
  · simp
  · exact (put_facts h).2.2.2.1
set_option maxRecDepth 100000 in
set_option maxHeartbeats 800000 in
theorem puts_any (w : World) (hT : TabOK w) (a a' : Option Addr) (n m c c' : Nat) (L : List HPr) (b : List Nat) (hn : n = L.length) (hm : m = b.length) (hC : m ≤ c') (hb : Bts b) (hat : ElsAt prE w a L) (hat' : NatsAt w .u8 a' b) :
    Calls Tryz.prog 3 #[.slice a n c, .slice a' m c'] w fun e w' => e = .returned (.bool true) ∧ Same w w' := by
  have AW := Lib.hid (fun w' (k : Same w w') => aw30 w' (hT.same k))
  have LI := rdump_light a n c 40 L hn (by decide) w hat
  rw [show ((40 : Nat) : Int) = 40 from rfl] at LI
  obtain ⟨q, hq⟩ : ∃ q, lgt L 40 = q := ⟨_, rfl⟩
  rw [hq] at LI
  cases q
  · clear hq hn hm hC hat hat' hT
    go_enter Tryz.func3, Tryz.ntmps3
    go_wp2_with fail
    with_reducible refine LI.mono ?_
    rintro e w1 ⟨rfl, rfl⟩
    go_wp2_with fail
    with_reducible refine (AW.out _ (Kept.refl (fun _ => False) w1)).mono ?_
    rintro e w9 ⟨rfl, k9⟩
    have K9 := Lib.hid (Kept.trans (Kept.refl (fun _ => False) w1) k9)
    clear k9
    go_wp2_with fail
    go_ret
    exact ⟨rfl, K9.out⟩
  · by_cases h15 : m ≤ 1500
    · have hlg := of_decide_eq_true hq
      have hl40 : n ≤ 40 := by rw [hn]; exact hlg.1
      have DP := Lib.hid (dump_put a n c L hn (by omega) w hat)
      have RP := Lib.hid (fun w' (k : Same w w') => rdump_put a n c L hn (by omega) w' (hat.same k))
      have DG := Lib.hid (fun w' (k : Same w w') => dump_get a' m c' b hm (by omega) hC hb w' (hat'.same k))
      have RG := Lib.hid (fun w' (k : Same w w') => rdump_get a' m c' b hm (by omega) hC hb w' (hat'.same k))
      have DK := Lib.hid (fun w' (k : Same w w') => dump_check a n c L hn (by omega) w' (hat.same k))
      have RK := Lib.hid (fun w' (k : Same w w') => rdump_check a n c L hn (by omega) w' (hat.same k))
      have PB := Lib.hid (put_bts L)
      obtain ⟨P, hP⟩ : ∃ P, (putL L).1 = P := ⟨_, rfl⟩
      obtain ⟨er, her⟩ : ∃ er, (putL L).2 = er := ⟨_, rfl⟩
      obtain ⟨ck, hck⟩ : ∃ ck, chkD L = ck := ⟨_, rfl⟩
      rw [hP] at PB
      simp only [hP, her] at DP RP
      rw [hck] at DK RK
      obtain ⟨lp, hlp⟩ : ∃ lp, P.length = lp := ⟨_, rfl⟩
      simp only [hlp] at RP
      have HLP := Lib.hid hlp
      have g15 : ¬ (1500 : Int) < (m : Int) := by omega
      clear hlg hq hn hm hC hat hat' hT hP her hck hlp hb h15
      go_enter Tryz.func3, Tryz.ntmps3
      go_wp2_with fail
      with_reducible refine LI.mono ?_
      rintro e w0 ⟨rfl, rfl⟩
      go_wp2_with fail
      with_reducible refine DP.out.mono ?_
      rintro e w1 ⟨v1, rfl, o1, k1⟩
      obtain ⟨a1, l1, c1, rfl, hl1, -, n1, -⟩ := o1.rd
      have K1 := Lib.hid k1
      have N1 := Lib.hid n1.out
      have L1 := Lib.hid hl1.out
      clear k1 o1 n1 hl1 DP LI
      go_wp2_with fail
      with_reducible refine (RP.out _ K1.out).mono ?_
      rintro e w2 ⟨a2, c2, rfl, n2, k2⟩
      have K2 := Lib.hid (K1.out.trans k2)
      have N1' := Lib.hid (N1.out.same k2)
      have N2 := Lib.hid n2
      clear k2 n2 RP K1 N1
      go_wp2_with fail
      with_reducible refine (DG.out _ K2.out).mono ?_
      rintro e w3 ⟨a3, c3, L3, e3, rfl, G3, at3, k3⟩
      have K3 := Lib.hid (K2.out.trans k3)
      have N1 := Lib.hid (N1'.out.same k3)
      have N2' := Lib.hid (N2.out.same k3)
      have A3 := Lib.hid at3
      have GG := Lib.hid G3
      clear k3 DG K2 N1' N2 at3 G3
      go_wp2_with fail
      with_reducible refine (RG.out _ K3.out).mono ?_
      rintro e w4 ⟨a4, c4, L4, e4, rfl, G4, at4, k4⟩
      obtain ⟨rfl, rfl⟩ := got_one G4 GG.out
      have K4 := Lib.hid (K3.out.trans k4)
      have hv1 := conv_str a1 l1 c1 P w4 L1.out (N1.out.same k4)
      have hv2 := conv_str a2 lp c2 P w4 HLP.out.symm (N2'.out.same k4)
      have RS := Lib.hid (fun w' (k : Same w4 w') => rdump_same a3 a4 L4.length L4.length c3 c4 L4 L4 rfl rfl (by have := got_len G4; omega) w' ((A3.out.same k4).same k) (at4.same k))
      have dt : decide (L4 = L4) = true := decide_eq_true rfl
      rw [dt] at RS
      obtain ⟨l4, hl4⟩ : ∃ l4, L4.length = l4 := ⟨_, rfl⟩
      simp only [hl4] at RS ⊢
      obtain ⟨Z, hZ⟩ : ∃ Z, strN P = Z := ⟨_, rfl⟩
      rw [hZ] at hv1 hv2
      clear k4 RG K3 N1 N2' A3 GG G4 at4 dt hl4 hZ
      go_wp2_with fail
      with_reducible refine (DK.out _ K4.out).mono ?_
      rintro e w5 ⟨rfl, k5⟩
      have K5 := Lib.hid (K4.out.trans k5)
      have J5 := Lib.hid k5
      clear k5 DK hv1 hv2
      go_wp2_with fail
      with_reducible refine (RK.out _ K5.out).mono ?_
      rintro e w6 ⟨rfl, k6⟩
      have K6 := Lib.hid (K5.out.trans k6)
      have J6 := Lib.hid (J5.out.trans k6)
      clear k6 RK J5 K5
      go_wp2_with fail
      with_reducible refine (RS.out _ J6.out).mono ?_
      rintro e w7 ⟨rfl, k7⟩
      have K7 := Lib.hid (K6.out.trans k7)
      clear k7 RS J6 K6
      go_wp2_with fail
      with_reducible refine (AW.out _ K7.out).mono ?_
      rintro e w9 ⟨rfl, k9⟩
      have K9 := Lib.hid (Kept.trans K7.out k9)
      clear k9
      go_wp2_with fail
      go_ret
      exact ⟨rfl, K9.out⟩
    · have g15 : (1500 : Int) < (m : Int) := by omega
      clear hq hn hm hC hat hat' hT hb h15
      go_enter Tryz.func3, Tryz.ntmps3
      go_wp2_with fail
      with_reducible refine LI.mono ?_
      rintro e w1 ⟨rfl, rfl⟩
      go_wp2_with fail
      with_reducible refine (AW.out _ (Kept.refl (fun _ => False) w1)).mono ?_
      rintro e w9 ⟨rfl, k9⟩
      have K9 := Lib.hid (Kept.trans (Kept.refl (fun _ => False) w1) k9)
      clear k9
      go_wp2_with fail
      go_ret
      exact ⟨rfl, K9.out⟩
end Go.Proofs.YtpgghajkpjhieaaGreatDoor

namespace Go.Proofs.YtpgghajkpjhieaaGreatDoor
open Go.RowKit Go.Sort

theorem bits_xor8 (a b : Nat) (ha : a < 256) (hb : b < 256) : bits .xor .u8 (a : Int) (b : Int) = ((a ^^^ b : Nat) : Int) := by
  have h1 : (BitVec.ofInt 8 (a : Int)).toNat = a := by
    rw [BitVec.ofInt_natCast, BitVec.toNat_ofNat]; exact Nat.mod_eq_of_lt (by omega)
  have h2 : (BitVec.ofInt 8 (b : Int)).toNat = b := by
    rw [BitVec.ofInt_natCast, BitVec.toNat_ofNat]; exact Nat.mod_eq_of_lt (by omega)
  have h3 : a ^^^ b < 256 := by
    have : a ^^^ b < 2 ^ 8 := Nat.xor_lt_two_pow (by omega) (by omega)
    omega
  show IntKind.u8.wrap ((BitVec.ofInt 8 (a : Int) ^^^ BitVec.ofInt 8 (b : Int)).toNat : Int) = _
  rw [BitVec.toNat_xor, h1, h2]
  exact IntWalk.u8_in _ (by omega)
theorem xor_ne {a d : Nat} (hd : d ≠ 0) : a ^^^ d ≠ a := by
  intro h
  apply hd
  have h1 : a ^^^ (a ^^^ d) = a ^^^ a := by rw [h]
  rw [← Nat.xor_assoc, Nat.xor_self, Nat.zero_xor] at h1
  exact h1
/-- With one byte changed a dump is got as none. -/
theorem turned_got {L : List HPr} {b : List Nat} (h : putL L = (b, 0)) (hb : Bts b) {i : Nat} (hi : i < b.length) {c : Nat} (hc : c < 256) (hne : c ≠ b[i]) {e : Nat} {l : List HPr} (hg : GotD (b.set i c) e l) : e = 10 := by
  obtain ⟨h8, hbad, -⟩ := put_facts h
  have ht := turned_bad hb hbad hi hc hne
  rcases hg with ⟨rfl, -⟩ | ⟨-, q, -⟩ | ⟨-, q⟩
  · rfl
  · exact absurd ht (q (by rw [List.length_set]; exact h8))
  · exact absurd ht (put_facts q).2.1
theorem put_lgt {L : List HPr} {b : List Nat} (h : putL L = (b, 0)) (hl : L.length ≤ 30) : 9 ≤ b.length ∧ b.length ≤ 3000 := by
  obtain ⟨h1, h2⟩ := put_ok h
  obtain ⟨-, hf, -⟩ := chk_zero h1
  have h3 := layT_pos L
  have h4 : (layP L).length ≤ 84 * L.length := by
    clear h h1 h2 hl h3
    induction L with
    | nil => simp [layP]
    | cons p l ih =>
      have f1 := hf p (by simp)
      have q1 := putT_len (natsU p.1)
      have q2 := putT_len (natsU p.2)
      rw [natsU_len] at q1 q2
      have q3 := ih (fun q hq => hf q (by simp [hq]))
      rw [layP_cons, List.length_append, List.length_cons, layQ, List.length_append]
      have e1 := f1.1
      have e2 := f1.2
      omega
  have h5 := putSmall_len L.length
  have h6 : (layT L).length = (putSmall L.length).length + (layP L).length := by simp [layT]
  have h7 := sealS_len (b := layT L) (Nat.le_refl _)
  rw [h2] at h7
  omega
set_option maxRecDepth 100000 in
set_option maxHeartbeats 1600000 in
theorem turned_any (w : World) (hT : TabOK w) (a : Option Addr) (n c at' by' : Nat) (L : List HPr) (hn : n = L.length) (hat : ElsAt prE w a L) (ha : at' < 65536) (hby : by' < 256) :
    Calls Tryz.prog 5 #[.slice a n c, .int .u16 (at' : Nat), .int .u8 (by' : Nat)] w fun e w' => e = .returned (.bool true) ∧ Same w w' := by
  have AW := Lib.hid (fun w' (k : Same w w') => aw30 w' (hT.same k))
  have LI := rdump_light a n c 30 L hn (by decide) w hat
  rw [show ((30 : Nat) : Int) = 30 from rfl] at LI
  obtain ⟨q, hq⟩ : ∃ q, lgt L 30 = q := ⟨_, rfl⟩
  rw [hq] at LI
  cases q
  · clear hq hn hat hT
    go_enter Tryz.func5, Tryz.ntmps5
    go_wp2_with fail
    with_reducible refine LI.mono ?_
    rintro e w1 ⟨rfl, rfl⟩
    go_wp2_with fail
    with_reducible refine (AW.out _ (Kept.refl (fun _ => False) w1)).mono ?_
    rintro e w9 ⟨rfl, k9⟩
    have K9 := Lib.hid (Kept.trans (Kept.refl (fun _ => False) w1) k9)
    clear k9
    go_wp2_with fail
    go_ret
    exact ⟨rfl, K9.out⟩
  · have hlg := of_decide_eq_true hq
    have hl30 : L.length ≤ 30 := hlg.1
    have DP := Lib.hid (dump_put a n c L hn (by omega) w hat)
    have PB := Lib.hid (put_bts L)
    have HAT := Lib.hid hat
    have HN := Lib.hid hn
    by_cases h0 : (putL L).2 = 0
    · have HP : Hid (putL L = ((putL L).1, 0)) := by show _ = _; rw [← h0]
      obtain ⟨hp9, hp30⟩ := put_lgt HP.out hl30
      rw [h0] at DP
      obtain ⟨P, hP⟩ : ∃ P, (putL L).1 = P := ⟨_, rfl⟩
      rw [hP] at PB HP hp9 hp30 DP
      have H30 := Lib.hid hl30
      clear hlg hq hn hat hT hP h0 hl30
      go_enter Tryz.func5, Tryz.ntmps5
      go_wp2_with fail
      with_reducible refine LI.mono ?_
      rintro e w0 ⟨rfl, rfl⟩
      go_wp2_with fail
      with_reducible refine DP.out.mono ?_
      rintro e w1 ⟨v1, rfl, o1, k1⟩
      simp only [Int.natCast_zero]
      obtain ⟨a1, cap1, rfl, hle1, hcm1, -, hat1, hfar1⟩ := o1.read
      obtain ⟨g, rfl⟩ : ∃ g, a1 = some ⟨g, 0, none⟩ := by
        rcases o1.2 with ⟨q, -⟩ | ⟨g, cap, cur, q, -⟩
        · simp only [Value.slice.injEq] at q; omega
        · simp only [Value.slice.injEq] at q; exact ⟨g, q.1⟩
      obtain ⟨l1, hl1⟩ : ∃ l1, P.length = l1 := ⟨_, rfl⟩
      have HL1 := Lib.hid hl1
      have DG := dump_get (some ⟨g, 0, none⟩) P.length cap1 P rfl hp30 hle1 PB.out w1 hat1
      rw [hl1] at DG hp9 hp30 o1 hle1 ⊢
      have O1 := Lib.hid o1
      have K1 := Lib.hid k1
      have C1 := Lib.hid hle1
      have GL := Lib.hid ((OwnN.lt o1).1)
      clear DP LI o1 k1 hat1 hfar1 hl1 hle1 hcm1
      go_wp2_with fail
      refine DG.mono ?_
      rintro e w2 ⟨a2, c2, L2, e2, rfl, G2, at2, k2⟩
      obtain ⟨rfl, rfl⟩ := got_one G2 (.inr (.inr ⟨rfl, HP.out⟩))
      have K2 := Lib.hid (K1.out.trans k2)
      have O2 := Lib.hid (O1.out.same k2)
      have RS := rdump_same a a2 n L2.length c c2 L2 L2 HN.out rfl (by have := H30.out; have := HN.out; omega) w2 (HAT.out.same K2.out) at2
      rw [show decide (L2 = L2) = true from decide_eq_true rfl] at RS
      obtain ⟨l2, hl2⟩ : ∃ l2, L2.length = l2 := ⟨_, rfl⟩
      rw [hl2] at RS ⊢
      simp only [Int.natCast_zero]
      clear k2 K1 O1 G2 at2 DG hl2 HAT
      have g9 : ¬ (l1 : Int) < 9 := by omega
      go_wp2_with fail
      with_reducible refine RS.mono ?_
      rintro e w3 ⟨rfl, k3⟩
      have K3 := Lib.hid (K2.out.trans k3)
      have O3 := O2.out.same k3
      have hp := HL1.out
      obtain ⟨i, hi⟩ : ∃ i, at' % l1 = i := ⟨_, rfl⟩
      have hil : i < l1 := by rw [← hi]; exact Nat.mod_lt _ (by omega)
      have hiP : i < P.length := by omega
      have ci := OwnN.cell O3 hp (j := i) (x := P[i]) (List.getElem?_eq_getElem hiP)
      have fi := OwnN.free O3 hp i
      have hx := PB.out P[i] (List.getElem_mem hiP)
      have hd : 1 + by' % 255 < 256 := by omega
      have BX : bits .xor .u8 (P[i] : Int) (1 + (by' : Int) % 255) = ((P[i] ^^^ (1 + by' % 255) : Nat) : Int) := by
        have := bits_xor8 P[i] (1 + by' % 255) hx hd
        rw [← this]
        congr 1
      have hc : P[i] ^^^ (1 + by' % 255) < 256 := by
        have : P[i] ^^^ (1 + by' % 255) < 2 ^ 8 := Nat.xor_lt_two_pow (by omega) (by omega)
        omega
      have hne : P[i] ^^^ (1 + by' % 255) ≠ P[i] := xor_ne (by omega)
      have TG := Lib.hid (fun (er : Nat) (l : List HPr) => turned_got HP.out PB.out hiP hc hne (e := er) (l := l))
      have hM : (at' : Int) % (l1 : Int) = (i : Int) := by omega
      generalize P[i] ^^^ (1 + by' % 255) = d at *
      generalize P[i] = x at *
      have O4 := Lib.hid (OwnN.set O3 hp i d)
      have KS := Lib.hid (K3.out.turn ((Kept.refl (fun j => j = g) w3).setG i (.int .u8 (d : Nat))) GL.out)
      have PB4 : Hid (Bts (P.set i d)) := fun y hy => by
        rcases List.mem_or_eq_of_mem_set hy with h | rfl
        · exact PB.out y h
        · exact hc
      clear k3 RS K2 O2 hi hp hx hd hc hne O3
      go_wp2_with fail
      have DG := dump_get (some ⟨g, 0, none⟩) l1 cap1 (P.set i d) (by rw [List.length_set]; exact HL1.out.symm) hp30 C1.out PB4.out _ O4.out.nats
      refine DG.mono ?_
      rintro e w5 ⟨a5, c5, L5, e5, rfl, G5, -, k5⟩
      obtain rfl := TG.out _ _ G5
      have K5 := Lib.hid (KS.out.trans k5)
      obtain ⟨l5, hl5⟩ : ∃ l5, L5.length = l5 := ⟨_, rfl⟩
      rw [hl5]
      simp only [show ((10 : Nat) : Int) = 10 from rfl]
      clear k5 G5 hl5 DG O4 KS ci fi BX hM TG PB4
      go_wp2_with fail
      with_reducible refine (AW.out _ K5.out).mono ?_
      rintro e w9 ⟨rfl, k9⟩
      have K9 := Lib.hid (Kept.trans K5.out k9)
      clear k9
      go_wp2_with fail
      go_ret
      exact ⟨rfl, K9.out⟩
    · have E0 : Hid ((putL L).1 = []) := by
        show _ = _
        unfold putL at h0 ⊢
        split
        · rename_i q; rw [if_pos q] at h0; exact absurd rfl h0
        · rfl
      rw [E0.out] at DP
      obtain ⟨er, her⟩ : ∃ er, (putL L).2 = er := ⟨_, rfl⟩
      rw [her] at DP h0
      have h1 : ((er : Int) != 0) = true := by simpa using h0
      clear hlg hq hn hat hT h0 hl30 her PB
      go_enter Tryz.func5, Tryz.ntmps5
      go_wp2_with fail
      with_reducible refine LI.mono ?_
      rintro e w0 ⟨rfl, rfl⟩
      go_wp2_with fail
      with_reducible refine DP.out.mono ?_
      rintro e w1 ⟨v1, rfl, o1, k1⟩
      obtain ⟨a1, l1, c1, rfl, hl1, -, -, -⟩ := o1.rd
      obtain rfl : l1 = 0 := hl1.out
      have K1 := Lib.hid k1
      clear k1 o1 hl1 DP LI
      go_wp2_with fail
      with_reducible refine (AW.out _ K1.out).mono ?_
      rintro e w9 ⟨rfl, k9⟩
      have K9 := Lib.hid (Kept.trans K1.out k9)
      clear k9
      go_wp2_with fail
      go_ret
      exact ⟨rfl, K9.out⟩
end Go.Proofs.YtpgghajkpjhieaaGreatDoor
