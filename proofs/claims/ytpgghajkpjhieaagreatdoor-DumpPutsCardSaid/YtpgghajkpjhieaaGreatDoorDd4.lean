/- Dd4: the program reads a dump. -/
import Derived.Test.YtpgghajkpjhieaaGreatDoorGDp
import Derived.Test.YtpgghajkpjhieaaGreatDoorGDo
import Derived.Lib.MinMax
namespace Go.Proofs.YtpgghajkpjhieaaGreatDoor
open Go.RowKit Go.Sort

theorem rdSmall_bytes {xs : List Nat} {er : Nat} (h : Bytes xs) : Bytes (rdSmall xs er).1 := by
  unfold rdSmall
  split
  · exact h
  · split
    · exact h
    · split
      · exact h
      · exact fun x hx => h x (List.mem_of_mem_drop hx)
theorem rdSmall_le (xs : List Nat) (er : Nat) : (rdSmall xs er).1.length ≤ xs.length ∧ (rdSmall xs er).2.2 ≤ 1099511627776 := by
  unfold rdSmall
  split
  · exact ⟨Nat.le_refl _, by simp⟩
  · split
    · exact ⟨Nat.le_refl _, by simp⟩
    · split
      · exact ⟨Nat.le_refl _, by simp⟩
      · exact ⟨by simp, by simp; omega⟩

theorem ord_new (a : Option Addr) (cap : Nat) (xs : List Nat) (w : World) (hat : NatsAt w .u8 a xs) (hl : xs.length ≤ 140737488355328) (hnil : a = none → xs = []) :
    Calls Tryz.prog 25 #[.slice a xs.length cap] w fun e w' => ∃ g a' cap', e = .returned (.pointer (some ⟨g, 0, none⟩)) ∧ w.heap.size ≤ g ∧ (∀ x, a' = some x → w.heap.size ≤ x.block ∧ x.block < w'.heap.size) ∧ Rdr w' g a' cap' xs 0 ∧ Same w w' := by
  have CL := Lib.hid (by_clone a cap xs w hat hl hnil)
  clear hat
  generalize hL : xs.length = L at *
  have HL := Lib.hid hL; clear hL
  go_enter Tryz.func25, Tryz.ntmps25
  go_wp2_with fail
  refine CL.out.mono ?_
  rintro e w2 ⟨v, rfl, ho, k⟩
  obtain ⟨A, C, rfl, r1, r2, r3, r4, r5⟩ := ho.read
  have R1 := Lib.hid (And.intro r1 (And.intro r2 (And.intro r3 (And.intro r4 r5))))
  have K := Lib.hid k
  clear k ho r1 r2 r3 r4 r5
  go_wp2_with fail
  go_ret
  obtain ⟨r1, r2, r3, r4, r5⟩ := R1.out
  refine ⟨w2.heap.size, A, C, rfl, K.out.size, fun x hx => ⟨(r5 x hx).1, by have := (r5 x hx).2.1; simp; omega⟩, ⟨Blk.new _ _ _, r4.same ((Kept.refl _ w2).alloc _), r1, by unfold maxLen at r2; exact r2, fun x hx => ?_⟩, K.out.alloc _⟩
  have := (r5 x hx).2.1
  omega

/-- append of one element, to a slice of one's own. -/
theorem el_push {α : Type} (E : Enc α) {P : Program} (t e : TypeId) (ht : P.underlying t = some (.slice e)) {z : Value} {bytes : Nat} (hi : (P.info? e).map (fun i => (i.zero, i.size, i.bytes)) = some (some z, E.n, bytes)) (hzs : z.cells.size = E.n) (hby : bytes ≤ 1000)
    {w : World} {base : Nat} {v : Value} {xs : List α} (h : OwnE E w base e v xs) (hb : base ≤ w.heap.size) (hl : xs.length ≤ 100000) (x : α) (cs : Array Value) (hcs : cs = (E.enc x).toArray) :
    ∃ v' w', (Builtin.append_ #[t, t] t #[v, .slice (some ⟨w.heap.size, 0, none⟩) 1 1]).run P (w.alloc (.cells cs e)) = .ok v' w' ∧ OwnE E w' base e v' (xs ++ [x]) ∧ Kept (fun j => base ≤ j) w w' := by
  have kA : Same w (w.alloc (.cells cs e)) := (Kept.refl _ w).alloc _
  have hone : ElsAt E (w.alloc (.cells cs e)) (some ⟨w.heap.size, 0, none⟩) [x] := elsAt_one (E := E) (x := x) (Blk.new w _ _) hcs
  obtain ⟨v', w', hrun, ho, hgr, _⟩ := run_appendE (P := P) (w.alloc (.cells cs e)) t t base e z bytes E ht hi hzs v xs (h.same kA) (some ⟨w.heap.size, 0, none⟩) 1 1 [x] rfl hone (fun h => by cases h) (by unfold maxLen; simp; omega)
    (by
      have h1 : (xs.length + [x].length) * bytes ≤ (xs.length + [x].length) * 1000 := Nat.mul_le_mul_left _ hby
      simp at h1 ⊢; omega) (Nat.le_trans hb kA.size)
  have kg : Kept (fun j => v.ownBlock = some j) (w.alloc (.cells cs e)) w' := (Kept.refl _ _).grown hgr (fun k hk _ => hk)
  exact ⟨v', w', hrun, ho, (kA.mono (fun _ _ q => q.elim)).trans (kg.mono (fun j _ hj => (h.far j hj).1))⟩
theorem prInfo : (Tryz.prog.info? 42).map (fun i => (i.zero, i.size, i.bytes)) = some (some (.agg #[.string ByteArray.empty, .string ByteArray.empty]), 2, 32) := by kernel_rfl
theorem pr_push {w : World} {base : Nat} {v : Value} {xs : List HPr} (h : OwnE prE w base 42 v xs) (hb : base ≤ w.heap.size) (hl : xs.length ≤ 100000) (x : HPr) :
    ∃ v' w', (Builtin.append_ #[22, 22] 22 #[v, .slice (some ⟨w.heap.size, 0, none⟩) 1 1]).run Tryz.prog (w.alloc (.cells #[encStr x.1, encStr x.2] 42)) = .ok v' w' ∧ OwnE prE w' base 42 v' (xs ++ [x]) ∧ Kept (fun j => base ≤ j) w w' :=
  el_push prE _ _ Tryz.underlying22 prInfo rfl (by decide) h hb hl x _ rfl
theorem pr_pushN {w : World} {base : Nat} {v : Value} {xs : List HPr} (h : OwnE prE w base 42 v xs) (hb : base ≤ w.heap.size) (hl : xs.length ≤ 100000) (k u : List Nat) :
    ∃ v' w', (Builtin.append_ #[22, 22] 22 #[v, .slice (some ⟨w.heap.size, 0, none⟩) 1 1]).run Tryz.prog (w.alloc (.cells #[.string (strN k), .string (strN u)] 42)) = .ok v' w' ∧ OwnE prE w' base 42 v' (xs ++ [(bU k, bU u)]) ∧ Kept (fun j => base ≤ j) w w' :=
  pr_push h hb hl (bU k, bU u)
theorem Rdr.kept {w w' : World} {g : Nat} {a : Option Addr} {cap : Nat} {xs : List Nat} {er : Nat} {fp : Nat → Prop} (h : Rdr w g a cap xs er) (k : Kept fp w w') (hg : ¬ fp g) (ha : ∀ x, a = some x → ¬ fp x.block) : Rdr w' g a cap xs er :=
  ⟨h.1.kept k hg, h.2.1.kept k ha, h.2.2⟩
/-- Fewer bytes than a seal has. -/
theorem cr_open_short (a : Option Addr) (n c : Nat) (hn : n < 8) (w : World) : Calls Tryz.prog 24 #[.slice a n c, .int .i64 (n : Nat)] w fun e w' => e = .returned (.tuple #[.slice none 0 0, .int .i64 2]) ∧ w' = w := by
  have h8 : (n : Int) < 8 := by omega
  go_enter Tryz.func24, Tryz.ntmps24
  go_wp2_with fail
  go_ret2
  exact ⟨rfl, rfl⟩
/-- What Get tells. -/
def GotPost (b : List Nat) (w w' : World) (e : Ending) : Prop := ∃ a c L er, e = .returned (.tuple #[.slice a L.length c, .int .i64 (er : Nat)]) ∧ GotD b er L ∧ ElsAt prE w' a L ∧ Same w w'
theorem open_er (b : List Nat) (m : Nat) : ((openM b m).2 = 0 ∨ (openM b m).2 = 4 ∨ (openM b m).2 = 10) ∧ (openM b m).1.length ≤ b.length := by
  unfold openM
  split
  · split
    · split
      · simp; omega
      · simp
    · simp
  · simp
section
attribute [local go_sem ↓] exec_app semAt_app
attribute [local go_sem] isApp_lit appA appX
set_option maxRecDepth 100000 in
set_option maxHeartbeats 1600000 in
theorem dump_get_ok (g o n C m : Nat) (b : List Nat) (hz : n = 8 + m) (hn : n = b.length) (hl : n ≤ 3000) (hC : n ≤ C) (hb : Bts b) (w : World) (hat : NatsAt w .u8 (some ⟨g, o, none⟩) b) (h0 : (openM b m).2 = 0) :
    Calls Tryz.prog 10 #[.slice (some ⟨g, o, none⟩) n C] w fun e w' => GotPost b w w' e := by
  have OR := Lib.hid (open_R (hn.symm.trans hz) hb)
  have OL := (open_er b m).2
  have CO := Lib.hid (cr_openM g o m n C hz (by omega) hC b hn.symm hb w hat)
  obtain ⟨X, hX⟩ : ∃ X, (openM b m).1 = X := ⟨_, rfl⟩
  have e1 : openM b m = (X, 0) := by rw [← hX, ← h0]
  rw [e1] at CO OR OL
  have HN := Lib.hid hn; have HB := Lib.hid hb; have AT := Lib.hid hat; have HC := Lib.hid hC
  have XB : Hid (Bts X) := by rcases OR.out with ⟨q, -⟩ | ⟨q, -⟩ | ⟨-, -, _, -, -, q⟩; cases q; (rcases q with q | q <;> cases q); exact q
  clear hn hb hat hC e1 hX h0 hz
  simp only at OL
  obtain ⟨R, hR⟩ : ∃ R : Ending → World → Prop, R = fun e w' => GotPost b w w' e := ⟨_, rfl⟩
  have HR := Lib.hid hR
  rw [← hR]
  clear hR
  obtain ⟨q, hq⟩ : ∃ q, X.length = q := ⟨_, rfl⟩
  have HQ := Lib.hid hq
  rw [← HN.out, hq] at OL
  unfold Told at CO
  simp only [hq] at CO
  clear hq
  go_enter Tryz.func10, Tryz.ntmps10
  go_wp2_with fail
  refine CO.out.mono ?_
  rintro e w1 ⟨a1, c1, rfl, n1, nil1, l1, k1⟩
  have K1 := Lib.hid k1
  have N1 := Lib.hid n1
  have NIL := Lib.hid nil1
  have L1 := Lib.hid l1
  clear n1 nil1 l1 k1 CO
  simp only [Int.natCast_zero]
  go_wp2_with fail
  have ON := ord_new a1 c1 X w1 N1.out (by have := HQ.out; omega) NIL.out
  rw [HQ.out] at ON
  refine ON.mono ?_
  rintro e w2 ⟨g2, a2, cap2, rfl, hg2, hf2, r2, k2⟩
  have K2 := Lib.hid (K1.out.trans k2)
  have R2 := Lib.hid r2
  have F2 := Lib.hid hf2
  have G2 := Lib.hid (Nat.le_trans K1.out.size hg2)
  clear r2 hf2 k2 hg2 ON
  go_wp2_with fail
  refine (ord_small g2 a2 cap2 X 0 w2 R2.out XB.out).mono ?_
  rintro e w3 ⟨rfl, ⟨a3, cap3, r3, hb3⟩, k3⟩
  have K3 := Lib.hid (K2.out.turn k3 G2.out)
  have R3 := Lib.hid r3
  have F3 : Hid (∀ x, a3 = some x → x.block < w3.heap.size) := fun x hx => by
    obtain ⟨y, hy, e⟩ := hb3 x hx
    have := (F2.out y hy).2
    have := k3.size
    omega
  have GB : Hid (g2 < w3.heap.size) := r3.1.lt
  have HK := Lib.hid (got_by OR.out)
  have RB := Lib.hid (rdSmall_bytes (er := 0) XB.out)
  have RL := (rdSmall_le X 0).1
  have RN := (rdSmall_le X 0).2
  rw [HQ.out] at HK RL
  clear r3 hb3 k3 R2 F2
  generalize (rdSmall X 0).2.2 = N at *
  generalize (rdSmall X 0).2.1 = er1 at *
  generalize (rdSmall X 0).1 = X1 at *
  obtain ⟨k, hk⟩ : ∃ k, min N q = k := ⟨_, rfl⟩
  have hmin : min (N : Int) (q : Int) = (k : Int) := by omega
  have hkq : k ≤ q := by omega
  have HKK := Lib.hid (HK.out k (Or.inr (Or.inl hk.symm)))
  have RF := Lib.hid (rdN_facts X1 er1 RB.out)
  have RL' := Lib.hid RL
  obtain ⟨B, hB⟩ : ∃ B, w3.heap.size = B := ⟨_, rfl⟩
  rw [hB] at F3 GB
  have hB3 := Lib.hid (show B ≤ w3.heap.size by omega)
  clear HK hk hB RL RB
  go_wp2_with fail
  go_loopw [7, 30] (fun v t wr => ∃ i : Nat, t = .int .i64 i ∧ i ≤ k ∧ OwnE prE wr B 42 v (rdN i X1 er1).1 ∧ (∃ a' cap', Rdr wr g2 a' cap' (rdN i X1 er1).2.1 (rdN i X1 er1).2.2 ∧ ∀ x, a' = some x → x.block < B) ∧ B ≤ wr.heap.size ∧ Same w wr) (fun _ t _ => k - (intOf t).toNat)
  case atStart => exact ⟨0, rfl, by omega, OwnE.nil _ _ _, ⟨a3, cap3, R3.out, F3.out⟩, hB3.out, K3.out⟩
  case round =>
    obtain ⟨i, rfl, hi, ho, ⟨a', cap', hr, hf⟩, hbw, hkw⟩ := hrel
    have HO := Lib.hid ho; have K := Lib.hid hkw; have RR := Lib.hid hr; have FF := Lib.hid hf; have BW := Lib.hid hbw
    clear ho hkw hr hf hbw
    by_cases hgo : i < k
    · have g1 : (i : Int) < (k : Int) := by omega
      have g0 : (0 : Int) ≤ (i : Int) := by omega
      obtain ⟨f1, f2, f3, f4⟩ := RF.out i
      have hx1 : X1.length ≤ 3000 := by have := RL'.out; omega
      have hil : i ≤ 3000 := by omega
      have F1 := Lib.hid f1
      have F3' := Lib.hid f3
      have F4 : Hid ((rdN i X1 er1).2.1.length ≤ 3000) := by show _ ≤ _; omega
      have STP : Hid (rdN (i + 1) X1 er1 = rd1 (rdN i X1 er1)) := rfl
      clear f1 f2 f3 f4 hx1
      obtain ⟨s, hs⟩ : ∃ s, rdN i X1 er1 = s := ⟨_, rfl⟩
      rw [hs] at HO RR F1 F3' F4 STP
      clear hs
      obtain ⟨l0, y0, e0⟩ := s
      simp only at HO RR F1 F3' F4
      unfold rd1 at STP
      simp only at STP
      have T1 := ord_text g2 a' cap' y0 e0 16 wr RR.out F3'.out (by have := F4.out; omega) (by decide)
      have B1 := Lib.hid (rdText_bts F3'.out e0 16)
      have L1' := Lib.hid (rdText_len y0 e0 16)
      generalize (rdText y0 e0 16).2.2 = k0 at *
      generalize (rdText y0 e0 16).2.1 = e4 at *
      generalize (rdText y0 e0 16).1 = y4 at *
      go_wp2_with fail
      refine T1.mono ?_
      rintro e w4 ⟨rfl, ⟨a4, cap4, r4, hb4⟩, k4⟩
      have R4 := Lib.hid r4
      have K4 := Lib.hid (K.out.turn k4 G2.out)
      have O4 := Lib.hid (HO.out.kept k4 (fun j hj q => by have := (HO.out.far j hj).1; have := GB.out; omega))
      have F4b : Hid (∀ x, a4 = some x → x.block < B) := fun x hx => by obtain ⟨y, hy, e⟩ := hb4 x hx; rw [e]; exact FF.out y hy
      have BW4 := Lib.hid (Nat.le_trans BW.out k4.size)
      have T2 := ord_text g2 a4 cap4 y4 e4 24 w4 r4 B1.out (by have := F4.out; have := L1'.out; omega) (by decide)
      clear r4 hb4 k4 T1
      generalize (rdText y4 e4 24).2.2 = u0 at *
      generalize (rdText y4 e4 24).2.1 = e5 at *
      generalize (rdText y4 e4 24).1 = y5 at *
      go_wp2_with fail
      refine T2.mono ?_
      rintro e w5 ⟨rfl, ⟨a5, cap5, r5, hb5⟩, k5⟩
      have K5 := Lib.hid (K4.out.turn k5 G2.out)
      have O5 := Lib.hid (O4.out.kept k5 (fun j hj q => by have := (O4.out.far j hj).1; have := GB.out; omega))
      have F5 : Hid (∀ x, a5 = some x → x.block < B) := fun x hx => by obtain ⟨y, hy, e⟩ := hb5 x hx; rw [e]; exact F4b.out y hy
      have BW5 := Lib.hid (Nat.le_trans BW4.out k5.size)
      obtain ⟨v6, w6, hr6, o6, k6⟩ := pr_pushN O5.out BW5.out (by have := F1.out; omega) k0 u0
      obtain ⟨aok, aV, aW⟩ := app_of hr6
      have R6 := Lib.hid (r5.kept k6 (by have := GB.out; omega) (fun x hx => by have := F5.out x hx; omega))
      have K6 := Lib.hid (K5.out.step k6 (fun j hj q => by have := hB3.out; have := K3.out.size; have := GB.out; have := G2.out; omega))
      have O6 := Lib.hid o6
      have BW6 := Lib.hid (Nat.le_trans BW5.out k6.size)
      clear r5 hb5 k5 hr6 o6 k6 T2
      go_wp2_with fail
      go_roundw
      case rel => exact ⟨i + 1, by go_num, by omega, by rw [STP.out]; exact O6.out, ⟨a5, cap5, by rw [STP.out]; exact R6.out, F5.out⟩, BW6.out, K6.out⟩
      case measure => simp [intOf]; omega
    · have g1 : ¬ (i : Int) < (k : Int) := by omega
      have e : i = k := by omega
      subst e
      obtain ⟨f1, f2, f3, f4⟩ := RF.out i
      have hkq' := hkq
      generalize (rdN i X1 er1).1 = L at *
      obtain ⟨a7, l7, c7, rfl, hl7, -, hat7, -⟩ := HO.out.rd
      have hl7' : l7 = i := by rw [hl7.out, f1]
      subst hl7'
      have PU := dump_put a7 l7 c7 L f1.symm (by omega) wr hat7.out
      have AT7 := Lib.hid hat7.out
      have FL := Lib.hid f1
      clear f1 f2 f3 f4 hl7 hat7 HO RR FF
      go_wp2_with fail
      refine PU.mono ?_
      rintro e w8 ⟨v8, rfl, o8, k8⟩
      obtain ⟨a8, l8, c8, rfl, hl8, -, hat8, -⟩ := o8.rd
      have K8 := Lib.hid (K.out.trans k8)
      have AT8 := Lib.hid (AT7.out.same k8)
      have N8 := Lib.hid hat8.out
      have L8 := Lib.hid hl8.out
      clear o8 k8 hl8 hat8 PU K AT7
      by_cases hz : (putL L).2 = 0
      · have EQ := Lib.hid (by_equal (some ⟨g, o, none⟩) a8 n l8 C c8 b (putL L).1 w8 HN.out L8.out HB.out (put_bts L) (AT.out.same K8.out) N8.out)
        rw [hz]
        simp only [Int.natCast_zero]
        have HP : Hid (putL L = (b, 0) ↔ b = (putL L).1) := ⟨fun h => by rw [h], fun h => by rw [h, ← hz]⟩
        by_cases hbq : b = (putL L).1
        · have YES := Lib.hid (HKK.out.1 (HP.out.2 hbq))
          rw [decide_eq_true hbq] at EQ
          clear hbq hz
          go_wp2_with fail
          refine EQ.out.mono ?_
          rintro e w9 ⟨rfl, rfl⟩
          go_wp2_with fail
          rw [HR.out]
          exact ⟨a7, c7, L, 0, by rw [FL.out]; rfl, YES.out, AT8.out, K8.out⟩
        · have NO := Lib.hid (HKK.out.2 (fun h => hbq (HP.out.1 h)))
          rw [decide_eq_false hbq] at EQ
          clear hbq hz
          go_wp2_with fail
          refine EQ.out.mono ?_
          rintro e w9 ⟨rfl, rfl⟩
          go_wp2_with fail
          rw [HR.out]
          exact ⟨none, 0, [], 4, rfl, NO.out, .inl rfl, K8.out⟩
      · have NO := Lib.hid (HKK.out.2 (fun h => hz (by rw [h])))
        obtain ⟨p, hp⟩ : ∃ p, (putL L).2 = p := ⟨_, rfl⟩
        rw [hp] at hz ⊢
        have hz1 : ((p : Int) != 0) = true := by simpa using hz
        clear hp
        go_wp2_with fail
        rw [HR.out]
        exact ⟨none, 0, [], 4, rfl, NO.out, .inl rfl, K8.out⟩
end
set_option maxRecDepth 100000 in
set_option maxHeartbeats 800000 in
theorem dump_get_bad (a : Option Addr) (n C er : Nat) (b : List Nat) (w : World) (her : er = 2 ∨ er = 4 ∨ er = 10) (ho : OpenR b er [])
    (CO : Hid (Calls Tryz.prog 24 #[.slice a n C, .int .i64 (n : Nat)] w fun e w' => ∃ a1 c1, e = .returned (.tuple #[.slice a1 0 c1, .int .i64 (er : Nat)]) ∧ Same w w')) :
    Calls Tryz.prog 10 #[.slice a n C] w fun e w' => GotPost b w w' e := by
  have OR := Lib.hid ho
  obtain ⟨R, hR⟩ : ∃ R : Ending → World → Prop, R = fun e w' => GotPost b w w' e := ⟨_, rfl⟩
  have HR := Lib.hid hR
  rw [← hR]
  clear hR ho
  rcases her with rfl | rfl | rfl
  all_goals
    go_enter Tryz.func10, Tryz.ntmps10
    go_wp2_with fail
    refine CO.out.mono ?_
    rintro e w1 ⟨a1, c1, rfl, k1⟩
    have K1 := Lib.hid k1
    clear k1 CO
    simp only [show ((2 : Nat) : Int) = 2 from rfl, show ((4 : Nat) : Int) = 4 from rfl, show ((10 : Nat) : Int) = 10 from rfl]
    go_wp2_with fail
    rw [HR.out]
    first
      | exact ⟨none, 0, [], 4, rfl, got_form OR.out (by decide) (by decide), .inl rfl, K1.out⟩
      | exact ⟨none, 0, [], 10, rfl, got_sum OR.out, .inl rfl, K1.out⟩
/-- The program reads a dump. -/
theorem dump_get (a : Option Addr) (n C : Nat) (b : List Nat) (hn : n = b.length) (hl : n ≤ 3000) (hC : n ≤ C) (hb : Bts b) (w : World) (hat : NatsAt w .u8 a b) :
    Calls Tryz.prog 10 #[.slice a n C] w fun e w' => GotPost b w w' e := by
  by_cases h8 : n < 8
  · refine dump_get_bad a n C 2 b w (.inl rfl) (open_short (by omega) (.inr rfl)) ?_
    refine (cr_open_short a n C h8 w).mono ?_
    rintro e w' ⟨rfl, rfl⟩
    exact ⟨none, 0, rfl, Kept.refl _ _⟩
  · obtain ⟨m, hm⟩ : ∃ m, n = 8 + m := ⟨n - 8, by omega⟩
    obtain ⟨g, o, rfl⟩ : ∃ g o, a = some ⟨g, o, none⟩ := by
      rcases hat with rfl | ⟨g, o, rfl, -⟩
      · simp at hn; omega
      · exact ⟨g, o, rfl⟩
    have OR := open_R (hn.symm.trans hm) hb
    have CO := cr_openM g o m n C hm (by omega) hC b hn.symm hb w hat
    obtain ⟨her, -⟩ := open_er b m
    by_cases h0 : (openM b m).2 = 0
    · exact dump_get_ok g o n C m b hm hn hl hC hb w hat h0
    · have hX : (openM b m).1 = [] := by
        rcases OR with ⟨-, -, -, h⟩ | ⟨-, -, h, -⟩ | ⟨h, -⟩
        · exact h
        · exact h
        · exact absurd h h0
      rw [hX] at OR
      refine dump_get_bad _ n C (openM b m).2 b w (by omega) OR ?_
      refine CO.mono ?_
      rintro e w' ⟨a1, c1, rfl, -, -, -, k⟩
      exact ⟨a1, c1, by rw [hX]; rfl, k⟩
end Go.Proofs.YtpgghajkpjhieaaGreatDoor
