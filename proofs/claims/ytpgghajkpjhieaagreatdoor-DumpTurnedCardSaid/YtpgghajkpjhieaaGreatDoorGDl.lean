/- GDl: Dc9, Dd0, Dd1. -/
import Derived.Test.YtpgghajkpjhieaaGreatDoorGDb
import Derived.Test.YtpgghajkpjhieaaGreatDoorGDm
import Derived.Test.YtpgghajkpjhieaaGreatDoorHeldT
import Derived.Test.YtpgghajkpjhieaaGreatDoorPr1
import Derived.Test.YtpgghajkpjhieaaGreatDoorOrdR1
import Derived.Test.YtpgghajkpjhieaaGreatDoorSl2
namespace Go.Proofs.YtpgghajkpjhieaaGreatDoor
open Go.RowKit Go.Sort
attribute [local go_sem ↓] exec_app semAt_app
attribute [local go_sem] isApp_lit appA appX

theorem enc_strN (l : List UInt8) : encStr l = .string (strN (natsU l)) := by rw [strN_natsU]

/-- A text, laid and appended. -/
theorem put_app (v : Value) (ys : List Nat) (base : Nat) (xs : List Nat) (hb : Bts xs) (hl : xs.length ≤ 1000000) (hy : (ys.length + (putT xs).length) * 1 ≤ 140737488355328) (w : World) (ho : OwnN w base 5 .u8 v ys) (hz : base ≤ w.heap.size) :
    Calls Tryz.prog 50 #[.string (strN xs)] w fun e w2 => ∃ a2 l2 c2 v3 w3, e = .returned (.slice a2 l2 c2) ∧ Same w w2 ∧ (Builtin.append_ #[23, 23] 23 #[v, .slice a2 l2 c2]).run Tryz.prog w2 = .ok v3 w3 ∧
      OwnN w3 base 5 .u8 v3 (ys ++ putT xs) ∧ w2.grownBy w3 v.ownBlock ∧ (∀ k, v.ownBlock = some k → base ≤ k) := by
  refine (rf_putText xs hb hl w).mono ?_
  rintro e w2 ⟨v2, rfl, o2, k2⟩
  obtain ⟨a2, l2, c2, rfl, hl2, -, n2, -⟩ := o2.rd
  obtain ⟨v3, w3, hr3, o3, g3, -⟩ := run_appendB (P := Tryz.prog) w2 23 23 5 base .u8 1 Tryz.underlying23 (by kernel_rfl) (by decide) _ _ (ho.same k2) a2 l2 c2 (putT xs) hl2.out n2 hy (Nat.le_trans hz k2.size)
  exact ⟨a2, l2, c2, v3, w3, rfl, k2, hr3, o3, g3, fun k hk => (World.ownsRow.lt ho k hk).1⟩

set_option maxRecDepth 100000 in
set_option maxHeartbeats 1600000 in
theorem rdump_lay (a : Option Addr) (n c : Nat) (L : List HPr) (hn : n = L.length) (hl : n ≤ 3000) (hs : Sml L) (w : World) (hat : ElsAt prE w a L) :
    Calls Tryz.prog 23 #[.slice a n c] w fun e w' => ∃ v, e = .returned v ∧ OwnN w' w.heap.size 5 .u8 v (layT L) ∧ Same w w' := by
  have HN := Lib.hid hn; have HAT := Lib.hid hat; have HS := Lib.hid hs
  clear hn hat hs
  go_enter Tryz.func23, Tryz.ntmps23
  go_wp2_with fail
  refine (rf_putSmall n w (by omega)).mono ?_
  rintro e w1 ⟨v1, rfl, ho1, hk1⟩
  have HO1 := Lib.hid ho1; have K1 := Lib.hid hk1
  clear ho1 hk1
  go_wp2_with fail
  go_loopw [3, 4] (fun v t wr => ∃ (i : Nat), t = .int .i64 i ∧ i ≤ n ∧ OwnN wr w.heap.size 5 .u8 v (putSmall n ++ layP (L.take i)) ∧ Same w wr) (fun _ t _ => n - (intOf t).toNat)
  case atStart => exact ⟨0, rfl, by omega, by rw [List.take_zero, show layP [] = [] from rfl, List.append_nil]; exact HO1.out, K1.out⟩
  case round =>
    obtain ⟨i, rfl, hi, ho, hk⟩ := hrel
    have HO := Lib.hid ho; have K := Lib.hid hk
    clear ho hk
    by_cases hgo : i < n
    · have hil : i < L.length := by have := HN.out; omega
      have g1 : (i : Int) < (n : Int) := by omega
      have g0 : (0 : Int) ≤ (i : Int) := by omega
      obtain ⟨b, off, rfl, hbl, hc⟩ := prq_at HAT.out hil
      have HC := Lib.hid hc
      have SX := HS.out L[i] (List.getElem_mem hil)
      have LT : Hid (layP (L.take (i + 1)) = layP (L.take i) ++ layQ L[i]) := by show _ = _; rw [List.take_add_one, List.getElem?_eq_getElem hil, ← layP_snoc]; rfl
      have LL : Hid ((layP (L.take i)).length ≤ 4004 * i) := by
        have := layP_len (l := L.take i) (fun q hq => HS.out q (List.mem_of_mem_take hq))
        rw [List.length_take] at this
        show _ ≤ _
        omega
      obtain ⟨x, hx⟩ : ∃ x, L[i] = x := ⟨_, rfl⟩
      rw [hx] at HC SX LT
      have c0 := (HC.out _ K.out).1
      rw [enc_strN] at c0
      have P0 := putT_len (natsU x.1)
      have P1 := putT_len (natsU x.2)
      have Q0 := natsU_len x.1
      have Q1 := natsU_len x.2
      have PS := putSmall_len n
      have B0 := Lib.hid (natsU_bts x.1)
      have B1 := Lib.hid (natsU_bts x.2)
      have QQ : Hid (∀ w', Same w w' → w'.cell? ⟨b, off + i * 2, none⟩ = some (.string (strN (natsU x.1))) ∧ w'.cell? ⟨b, off + i * 2 + 1, none⟩ = some (.string (strN (natsU x.2)))) := by
        intro w' k
        have h := HC.out w' k
        rw [enc_strN, enc_strN] at h
        exact h
      have PA := Lib.hid (put_app u3 (putSmall n ++ layP (L.take i)) w.heap.size (natsU x.1) B0.out (by omega) (by have := LL.out; simp only [List.length_append]; omega))
      have PB := Lib.hid (fun v3 => put_app v3 (putSmall n ++ layP (L.take i) ++ putT (natsU x.1)) w.heap.size (natsU x.2) B1.out (by omega) (by have := LL.out; simp only [List.length_append]; omega))
      have KK := Lib.hid K.out.drew
      have OO := Lib.hid (HO.out.same ((Kept.refl (fun _ => False) wr).drew))
      obtain ⟨X0, hX0⟩ : ∃ v, Value.string (strN (natsU x.1)) = v := ⟨_, rfl⟩
      obtain ⟨X1, hX1⟩ : ∃ v, Value.string (strN (natsU x.2)) = v := ⟨_, rfl⟩
      rw [hX0] at QQ PA
      rw [hX1] at QQ
      have PB' : Hid _ := Lib.hid (fun v3 => hX1 ▸ PB.out v3)
      clear PB
      have PB := PB'
      clear PB'
      clear hc hx c0 P0 P1 Q0 Q1 PS hX0 hX1 SX
      go_wp2_with fail
      refine wp_region_T (S := fun w' => w'.cell? ⟨b, off + i * 2, none⟩ = some X0 ∧ w'.cell? ⟨b, off + i * 2 + 1, none⟩ = some X1) 14 (by kernel_rfl) (QQ.out _ KK.out) (fun hHeld hDn => ?_)
      refine wpT_zs 0 15 hHeld hDn fun hDn => ?_
      refine wpT_zs 1 16 hHeld hDn fun hDn => ?_
      refine wpT_zs 2 17 hHeld hDn fun hDn => ?_
      refine wpT_zs 3 18 hHeld hDn fun hDn => ?_
      refine wpT_zs 4 19 hHeld hDn fun hDn => ?_
      refine wpT_zs 5 20 hHeld hDn fun hDn => ?_
      refine wpT_zs 8 23 hHeld hDn fun hDn => ?_
      refine wpT_zs 9 24 hHeld hDn fun hDn => ?_
      refine wpT_zs 10 25 hHeld hDn fun hDn => ?_
      refine wpT_zs 11 26 hHeld hDn fun hDn => ?_
      refine wpT_zs 12 27 hHeld hDn fun hDn => ?_
      refine wpT_one (i := 6) rfl (by kernel_rfl) hDn (fun K' hK => ?_)
      go_simp
      refine (PA.out _ OO.out KK.out.size).mono ?_
      rintro e w2 ⟨a2, l2, c2, v3, w3, rfl, k2, hr3, ho3, hg3, hf3⟩
      obtain ⟨aok, aV, aW⟩ := app_of hr3
      have K2 := Lib.hid (KK.out.trans k2)
      have K3 := Lib.hid (K2.out.grownNew hg3 hf3)
      have O3 := Lib.hid ho3
      clear k2 hr3 ho3 hg3 hf3 PA OO
      refine hK.out _ _ (QQ.out _ K2.out) (fun hHeld2 hDn2 => ?_)
      clear hK K' hHeld hDn
      have hHeld := hHeld2; have hDn := hDn2
      clear hHeld2 hDn2
      refine wpT_one (i := 7) rfl (by kernel_rfl) hDn (fun K' hK => ?_)
      go_simp
      refine hK.out _ _ (QQ.out _ K3.out) (fun hHeld2 hDn2 => ?_)
      clear hK K' hHeld hDn
      have hHeld := hHeld2; have hDn := hDn2
      clear hHeld2 hDn2
      clear aok aV aW K2
      refine wpT_one (i := 13) rfl (by kernel_rfl) hDn (fun K' hK => ?_)
      go_simp
      refine (PB.out _ _ O3.out K3.out.size).mono ?_
      rintro e w4 ⟨a4, l4, c4, v5, w5, rfl, k4, hr5, ho5, hg5, hf5⟩
      obtain ⟨aok, aV, aW⟩ := app_of hr5
      have K4 := Lib.hid (K3.out.trans k4)
      have K5 := Lib.hid (K4.out.grownNew hg5 hf5)
      have O5 := Lib.hid ho5
      clear k4 hr5 ho5 hg5 hf5 PB O3 K3
      refine hK.out _ _ (QQ.out _ K4.out) (fun hHeld2 hDn2 => ?_)
      clear hK K' hHeld hDn
      have hHeld := hHeld2; have hDn := hDn2
      clear hHeld2 hDn2
      refine wpT_last rfl (by kernel_rfl) hDn (fun K hK => ?_)
      go_simp
      refine hK.out _ _ (fun hDn' => ?_)
      clear hK hDn hHeld; have hDn := hDn'; clear hDn'
      refine wpT_ze 15 3 hDn fun hDn => ?_
      refine wpT_done (by kernel_rfl) ?_ _
      clear hDn aok aV aW
      go_wp2_with fail
      go_roundw
      case rel =>
        refine ⟨i + 1, by go_num, by omega, ?_, K5.out⟩
        rw [LT.out, layQ, ← List.append_assoc, ← List.append_assoc]
        exact O5.out
      case measure => simp [intOf]; omega
    · have g1 : ¬ (i : Int) < (n : Int) := by omega
      have e : i = n := by omega
      subst e
      go_wp2_with fail
      go_ret
      exact ⟨_, rfl, by have := HO.out; rw [HN.out, List.take_length] at this; exact this, K.out⟩
end Go.Proofs.YtpgghajkpjhieaaGreatDoor

namespace Go.Proofs.YtpgghajkpjhieaaGreatDoor
open Go.RowKit Go.Sort

theorem cutWl {P : Program} {c : Code} {Q : Exit → Act → World → Prop} {a : Act} {w : World} (R : World → Prop) (h : R w) (k : ∀ wn, R wn → Code.wp P c Q a wn) : Code.wp P c Q a w := k w h
theorem OwnN.cut0 {w : World} {base : Nat} {e : TypeId} {k : IntKind} {a : Option Addr} {n cap : Nat} {xs : List Nat} (h : OwnN w base e k (.slice a n cap) xs) : OwnN w base e k (.slice a 0 cap) [] := by
  obtain ⟨h1, h2 | ⟨g, c, cur, h2, h3, h4, h5, h6, h7, h8⟩⟩ := h
  · simp only [Value.slice.injEq] at h2
    obtain ⟨⟨rfl, rfl, rfl⟩, -⟩ := h2
    exact ⟨rfl, .inl ⟨rfl, rfl⟩⟩
  · simp only [Value.slice.injEq] at h2
    obtain ⟨rfl, rfl, rfl⟩ := h2
    exact ⟨rfl, .inr ⟨g, cap, cur, rfl, h3, h4, Nat.zero_le _, h6, h7, by simp⟩⟩
theorem OwnN.none0 (w : World) (base : Nat) (e : TypeId) (k : IntKind) : OwnN w base e k (.slice none 0 0) [] := World.ownsRow_nil _ _ _ _

section
attribute [local go_sem ↓] exec_app semAt_app
attribute [local go_sem] isApp_lit appA appX
set_option maxRecDepth 100000 in
set_option maxHeartbeats 1600000 in
theorem sl_grow (n : Nat) (hn : n ≤ 140737488355328) (w : World) :
    Calls Tryz.prog 81 #[.slice none 0 0, .int .i64 (n : Nat)] w fun e w' => ∃ v, e = .returned v ∧ OwnN w' w.heap.size 5 .u8 v [] ∧ Same w w' := by
  by_cases h0 : n = 0
  · subst h0
    go_enter Tryz.func81, Tryz.ntmps81
    go_wp2_with fail
    go_ret
    exact ⟨_, rfl, OwnN.none0 _ _ _ _, Kept.refl _ _⟩
  · have h1 : (0 : Int) < (n : Int) := by omega
    have h2 : ¬ (n : Int) < 0 := by omega
    obtain ⟨v3, w3, hr3, o3, g3⟩ := run_append_zeros (P := Tryz.prog) w 23 3 9 23 5 .i64 .i64 w.heap.size Tryz.underlying23 Tryz.underlying3 Tryz.underlying9 (by kernel_rfl) _ _ (OwnN.none0 w w.heap.size 5 .u8) n (by simp; omega) (Nat.le_refl _)
    obtain ⟨aok, aV, aW⟩ := app_of hr3
    have k3 := (Kept.refl (fun _ => False) w).grownNew g3 (fun k hk => by cases hk)
    obtain ⟨a3, l3, c3, rfl, -, -, -, -⟩ := o3.rd
    have O3 := Lib.hid o3.cut0
    have K3 := Lib.hid k3
    clear hr3 o3 g3 k3
    go_enter Tryz.func81, Tryz.ntmps81
    go_wp2_with fail
    go_ret
    exact ⟨_, rfl, O3.out, K3.out⟩
end

/-- A row of bytes: where it lies, how long, its room, what it holds. -/
abbrev BRow := Option Addr × Nat × Nat × List Nat
def flatR (R : List BRow) : List Nat := R.flatMap fun r => r.2.2.2
def RowsAt (w : World) (g : Nat) (R : List BRow) : Prop := ∀ i (h : i < R.length), w.cell? ⟨g, i, none⟩ = some (.slice R[i].1 R[i].2.1 R[i].2.2.1) ∧ NatsAt w .u8 R[i].1 R[i].2.2.2 ∧ R[i].2.1 = R[i].2.2.2.length
theorem RowsAt.keptB {w w' : World} {g : Nat} {R : List BRow} (h : RowsAt w g R) (k : Same w w') (hc : ∀ i, i < R.length → w'.cell? ⟨g, i, none⟩ = w.cell? ⟨g, i, none⟩) : RowsAt w' g R := fun i hi => ⟨(hc i hi).trans (h i hi).1, (h i hi).2.1.same k, (h i hi).2.2⟩
theorem flatR_snoc {R : List BRow} {i : Nat} (h : i < R.length) : flatR (R.take (i + 1)) = flatR (R.take i) ++ R[i].2.2.2 := by
  unfold flatR
  rw [← List.take_append_getElem h, List.flatMap_append]
  simp
theorem flatR_le (R : List BRow) (i : Nat) : (flatR (R.take i)).length ≤ (flatR R).length := by
  have e : flatR R = flatR (R.take i) ++ flatR (R.drop i) := by unfold flatR; rw [← List.flatMap_append, List.take_append_drop]
  rw [e, List.length_append]
  omega
section
attribute [local go_sem ↓] exec_app semAt_app
attribute [local go_sem] isApp_lit appA appX
set_option maxRecDepth 100000 in
set_option maxHeartbeats 1600000 in
theorem sl_concat (g n c : Nat) (R : List BRow) (hn : n = R.length) (hl : (flatR R).length ≤ 1000000000) (hm : n ≤ 1000000) (w : World) (hat : ∀ w', Same w w' → RowsAt w' g R) :
    Calls Tryz.prog 45 #[.slice (some ⟨g, 0, none⟩) n c] w fun e w' => ∃ v, e = .returned v ∧ OwnN w' w.heap.size 5 .u8 v (flatR R) ∧ Same w w' := by
  have HN := Lib.hid hn; have HAT := Lib.hid hat; have HL := Lib.hid hl
  clear hn hat hl
  go_enter Tryz.func45, Tryz.ntmps45
  go_wp2_with fail
  go_loop [3, 11] (fun s t => ∃ i : Nat, t = .int .i64 i ∧ i ≤ n ∧ s = .int .i64 ((flatR (R.take i)).length : Nat)) (fun _ t => n - (intOf t).toNat)
  case atStart => exact ⟨0, rfl, by omega, rfl⟩
  case round =>
    obtain ⟨i, rfl, hi, rfl⟩ := hrel
    by_cases hgo : i < n
    · have hil : i < R.length := by have := HN.out; omega
      have g1 : (i : Int) < (n : Int) := by omega
      have g0 : (0 : Int) ≤ (i : Int) := by omega
      obtain ⟨c0, -, hlen⟩ := HAT.out _ (Kept.refl _ _) i hil
      have fs := flatR_snoc hil
      have fl := flatR_le R (i + 1)
      have hL := HL.out
      rw [fs, List.length_append] at fl
      have LN : Hid ((flatR (R.take (i + 1))).length = (flatR (R.take i)).length + R[i].2.1) := by show _ = _; rw [fs, List.length_append, hlen]
      generalize R[i].2.2.2.length = q at *
      subst hlen
      generalize R[i].2.1 = q at *
      generalize R[i].2.2.1 = q2 at *
      generalize R[i].1 = q3 at *
      obtain ⟨s, hs⟩ : ∃ s, (flatR (R.take i)).length = s := ⟨_, rfl⟩
      rw [hs] at LN fl ⊢
      have g2 : ¬ ((s : Int) + (q : Int)) < 0 := by omega
      have g3 : (s : Int) + (q : Int) ≤ 1000000000 := by omega
      clear fs hs hL fl
      go_wp2_with fail
      go_round
      case rel => exact ⟨i + 1, by go_num, by omega, by rw [LN.out]; go_num⟩
      case measure => simp [intOf]; omega
    · have g1 : ¬ (i : Int) < (n : Int) := by omega
      have e : i = n := by omega
      subst e
      have e2 : (flatR (R.take i)).length = (flatR R).length := by rw [HN.out, List.take_length]
      rw [e2]
      clear e2
      go_wp2_with fail
      refine (sl_grow (flatR R).length (by have := HL.out; omega) w).mono ?_
      rintro e w1 ⟨v1, rfl, o1, k1⟩
      have O1 := Lib.hid o1
      have K1 := Lib.hid k1
      clear o1 k1
      go_wp2_with fail
      go_loopw [6, 27] (fun v t wr => ∃ j : Nat, t = .int .i64 j ∧ j ≤ i ∧ OwnN wr w.heap.size 5 .u8 v (flatR (R.take j)) ∧ Same w wr) (fun _ t _ => i - (intOf t).toNat)
      case atStart => exact ⟨0, rfl, by omega, O1.out, K1.out⟩
      case round =>
        obtain ⟨j, rfl, hj, ho, hk⟩ := hrel
        have HO := Lib.hid ho; have K := Lib.hid hk
        clear ho hk
        by_cases hgo2 : j < i
        · have hil : j < R.length := by have := HN.out; omega
          have g1 : (j : Int) < (i : Int) := by omega
          have g0 : (0 : Int) ≤ (j : Int) := by omega
          obtain ⟨c0, na, hlen⟩ := HAT.out _ K.out j hil
          have fs := flatR_snoc hil
          have fl := flatR_le R (j + 1)
          have hL := HL.out
          rw [fs, List.length_append] at fl
          have FS := Lib.hid fs
          obtain ⟨v3, w3, hr3, o3, g3, -⟩ := run_appendB (P := Tryz.prog) wr 23 23 5 w.heap.size .u8 1 Tryz.underlying23 (by kernel_rfl) (by decide) _ _ HO.out R[j].1 R[j].2.1 R[j].2.2.1 R[j].2.2.2 hlen na (by omega) K.out.size
          obtain ⟨aok, aV, aW⟩ := app_of hr3
          have K3 := Lib.hid (K.out.grownNew g3 (fun k hk => (World.ownsRow.lt HO.out k hk).1))
          have O3 := Lib.hid o3
          clear fs fl hL hr3 o3 g3 na hlen
          generalize R[j].2.1 = q at *
          generalize R[j].2.2.1 = q2 at *
          generalize R[j].1 = q3 at *
          go_wp2_with fail
          go_roundw
          case rel => exact ⟨j + 1, by go_num, by omega, by rw [FS.out]; exact O3.out, K3.out⟩
          case measure => simp [intOf]; omega
        · have g1 : ¬ (j : Int) < (i : Int) := by omega
          have e : j = i := by omega
          subst e
          go_wp2_with fail
          go_ret
          exact ⟨_, rfl, by have := HO.out; rw [HN.out, List.take_length] at this; exact this, K.out⟩
end
end Go.Proofs.YtpgghajkpjhieaaGreatDoor

namespace Go.Proofs.YtpgghajkpjhieaaGreatDoor
open Go.RowKit Go.Sort

theorem putText_U (l : List UInt8) (hl : l.length ≤ 1000) (w : World) :
    Calls Tryz.prog 33 #[.string (strN (natsU l))] w fun e w2 => ∃ a2 l2 c2, e = .returned (.slice a2 l2 c2) ∧ l2 = (putT (natsU l)).length ∧ NatsAt w2 .u8 a2 (putT (natsU l)) ∧ Same w w2 := by
  refine (ord_putText (natsU l) (natsU_bts l) (by rw [natsU_len]; omega) w).mono ?_
  rintro e w2 ⟨v2, rfl, o2, k2⟩
  obtain ⟨a2, l2, c2, rfl, hl2, -, n2, -⟩ := o2.rd
  exact ⟨a2, l2, c2, rfl, hl2.out, n2.out, k2⟩
theorem rows3 {w : World} {a0 a1 a2 : Option Addr} {l0 l1 l2 c0 c1 c2 : Nat} {x0 x1 x2 : List Nat} {t : TypeId} (h0 : NatsAt w .u8 a0 x0) (h1 : NatsAt w .u8 a1 x1) (h2 : NatsAt w .u8 a2 x2) (e0 : l0 = x0.length) (e1 : l1 = x1.length) (e2 : l2 = x2.length)
    {g : Nat} (hb : Blk w g #[.slice a0 l0 c0, .slice a1 l1 c1, .slice a2 l2 c2] t) : ∀ w', Same w w' → RowsAt w' g [(a0, l0, c0, x0), (a1, l1, c1, x1), (a2, l2, c2, x2)] := by
  intro w' k i hi
  have B := hb.kept k (fun h => h)
  match i, hi with
  | 0, _ => exact ⟨B.cell 0 rfl, h0.same k, e0⟩
  | 1, _ => exact ⟨B.cell 1 rfl, h1.same k, e1⟩
  | 2, _ => exact ⟨B.cell 2 rfl, h2.same k, e2⟩
set_option maxRecDepth 100000 in
set_option maxHeartbeats 1600000 in
theorem dump_lay (a : Option Addr) (n c : Nat) (L : List HPr) (hn : n = L.length) (hl : n ≤ 3000) (hs : Sml L) (w : World) (hat : ElsAt prE w a L) :
    Calls Tryz.prog 20 #[.slice a n c] w fun e w' => ∃ v, e = .returned v ∧ OwnN w' w.heap.size 5 .u8 v (layT L) ∧ Same w w' := by
  have HN := Lib.hid hn; have HAT := Lib.hid hat; have HS := Lib.hid hs
  clear hn hat hs
  go_enter Tryz.func20, Tryz.ntmps20
  go_wp2_with fail
  refine (ord_putSmall n w (by omega)).mono ?_
  rintro e w1 ⟨v1, rfl, ho1, hk1⟩
  have HO1 := Lib.hid ho1; have K1 := Lib.hid hk1
  clear ho1 hk1
  go_wp2_with fail
  go_loopw [3, 12] (fun v t wr => ∃ (i : Nat), t = .int .i64 i ∧ i ≤ n ∧ OwnN wr w.heap.size 5 .u8 v (putSmall n ++ layP (L.take i)) ∧ Same w wr) (fun _ t _ => n - (intOf t).toNat)
  case atStart => exact ⟨0, rfl, by omega, by rw [List.take_zero, show layP [] = [] from rfl, List.append_nil]; exact HO1.out, K1.out⟩
  case round =>
    obtain ⟨i, rfl, hi, ho, hk⟩ := hrel
    have HO := Lib.hid ho; have K := Lib.hid hk
    clear ho hk
    by_cases hgo : i < n
    · obtain ⟨a0, l0, r0, rfl, hl0, -, hn0, -⟩ := HO.out.rd
      have hil : i < L.length := by have := HN.out; omega
      have g1 : (i : Int) < (n : Int) := by omega
      have g0 : (0 : Int) ≤ (i : Int) := by omega
      obtain ⟨b, off, rfl, hbl, hc⟩ := prq_at HAT.out hil
      have SX := HS.out L[i] (List.getElem_mem hil)
      have LT : Hid (layP (L.take (i + 1)) = layP (L.take i) ++ layQ L[i]) := by show _ = _; rw [← List.take_append_getElem hil, layP_snoc]
      have LL : Hid ((layP (L.take i)).length ≤ 4004 * i) := by
        have := layP_len (l := L.take i) (fun q hq => HS.out q (List.mem_of_mem_take hq))
        rw [List.length_take] at this
        show _ ≤ _
        omega
      obtain ⟨c0, c1⟩ := hc _ K.out
      obtain ⟨x, hx⟩ : ∃ x, L[i] = x := ⟨_, rfl⟩
      rw [hx] at c0 c1 SX LT
      rw [enc_strN] at c0 c1
      have PA := Lib.hid (putText_U x.1 SX.1)
      have PB := Lib.hid (putText_U x.2 SX.2)
      have QL := Lib.hid (layQ_len SX)
      obtain ⟨s0, hX0⟩ : ∃ v, strN (natsU x.1) = v := ⟨_, rfl⟩
      obtain ⟨s1, hX1⟩ : ∃ v, strN (natsU x.2) = v := ⟨_, rfl⟩
      rw [hX0] at c0 PA
      rw [hX1] at c1 PB
      clear hc hx hX0 hX1 SX
      go_wp2_with fail
      refine cutWl (fun wn => Blk wn wr.heap.size #[.string s0, .string s1] 42 ∧ Same wr wn) ⟨Blk.new _ _ _, (Kept.refl _ _).alloc _⟩ ?_
      rintro w2 ⟨hb2, k2⟩
      have QX := Lib.hid (fun w' (k : Same w2 w') => cell_blk (hb2.kept k (fun h => h)))
      have N2 := Lib.hid (hn0.out.same k2)
      have K2 := Lib.hid (K.out.trans k2)
      clear hb2 k2 c0 c1 HO K hn0
      go_wp2_with fail
      refine wp_region_T (S := fun w' => Same w2 w') 8 (by kernel_rfl) (Kept.refl _ _).drew (fun hHeld hDn => ?_)
      refine wpT_z 0 16 QX hHeld hDn fun hDn => ?_
      refine wpT_z 1 17 QX hHeld hDn fun hDn => ?_
      refine wpT_z 2 18 QX hHeld hDn fun hDn => ?_
      refine wpT_z 4 20 QX hHeld hDn fun hDn => ?_
      refine wpT_z 5 21 QX hHeld hDn fun hDn => ?_
      refine wpT_one (i := 3) rfl (by kernel_rfl) hDn (fun K' hK => ?_)
      go_simp
      refine (PA.out _).mono ?_
      rintro e w3 ⟨a3, l3, c3, rfl, e3, n3, k3⟩
      have K3 := Lib.hid (((Kept.refl (fun _ => False) w2).drew).trans k3)
      have N3 := Lib.hid n3
      have E3 := Lib.hid e3
      clear k3 n3 e3 PA
      refine hK.out _ _ K3.out (fun hHeld2 hDn2 => ?_)
      clear hK K' hHeld hDn
      have hHeld := hHeld2; have hDn := hDn2
      clear hHeld2 hDn2
      refine wpT_one (i := 6) rfl (by kernel_rfl) hDn (fun K' hK => ?_)
      go_simp
      refine (PB.out _).mono ?_
      rintro e w4 ⟨a4, l4, c4, rfl, e4, n4, k4⟩
      have K4 := Lib.hid (K3.out.trans k4)
      have N4 := Lib.hid n4
      have N3' := Lib.hid (N3.out.same k4)
      have E4 := Lib.hid e4
      clear k4 n4 e4 PB K3 N3
      refine hK.out _ _ K4.out (fun hHeld2 hDn2 => ?_)
      clear hK K' hHeld hDn
      have hHeld := hHeld2; have hDn := hDn2
      clear hHeld2 hDn2
      refine wpT_one (i := 7) rfl (by kernel_rfl) hDn (fun K' hK => ?_)
      go_simp
      refine hK.out _ _ (K4.out.alloc _) (fun hHeld2 hDn2 => ?_)
      clear hK K' hHeld hDn
      have hHeld := hHeld2; have hDn := hDn2
      clear hHeld2 hDn2
      refine wpT_last rfl (by kernel_rfl) hDn (fun K hK => ?_)
      go_simp
      have RW := rows3 ((N2.out.same K4.out).same ((Kept.refl _ w4).alloc (.cells #[.slice a0 l0 r0, .slice a3 l3 c3, .slice a4 l4 c4] 23))) (N3'.out.same ((Kept.refl _ w4).alloc _)) (N4.out.same ((Kept.refl _ w4).alloc _)) hl0.out E3.out E4.out (Blk.new w4 _ _)
      have FL : flatR [(a0, l0, r0, putSmall n ++ layP (L.take i)), (a3, l3, c3, putT (natsU x.1)), (a4, l4, c4, putT (natsU x.2))] = putSmall n ++ layP (L.take (i + 1)) := by
        rw [LT.out]
        simp [flatR, layQ]
      have hlen : (flatR [(a0, l0, r0, putSmall n ++ layP (L.take i)), (a3, l3, c3, putT (natsU x.1)), (a4, l4, c4, putT (natsU x.2))]).length ≤ 1000000000 := by
        have h1 := LL.out
        have h2 := QL.out
        have h3 := putSmall_len n
        rw [FL, LT.out, List.length_append, List.length_append]
        omega
      have K5 := Lib.hid ((K2.out.trans K4.out).alloc (.cells #[.slice a0 l0 r0, .slice a3 l3 c3, .slice a4 l4 c4] 23))
      with_reducible refine (sl_concat w4.heap.size 3 3 _ rfl hlen (by decide) _ RW).mono ?_
      rw [FL]
      rintro e w6 ⟨v6, rfl, o6, k6⟩
      have O6 := Lib.hid (o6.base K5.out.size)
      have K6 := Lib.hid (K5.out.trans k6)
      clear o6 k6 FL hlen RW
      refine hK.out _ _ (fun hDn' => ?_)
      clear hK hDn hHeld; have hDn := hDn'; clear hDn'
      refine wpT_ze 9 3 hDn fun hDn => ?_
      refine wpT_done (by kernel_rfl) ?_ _
      clear hDn QX
      go_wp2_with fail
      go_roundw
      case rel => exact ⟨i + 1, by go_num, by omega, O6.out, K6.out⟩
      case measure => simp [intOf]; omega
    · have g1 : ¬ (i : Int) < (n : Int) := by omega
      have e : i = n := by omega
      subst e
      go_wp2_with fail
      go_ret
      exact ⟨_, rfl, by have := HO.out; rw [HN.out, List.take_length] at this; exact this, K.out⟩
end Go.Proofs.YtpgghajkpjhieaaGreatDoor
