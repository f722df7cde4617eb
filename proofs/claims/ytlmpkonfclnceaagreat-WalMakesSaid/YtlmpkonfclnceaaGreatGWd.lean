/- GWd: Rx4, Wn, Wd1, Wd2, Wd3. -/
import Derived.Test.YtlmpkonfclnceaaGreatRx3
import Derived.Lib.ConvBytes
import Derived.Test.YtlmpkonfclnceaaGreatWl7
import Derived.Test.YtlmpkonfclnceaaGreatWl8
import Derived.Test.YtlmpkonfclnceaaGreatAw10
import Derived.Test.YtlmpkonfclnceaaGreatAct10
namespace Go.Proofs.YtlmpkonfclnceaaGreat
open Go.RowKit Go.Sort

/-- A text's bytes, in a block of their own. -/
theorem zb_conv_bytes (xs : List Nat) (hb : Bts xs) (w : World) : ∃ c w', (convert 9 29 (.string (strN xs))).run Tryz.prog w = .ok (.slice (some ⟨w.heap.size, 0, none⟩) xs.length c) w' ∧ NatsAt w' .u8 (some ⟨w.heap.size, 0, none⟩) xs ∧ xs.length ≤ c ∧ Same w w' := by
  have h := Lib.run_convert_string_bytes (P := Tryz.prog) w 9 29 5 (strN xs) Tryz.underlying9 Tryz.underlying29 Tryz.underlying5
  rw [strN_len] at h
  refine ⟨_, _, h, ?_, ?_, ?_⟩
  · refine .inr ⟨w.heap.size, 0, rfl, by rw [Lib.bytesWorld_size]; omega, fun i x hx => ?_⟩
    have hi : i < xs.length := (List.getElem?_eq_some_iff.1 hx).1
    rw [Nat.zero_add, Lib.bytesWorld_cell _ _ _ _ (by rw [strN_len]; exact hi)]
    have e : (strN xs).data.toList = xs.map UInt8.ofNat := by unfold strN; simp
    rw [e, List.getD_eq_getElem?_getD, List.getElem?_map, hx]
    have := hb x (List.mem_of_getElem? hx)
    simp [Nat.mod_eq_of_lt this]
  · exact grownCap_ge w xs.length 0 _
  · exact ⟨rfl, rfl, rfl, by rw [Lib.bytesWorld_size]; omega, fun k hk _ => Lib.bytesWorld_at_old w _ _ k hk⟩
theorem readD_ring {D : Dsk} {F Q : Nat} (hoff : D.off = false) (hr : F + Q ≤ D.s.length) (hD : D.OK) {i : Nat} (hi : i < Q) : (readD D ((F + i : Nat) : Int)).1.length = 256 ∧ Bts (readD D ((F + i : Nat) : Int)).1 := by
  unfold readD
  rw [if_pos]
  · have := getD_ok hD.secs (F + i)
    rw [Int.toNat_natCast]
    exact ⟨this.hasL, this.hasB⟩
  · unfold errD
    rw [hoff, if_neg (by decide), if_neg (by omega)]
theorem newE_zero {D : Dsk} {f q e : Int} (h : newE D f q e = 0) : D.off = false ∧ 0 ≤ f ∧ 0 ≤ q ∧ q ≤ 256 ∧ f ≤ (D.s.length : Int) - q ∧ 1 ≤ e ∧ e ≤ 1099511627776 := by
  unfold newE at h
  split at h
  · cases h
  · split at h
    · cases h
    · split at h
      · cases h
      · rename_i h1 h2 h3
        refine ⟨by simpa using h1, by omega, by omega, by omega, by omega, by omega, by omega⟩
section
attribute [local go_sem ↓] exec_app semAt_app
attribute [local go_sem] isApp_lit appA appX
set_option maxRecDepth 100000 in
set_option maxHeartbeats 4000000 in
theorem rx_open {w : World} {P : Nat → Prop} (hP : ∀ j, w.heap.size ≤ j → P j) (a : Option Addr) (c : Nat) (D : Dsk) (hD : D.OK) (hs : SecsAt w a D.s) (hpa : ∀ y, a = some y → P y.block) (f q e : Int) :
    Calls Tryz.prog 34 #[refV a D.s.length c D, .int .i64 f, .int .i64 q, .int .i64 e] w (RNew w P a c D (newE D f q e) (openL D f q e)) := by
  have HS := Lib.hid hs
  have HP := Lib.hid hP
  have HA := Lib.hid hpa
  have HD := Lib.hid hD
  have SLT := Lib.hid (secsAt_lt hs)
  have NW := Lib.hid fun w' (kk : Same w w') => rx_new (P := P) a c D (HS.out.kept kk (.inr (fun _ _ h => h))) hpa hD.few f q e
  obtain ⟨E0, hE0⟩ : ∃ E0, newE D f q e = E0 := ⟨_, rfl⟩
  simp only [hE0] at NW
  rw [hE0]
  clear hs hP hpa hD
  unfold refV at NW ⊢
  by_cases h0 : E0 = 0
  · subst h0
    obtain ⟨z1, z2, z3, z4, z5, z6, z7⟩ := newE_zero hE0
    obtain ⟨Fi, rfl⟩ : ∃ m : Nat, f = (m : Int) := ⟨f.toNat, by omega⟩
    obtain ⟨Q, rfl⟩ : ∃ m : Nat, q = (m : Int) := ⟨q.toNat, by omega⟩
    obtain ⟨E, rfl⟩ : ∃ m : Nat, e = (m : Int) := ⟨e.toNat, by omega⟩
    have hnl : newL (Fi : Nat) (Q : Nat) (E : Nat) = ⟨Fi, Q, E, 0, [], [], false, false⟩ := by unfold newL; simp
    have hol : openL D (Fi : Nat) (Q : Nat) (E : Nat) = ⟨Fi, Q, E, 0, (scanS (E : Nat) 0 (ringS D Fi Q)).1, [], true, false⟩ := by unfold openL; rw [hnl]; simp
    rw [hnl] at NW
    rw [hol]
    have few := HD.out.few
    have hring : Fi + Q ≤ D.s.length := by omega
    have RR := Lib.hid fun (i : Nat) (hi : i < Q) => readD_ring (F := Fi) z1 hring HD.out hi
    have RD := Lib.hid fun w' (kk : Same w w') (i : Int) => rs_read a D.s.length c D rfl i w' (HS.out.kept kk (.inr (fun _ _ h => h)))
    obtain ⟨R, hR⟩ : ∃ R, scanS (E : Nat) 0 (ringS D Fi Q) = R := ⟨_, rfl⟩
    rw [hR]
    have HR := Lib.hid hR
    simp only [refV] at RD
    have Z1 := Lib.hid z1
    clear hnl hol hE0 hR z1
    go_enter Tryz.func34, Tryz.ntmps34
    go_wp2_with fail
    refine Calls.fr2 ?_; intro W F' K' hz'; have F := Lib.hid F'; have K := Lib.hid K'; have hz := Lib.hid hz'; clear F' K' hz'; obtain ⟨p0, f0, p1, f1, -⟩ := F.out.rules; have z0 := F.out.1.lt; have z1 := F.out.2.1.lt
    with_reducible refine (NW.out _ K.out).mono ?_
    rintro r w2 ⟨hp, k2⟩
    rw [if_pos rfl] at hp
    obtain ⟨ha, hc, wa, wc, rfl, hrl⟩ := hp
    have RL := Lib.hid hrl
    have K2 := Lib.hid (K.out.trans k2)
    have F2 := Lib.hid (F.out.same k2)
    have hs2 := k2.size
    have hWz : W.heap.size = w.heap.size + 1 + 1 := hz.out
    simp only [lgV, List.length_nil, Int.natCast_zero]
    clear hrl k2 K F NW p0 f0 p1 f1
    go_upto_region 2 with fail
    obtain ⟨y, hy⟩ : ∃ y, w2.heap.size = y := ⟨_, rfl⟩
    refine cutWl (fun wn => Fr wn [(w.heap.size, #[.slice a D.s.length c, .bool D.off, .int .i64 D.calls, .int .i64 D.after, .bool D.done], 40), (w.heap.size + 1, #[.slice none 0 0, .bool false, .int .i64 0, .int .i64 0, .bool false, .int .i64 0, .int .i64 0, .int .i64 0, .int .i64 0, .slice none 0 0, .slice none 0 0, .bool false, .bool false], 48), (y, #[.slice a D.s.length c, .bool D.off, .int .i64 D.calls, .int .i64 D.after, .bool D.done, .int .i64 (Fi : Nat), .int .i64 (Q : Nat), .int .i64 (E : Nat), .int .i64 0, .slice ha 0 hc, .slice wa 0 wc, .bool false, .bool false], 48)] ∧ Same w2 wn) ⟨⟨F2.out.1.alloc _, F2.out.2.1.alloc _, Blk.new' _ _ _ hy.symm, trivial⟩, (Kept.refl _ _).alloc _⟩ ?_
    rintro wn ⟨hfn, hkn⟩
    rw [hy]
    have hyz : w.heap.size + 1 < y := by omega
    have FN := Lib.hid hfn
    have KN := Lib.hid (K2.out.trans hkn)
    have RN := Lib.hid (RL.out.same hkn)
    have hsn := hkn.size
    obtain ⟨p0, f0, p1, f1, p2, f2, -⟩ := hfn.rules
    have z0 := hfn.1.lt
    have z1 := hfn.2.1.lt
    have z2 := hfn.2.2.1.lt
    clear hfn hkn hy F2 K2 RL hz hs2 hWz
    go_wp2_with fail
    go_loopw [12, 13] (fun v t wr => ∃ i : Nat, t = .int .i64 i ∧ i ≤ Q ∧ RowsOwn wr wn.heap.size v ((ringS D Fi Q).take i) ∧ Same wn wr) (fun _ t _ => Q - (intOf t).toNat)
    case atStart => exact ⟨0, rfl, Nat.zero_le _, RowsOwn.nil _ _, Kept.refl _ _⟩
    case round =>
      obtain ⟨i, rfl, hi, hro, hk⟩ := hrel
      have RO := Lib.hid hro; have KW := Lib.hid hk
      have hks := hk.size
      obtain ⟨p0, f0, p1, f1, p2, f2, -⟩ := (FN.out.same hk).rules
      obtain ⟨av, cv, rfl, hcv⟩ := hro.len
      obtain ⟨n, hn⟩ : ∃ n, ((ringS D Fi Q).take i).length = n := ⟨_, rfl⟩
      have hnl : n ≤ 256 := by rw [← hn, List.length_take, ringS_len]; omega
      have HN := Lib.hid hn
      rw [hn]
      clear hro hk hn
      by_cases hgo : i < Q
      · have g1 : (i : Int) < (Q : Int) := by omega
        have hrr := RR.out i hgo
        have htk : Hid ((ringS D Fi Q).take (i + 1) = (ringS D Fi Q).take i ++ [(readD D ((Fi + i : Nat) : Int)).1]) := take_succ_chunk (ringS_get D Fi Q i hgo)
        have RX := Lib.hid (RD.out wr (KN.out.trans KW.out) ((Fi + i : Nat) : Int))
        obtain ⟨X, hX⟩ : ∃ X, readD D ((Fi + i : Nat) : Int) = X := ⟨_, rfl⟩
        rw [hX] at hrr htk RX
        rw [Int.natCast_add] at RX
        have HRR := Lib.hid hrr
        have w1 : IntKind.i64.wrap ((Fi : Int) + (i : Int)) = (Fi : Int) + (i : Int) := IntWalk.i64_in _ (by omega)
        clear hrr hX
        go_wp2_with fail
        with_reducible refine RX.out.mono ?_
        rintro r w6 ⟨rfl, k6⟩
        obtain ⟨c7, w7, hcv7, n7, hc7, k7⟩ := zb_conv_bytes X.1 HRR.out.2 w6
        have hg7 : w6.heap.size < w7.heap.size := by
          rcases n7 with q | ⟨b, o, q, hb, _⟩
          · have := HRR.out.1; rw [q] at this; cases this
          · cases q; exact hb
        have hvg : (Value.slice av n cv).ownBlock ≠ some w6.heap.size := by
          intro q
          obtain ⟨rs', h1, -, -⟩ := RO.out
          have := (h1.far w6.heap.size (by rw [HN.out]; exact q)).2
          have := k6.size
          omega
        have k67 := k6.trans k7
        have ROa : RowsOwn w7 wn.heap.size (.slice av n cv) ((ringS D Fi Q).take i) := by rw [← HN.out]; exact RO.out.same k67
        obtain ⟨v9, w9, hrun, ro9, k9⟩ := rows_append ROa (Nat.le_trans hks k67.size) (by rw [HN.out]; omega) w6.heap.size X.1.length c7 X.1 rfl hc7 (Nat.le_trans hks k6.size) hg7 hvg n7
        obtain ⟨aok, aV, aW⟩ := app_of hrun
        have RO9 := Lib.hid ro9
        have K9 := Lib.hid ((KW.out.trans k67).step k9 (fun q hq z => by omega))
        clear hrun ro9 k9 k67 k6 k7 n7 hvg ROa RX
        go_wp2_with fail
        go_roundw
        case rel => exact ⟨i + 1, by go_num, by omega, by rw [htk.out]; exact RO9.out, K9.out⟩
        case measure => simp [intOf]; omega
      · have g1 : ¬ (i : Int) < (Q : Int) := by omega
        have eT : (ringS D Fi Q).take i = ringS D Fi Q := List.take_of_length_le (by rw [ringS_len]; omega)
        have hROE := RO.out
        rw [eT] at hROE HN
        have hrows : RowsAt wr av (ringS D Fi Q) := by
          obtain ⟨rs', h1, h2, h3⟩ := hROE
          exact ⟨rs', h1.at.1, h2, fun i r b hr hb => (h3 i r b hr hb).1⟩
        have SC := Lib.hid (rq_scan av n cv (ringS D Fi Q) HN.out.symm (by rw [← HN.out, ringS_len]; omega) (fun b hb => ?_) E ⟨by omega, by omega⟩ wr hrows)
        rotate_left
        · obtain ⟨j, hj, rfl⟩ := List.mem_map.1 hb
          have := RR.out j (List.mem_range.1 hj)
          exact ⟨this.2, this.1⟩
        rw [HR.out] at SC
        clear hROE hrows eT
        go_wp2_with fail
        with_reducible refine SC.out.mono ?_
        rintro r w6 ⟨⟨v6, rfl, o6⟩, k6⟩
        obtain ⟨a6, l6, c6, rfl, hl6, hn6, ha6, hc6⟩ := OwnE.rd o6
        have K6n := Lib.hid (KW.out.trans k6)
        have F6 := Lib.hid (FN.out.same K6n.out)
        have K6 := Lib.hid (KN.out.trans K6n.out)
        have R6 := Lib.hid (RN.out.same K6n.out)
        have B6 := Lib.hid o6.atFar
        have LT6 := Lib.hid (ownT_lt o6)
        obtain ⟨q0, r0, q1, r1, q2, r2, -⟩ := F6.out.rules
        have y0 := F6.out.1.lt
        have y1 := F6.out.2.1.lt
        have y2 := F6.out.2.2.1.lt
        have HL6 := hl6
        have A6 := ha6
        clear SC k6 o6 hl6 ha6 p0 f0 p1 f1 p2 f2
        go_wp2_with fail
        refine bodyPost_ret (results_two_tmp rfl _ _ (w.heap.size + 1) _ _ _ rfl (Blk.set13 (t := 48) (v0 := .slice none 0 0) (v1 := .bool false) (v2 := .int .i64 0) (v3 := .int .i64 0) (v4 := .bool false) (v5 := .int .i64 0) (v6 := .int .i64 0) (v7 := .int .i64 0) (v8 := .int .i64 0) (v9 := .slice none 0 0) (v10 := .slice none 0 0) (v11 := .bool false) (v12 := .bool false) ?_) Tryz.underlying48 rfl (by kernel_rfl)) rfl ?_
        · refine F6.out.2.1.kept (fp := fun j => j = y) ?_ (by omega)
          repeat (first | with_reducible exact Kept.refl _ _ | with_reducible refine Kept.setG ?_ _ _)
        have hfin : ∀ w', Kept (fun j => j = y ∨ j = w.heap.size + 1) w6 w' → RLog w' P a D ⟨Fi, Q, E, 0, R.1, [], true, false⟩ a6 c6 wa wc := by
          intro w' kf
          refine ⟨(HS.out.kept K6.out (.inr (fun _ _ h => h))).kept kf (SLT.out.imp_right (fun q y' hy' z => by have := q y' hy'; omega)), A6.kept kf (fun y' hy' z => by have h1 : wr.heap.size ≤ y'.block := B6.out y' hy'; omega), hn6.out, .inl rfl, R6.out.wnil, HA.out, fun y' hy' => HP.out _ (by have h1 : wr.heap.size ≤ y'.block := B6.out y' hy'; omega), R6.out.pw, fun y' hy' => Nat.lt_of_lt_of_le (LT6.out y' hy') kf.size, fun y' hy' => Nat.lt_of_lt_of_le (R6.out.lw y' hy') kf.size⟩
        refine ⟨?_, ?_⟩
        · rw [if_pos rfl]
          refine ⟨a6, c6, wa, wc, ?_, hfin _ ?_⟩
          · unfold lgV
            rw [HL6.out]
            rfl
          · (repeat (first | with_reducible exact Kept.refl _ _ | with_reducible refine Kept.setCell ?_ (fun _ => by simp) _))
        · (repeat (first | with_reducible exact K6.out | with_reducible refine Kept.setNew ?_ (by dsimp only; omega) _))
  · have hn0 : ¬ ((E0 : Nat) : Int) = 0 := by omega
    have hnb : (((E0 : Nat) : Int) == 0) = false := by simpa using hn0
    have hnn : (((E0 : Nat) : Int) != 0) = true := by simpa using hn0
    clear hE0
    go_enter Tryz.func34, Tryz.ntmps34
    go_wp2_with fail
    refine Calls.fr2 ?_; intro W F' K' hz'; have F := Lib.hid F'; have K := Lib.hid K'; have hz := Lib.hid hz'; clear F' K' hz'; obtain ⟨p0, f0, p1, f1, -⟩ := F.out.rules; have z0 := F.out.1.lt; have z1 := F.out.2.1.lt
    with_reducible refine (NW.out _ K.out).mono ?_
    rintro r w2 ⟨hp, k2⟩
    rw [if_neg h0] at hp
    subst hp
    have K2 := Lib.hid (K.out.trans k2)
    have F2 := Lib.hid (F.out.same k2)
    have hs2 := k2.size
    have hWz : W.heap.size = w.heap.size + 1 + 1 := hz.out
    unfold zrV
    clear k2 K F NW p0 f0 p1 f1
    go_upto_region 2 with fail
    obtain ⟨y, hy⟩ : ∃ y, w2.heap.size = y := ⟨_, rfl⟩
    refine cutWl (fun wn => Fr wn [(w.heap.size, #[.slice a D.s.length c, .bool D.off, .int .i64 D.calls, .int .i64 D.after, .bool D.done], 40), (w.heap.size + 1, #[.slice none 0 0, .bool false, .int .i64 0, .int .i64 0, .bool false, .int .i64 0, .int .i64 0, .int .i64 0, .int .i64 0, .slice none 0 0, .slice none 0 0, .bool false, .bool false], 48), (y, #[.slice none 0 0, .bool false, .int .i64 0, .int .i64 0, .bool false, .int .i64 0, .int .i64 0, .int .i64 0, .int .i64 0, .slice none 0 0, .slice none 0 0, .bool false, .bool false], 48)] ∧ Same w2 wn) ⟨⟨F2.out.1.alloc _, F2.out.2.1.alloc _, Blk.new' _ _ _ hy.symm, trivial⟩, (Kept.refl _ _).alloc _⟩ ?_
    rintro wn ⟨hfn, hkn⟩
    rw [hy]
    have hyz : w.heap.size + 1 < y := by omega
    have FN := Lib.hid hfn
    have KN := Lib.hid (K2.out.trans hkn)
    have hsn := hkn.size
    obtain ⟨p0, f0, p1, f1, p2, f2, -⟩ := hfn.rules
    have z0 := hfn.1.lt
    have z1 := hfn.2.1.lt
    have z2 := hfn.2.2.1.lt
    clear hfn hkn hy F2 K2 hz hs2 hWz
    go_wp2_with fail
    refine bodyPost_ret (results_two_tmp rfl _ _ (w.heap.size + 1) _ _ _ rfl (Blk.set13 (t := 48) (v0 := .slice none 0 0) (v1 := .bool false) (v2 := .int .i64 0) (v3 := .int .i64 0) (v4 := .bool false) (v5 := .int .i64 0) (v6 := .int .i64 0) (v7 := .int .i64 0) (v8 := .int .i64 0) (v9 := .slice none 0 0) (v10 := .slice none 0 0) (v11 := .bool false) (v12 := .bool false) FN.out.2.1) Tryz.underlying48 rfl (by kernel_rfl)) rfl ?_
    refine ⟨?_, ?_⟩
    · rw [if_neg h0]
      rfl
    · (repeat (first | with_reducible exact KN.out | with_reducible refine Kept.setNew ?_ (by dsimp only; omega) _))
end
end Go.Proofs.YtlmpkonfclnceaaGreat

namespace Go.Proofs.YtlmpkonfclnceaaGreat
open Go.RowKit Go.Sort

/-- What New, and Open, tell. -/
def NewPostP (w : World) (d bs m : Nat) (E : Nat) (L : Lg) (r : Ending) (w' : World) : Prop :=
  (if E = 0 then ∃ g, r = .returned (.tuple #[.pointer (some ⟨g, 0, none⟩), .int .i64 0]) ∧ LogP w' g d bs m L (fun j => w.heap.size ≤ j) ∧ w.heap.size ≤ g else r = .returned (.tuple #[.pointer none, .int .i64 (E : Nat)])) ∧ Same w w'
theorem newPostP_err {w w' : World} {d bs m E : Nat} {L : Lg} (h : E ≠ 0) (k : Same w w') : NewPostP w d bs m E L (.returned (.tuple #[.pointer none, .int .i64 (E : Nat)])) w' := ⟨by rw [if_neg h], k⟩
set_option maxRecDepth 100000 in
set_option maxHeartbeats 800000 in
theorem wl_newP {w : World} {d bs cap m : Nat} {D : Dsk} (h : DiskIn w d bs cap m D) (f c e : Int) :
    Calls Tryz.prog 12 #[.pointer (some ⟨d, 0, none⟩), .int .i64 f, .int .i64 c, .int .i64 e] w (NewPostP w d bs m (newE D f c e) (newL f c e)) := by
  have OF := Lib.hid (sd_off h)
  have SZ := Lib.hid (sd_size h)
  have few := h.ok.few
  have l1 := h.box.lt; have l2 := h.safe.lt; have l3 := h.map.lt
  clear h
  cases hoff : D.off
  · rw [hoff] at OF
    by_cases c1 : c < 0
    · have hE : newE D f c e = 2 := by unfold newE; rw [hoff]; simp; omega
      rw [hE]
      clear hE
      go_enter Tryz.func12, Tryz.ntmps12
      go_wp2_with fail
      with_reducible refine OF.out.mono ?_
      rintro r w1 ⟨rfl, rfl⟩
      go_wp2_with fail
      go_ret2
      exact newPostP_err (by decide) (Kept.refl _ _)
    by_cases c2 : 256 < c
    · have hE : newE D f c e = 2 := by unfold newE; rw [hoff]; simp; omega
      rw [hE]
      clear hE
      go_enter Tryz.func12, Tryz.ntmps12
      go_wp2_with fail
      with_reducible refine OF.out.mono ?_
      rintro r w1 ⟨rfl, rfl⟩
      go_wp2_with fail
      go_ret2
      exact newPostP_err (by decide) (Kept.refl _ _)
    by_cases c3 : f < 0
    · have hE : newE D f c e = 2 := by unfold newE; rw [hoff]; simp; omega
      rw [hE]
      clear hE
      go_enter Tryz.func12, Tryz.ntmps12
      go_wp2_with fail
      with_reducible refine OF.out.mono ?_
      rintro r w1 ⟨rfl, rfl⟩
      go_wp2_with fail
      go_ret2
      exact newPostP_err (by decide) (Kept.refl _ _)
    by_cases c4 : (D.s.length : Int) - c < f
    · have hE : newE D f c e = 2 := by unfold newE; rw [hoff, if_neg (by decide), if_pos (by omega)]
      rw [hE]
      clear hE
      go_enter Tryz.func12, Tryz.ntmps12
      go_wp2_with fail
      with_reducible refine OF.out.mono ?_
      rintro r w1 ⟨rfl, rfl⟩
      go_wp2_with fail
      with_reducible refine SZ.out.mono ?_
      rintro r w2 ⟨rfl, rfl⟩
      go_wp2_with fail
      go_ret2
      exact newPostP_err (by decide) (Kept.refl _ _)
    by_cases c5 : e < 1
    · have hE : newE D f c e = 9 := by unfold newE; rw [hoff, if_neg (by decide), if_neg (by omega), if_pos (by omega)]
      rw [hE]
      clear hE
      go_enter Tryz.func12, Tryz.ntmps12
      go_wp2_with fail
      with_reducible refine OF.out.mono ?_
      rintro r w1 ⟨rfl, rfl⟩
      go_wp2_with fail
      with_reducible refine SZ.out.mono ?_
      rintro r w2 ⟨rfl, rfl⟩
      go_wp2_with fail
      go_ret2
      exact newPostP_err (by decide) (Kept.refl _ _)
    by_cases c6 : 1099511627776 < e
    · have hE : newE D f c e = 9 := by unfold newE; rw [hoff, if_neg (by decide), if_neg (by omega), if_pos (by omega)]
      rw [hE]
      clear hE
      go_enter Tryz.func12, Tryz.ntmps12
      go_wp2_with fail
      with_reducible refine OF.out.mono ?_
      rintro r w1 ⟨rfl, rfl⟩
      go_wp2_with fail
      with_reducible refine SZ.out.mono ?_
      rintro r w2 ⟨rfl, rfl⟩
      go_wp2_with fail
      go_ret2
      exact newPostP_err (by decide) (Kept.refl _ _)
    have hE : newE D f c e = 0 := by unfold newE; rw [hoff, if_neg (by decide), if_neg (by omega), if_neg (by omega)]
    rw [hE]
    clear hE
    go_enter Tryz.func12, Tryz.ntmps12
    go_wp2_with fail
    with_reducible refine OF.out.mono ?_
    rintro r w1 ⟨rfl, rfl⟩
    go_wp2_with fail
    with_reducible refine SZ.out.mono ?_
    rintro r w2 ⟨rfl, rfl⟩
    go_wp2_with fail
    go_ret2
    refine ⟨?_, (Kept.refl _ _).alloc _⟩
    rw [if_pos rfl]
    refine ⟨w2.heap.size, rfl, ⟨none, 0, none, 0, ⟨?_, .inl rfl, Nat.le_refl _, fun _ => rfl, .inl rfl, Nat.le_refl _, fun _ => rfl, ?_, fun y hy => (by cases hy), fun y hy => (by cases hy)⟩, fun y hy => (by cases hy), fun y hy => (by cases hy)⟩, Nat.le_refl _⟩
    · have e1 : ((f.toNat : Nat) : Int) = f := by omega
      have e2 : ((c.toNat : Nat) : Int) = c := by omega
      have e3 : ((e.toNat : Nat) : Int) = e := by omega
      unfold lgC newL
      simp only [e1, e2, e3]
      exact Blk.new _ _ _
    · rintro (q | q | q) <;> omega
  · rw [hoff] at OF
    have hE : newE D f c e = 8 := by unfold newE; rw [hoff]; rfl
    rw [hE]
    clear hE
    go_enter Tryz.func12, Tryz.ntmps12
    go_wp2_with fail
    with_reducible refine OF.out.mono ?_
    rintro r w1 ⟨rfl, rfl⟩
    go_wp2_with fail
    go_ret2
    exact newPostP_err (by decide) (Kept.refl _ _)
set_option maxRecDepth 100000 in
set_option maxHeartbeats 1600000 in
theorem wl_openP {w : World} {d bs cap m : Nat} {D : Dsk} (h : DiskIn w d bs cap m D) (f c e : Int) :
    Calls Tryz.prog 14 #[.pointer (some ⟨d, 0, none⟩), .int .i64 f, .int .i64 c, .int .i64 e] w (NewPostP w d bs m (newE D f c e) (openL D f c e)) := by
  have NW := Lib.hid (wl_newP h f c e)
  have HD := Lib.hid h
  have few := h.ok.few
  obtain ⟨E, hE⟩ : ∃ E, newE D f c e = E := ⟨_, rfl⟩
  have HE := Lib.hid hE
  rw [hE] at NW
  rw [hE]
  clear hE h
  by_cases h0 : E = 0
  · subst h0
    have hb : 0 ≤ f ∧ 0 ≤ c ∧ c ≤ 256 ∧ f + c ≤ (D.s.length : Int) := by
      have := HE.out
      unfold newE at this
      split at this
      · omega
      · split at this
        · omega
        · omega
    obtain ⟨b1, b2, b3, b4⟩ := hb
    obtain ⟨F, rfl⟩ : ∃ F : Nat, f = (F : Int) := ⟨f.toNat, by omega⟩
    obtain ⟨C, rfl⟩ : ∃ C : Nat, c = (C : Int) := ⟨c.toNat, by omega⟩
    have hC : C ≤ 256 := by omega
    have hF : F ≤ 5000 := by omega
    clear b1 b2 b3 b4 few
    go_enter Tryz.func14, Tryz.ntmps14
    go_wp2_with fail
    with_reducible refine NW.out.mono ?_
    rintro r w2 ⟨hp, k2⟩
    rw [if_pos rfl] at hp
    obtain ⟨g, rfl, hl, hg⟩ := hp
    obtain ⟨ha, hc, wa, wc, hin, -, hpw⟩ := hl
    have PW := Lib.hid hpw
    clear hpw
    have IN := Lib.hid hin
    have K2 := Lib.hid k2
    have p0 := cell_blk hin.box
    have f0 := fun i => hin.box.free i
    have z0 := hin.box.lt
    simp only [lgC, newL] at p0
    have D2 := Lib.hid (HD.out.same k2)
    clear hin k2 NW
    have RG := Lib.hid (wl_ring D2.out F C hF hC)
    have few2 := ringS_ok D2.out.ok F C
    have RO := Lib.hid few2
    clear few2
    go_wp2_with fail
    with_reducible refine RG.out.mono ?_
    rintro r w3 ⟨⟨ra, rfl, hra⟩, k3⟩
    have RA := Lib.hid hra
    have K3 := Lib.hid k3
    have SC := Lib.hid (ws_scan ra C C (ringS D F C) (ringS_len D F C).symm hC RO.out e w3 RA.out)
    clear hra k3 p0 f0 RG
    obtain ⟨Z, hZ⟩ : ∃ Z, scanS e 0 (ringS D F C) = Z := ⟨_, rfl⟩
    rw [hZ] at SC
    have HZ := Lib.hid hZ
    clear hZ
    go_wp2_with fail
    with_reducible refine SC.out.mono ?_
    rintro r w4 ⟨⟨v, rfl, ho⟩, k4⟩
    obtain ⟨a5, l5, c5, rfl, hl5, hn5, ha5, hc5⟩ := OwnE.rd ho
    have OW := Lib.hid ho
    have K4 := Lib.hid (K3.out.trans k4)
    have B4 := Lib.hid (IN.out.box.kept (K3.out.trans k4) (fun h => h))
    have hks := K3.out.size
    have p0 := cell_blk B4.out
    have f0 := fun i => B4.out.free i
    have z4 := B4.out.lt
    simp only [lgC, newL] at p0
    clear k4 ho SC
    go_wp2_with fail
    go_ret2
    have hH : openL D (F : Int) (C : Int) e = { newL F C e with has := Z.1, closed := true } := by
      unfold openL
      rw [← HZ.out]
      rfl
    rw [hH]
    have kz : Kept (fun j => j = g) w4 ((w4.setCell ⟨g, 5, none⟩ (.slice a5 l5 c5)).setCell ⟨g, 7, none⟩ (.bool true)) := ((Kept.refl _ _).setG _ _).setG _ _
    have hi := IN.out
    have K34 : Same w2 w4 := K4.out
    have F5 : ∀ y, a5 = some y → w3.heap.size ≤ y.block ∧ y.block < w4.heap.size ∧ ∃ b o, y = ⟨b, o, none⟩ := by
      intro y hy
      have := World.ownsRow.lt OW.out y.block (by rw [hy]; rfl)
      refine ⟨this.1, this.2, ?_⟩
      rcases OW.out.2 with ⟨q, _⟩ | ⟨g', cap, cur, q, _⟩
      · simp at q; rw [q.1] at hy; cases hy
      · simp at q; rw [q.1] at hy; cases hy; exact ⟨_, _, rfl⟩
    have l1 := D2.out.box.lt; have l2 := D2.out.safe.lt; have l3 := D2.out.map.lt
    refine ⟨?_, (K2.out.trans K34).step kz (fun j hj q => by omega)⟩
    rw [if_pos rfl]
    refine ⟨g, rfl, ⟨a5, c5, wa, wc, ⟨?_, ha5.out.kept kz (fun y hy => ?_), ?_, hn5.out, .inl rfl, hi.wcap, hi.wnil, hi.og, fun y hy => ?_, fun y hy => ?_⟩, fun y hy => ?_, fun y hy => PW.out y hy⟩, hg⟩
    · have := (B4.out.set 5 (.slice a5 l5 c5)).set 7 (.bool true)
      rw [hl5.out] at this
      rw [hl5.out]
      simpa [lgC, newL] using this
    · have := (F5 y hy).1
      omega
    · show Z.1.length ≤ c5
      rw [← hl5.out]
      exact hc5.out.1
    · have q := F5 y hy
      refine ⟨by rintro (z | z | z) <;> omega, by omega, Nat.lt_of_lt_of_le q.2.1 kz.size, q.2.2⟩
    · have q := hi.ow y hy
      exact ⟨q.1, q.2.1, Nat.lt_of_lt_of_le q.2.2.1 (Nat.le_trans K34.size kz.size), q.2.2.2⟩
    · have q := F5 y hy
      have := K2.out.size
      omega
  · have h0' : ¬ (E : Int) = 0 := by omega
    go_enter Tryz.func14, Tryz.ntmps14
    go_wp2_with fail
    with_reducible refine NW.out.mono ?_
    rintro r w2 ⟨hp, k2⟩
    rw [if_neg h0] at hp
    subst hp
    go_wp2_with fail
    go_ret2
    exact newPostP_err h0 k2
theorem wl_bad {w : World} {g d bs m : Nat} {L : Lg} (h : LogI w g d bs m L) :
    Calls Tryz.prog 25 #[.pointer (some ⟨g, 0, none⟩)] w fun e w' => e = .returned (.bool L.bad) ∧ w' = w := by
  obtain ⟨ha, hc, wa, wc, h⟩ := h
  have p0 := cell_blk h.box
  simp only [lgC] at p0
  clear h
  go_enter Tryz.func25, Tryz.ntmps25
  go_wp2_with fail
  go_ret
  exact ⟨rfl, rfl⟩
end Go.Proofs.YtlmpkonfclnceaaGreat

namespace Go.Proofs.YtlmpkonfclnceaaGreat
open Go.RowKit Go.Sort

/-- The cells of a World. -/
def wdV (d g : Nat) (a : Option Addr) (c : Nat) (D : Dsk) (L : Lg) (ha : Option Addr) (hc : Nat) (wa : Option Addr) (wc : Nat) : Array Value :=
  #[.pointer (some ⟨d, 0, none⟩), .pointer (some ⟨g, 0, none⟩), .slice a D.s.length c, .bool D.off, .int .i64 D.calls, .int .i64 D.after, .bool D.done, .int .i64 (L.first : Nat), .int .i64 (L.count : Nat), .int .i64 (L.epoch : Nat), .int .i64 (L.at_ : Nat), .slice ha L.has.length hc, .slice wa L.wait.length wc, .bool L.closed, .bool L.bad]
/-- Both logs and their disk. -/
structure W10 (w : World) (x d bs cap m g : Nat) (D : Dsk) (L : Lg) (a : Option Addr) (c : Nat) (ha : Option Addr) (hc : Nat) (wa : Option Addr) (wc : Nat) : Prop where
  box : Blk w x (wdV d g a c D L ha hc wa wc) 52
  disk : DiskIn w d bs cap m D
  log : LogP w g d bs m L (fun j => j ≠ x)
  ref : RLog w (fun j => j ≠ g ∧ ¬ dod d bs m j ∧ j ≠ x) a D L ha hc wa wc
  lok : LOK L D.s.length
  xd : ¬ dod d bs m x
  xg : g ≠ x
/-- The blocks that a World turns. -/
abbrev wdo (x d bs m g : Nat) (j : Nat) : Prop := j = x ∨ j = g ∨ dod d bs m j
theorem W10.same {w w' : World} {x d bs cap m g : Nat} {D : Dsk} {L : Lg} {a : Option Addr} {c : Nat} {ha : Option Addr} {hc : Nat} {wa : Option Addr} {wc : Nat} (h : W10 w x d bs cap m g D L a c ha hc wa wc) (k : Same w w') : W10 w' x d bs cap m g D L a c ha hc wa wc :=
  ⟨h.box.kept k (fun h => h), h.disk.same k, h.log.same k, h.ref.same k, h.lok, h.xd, h.xg⟩
theorem RLog.mono {w : World} {P Q : Nat → Prop} {a : Option Addr} {D : Dsk} {L : Lg} {ha : Option Addr} {hc : Nat} {wa : Option Addr} {wc : Nat} (h : RLog w P a D L ha hc wa wc) (hq : ∀ j, P j → Q j) : RLog w Q a D L ha hc wa wc :=
  ⟨h.s, h.has, h.hnil, h.wt, h.wnil, fun y hy => hq _ (h.pa y hy), fun y hy => hq _ (h.ph y hy), fun y hy => hq _ (h.pw y hy), h.lh, h.lw⟩
def BegunPost (w : World) (D : Dsk) (L : Lg) (r : Ending) (w' : World) : Prop :=
  (∃ x d bs cap m g a c ha hc wa wc, r = .returned (.tuple #[.pointer (some ⟨x, 0, none⟩), .bool true]) ∧ W10 w' x d bs cap m g D L a c ha hc wa wc ∧ w.heap.size ≤ x ∧ w.heap.size ≤ d ∧ w.heap.size ≤ bs ∧ w.heap.size ≤ m ∧ w.heap.size ≤ g) ∧ Same w w'
set_option maxRecDepth 100000 in
set_option maxHeartbeats 1600000 in
theorem wd_begun (n f q : Int) (hE : newE (newD n) f q 1 = 0) (hne : (newD n).s ≠ []) (w : World) :
    Calls Tryz.prog 7 #[.int .i64 n, .int .i64 f, .int .i64 q] w (BegunPost w (newD n) (newL f q 1)) := by
  have LK := Lib.hid (newL_ok hE)
  have NW := Lib.hid fun w d bs cap m (h : DiskIn w d bs cap m (newD n)) => wl_newP h f q 1
  have NR := Lib.hid fun w (a : Option Addr) (c : Nat) (P : Nat → Prop) (h : SecsAt w a (newD n).s) hp => rx_new (P := P) a c (newD n) h hp (newD_ok n).few f q 1
  have SN := Lib.hid (sd_new n)
  have RN := Lib.hid (rs_new n)
  simp only [hE] at NW NR
  have NE := Lib.hid hne
  clear hne
  obtain ⟨L, hL⟩ : ∃ L, newL f q 1 = L := ⟨_, rfl⟩
  obtain ⟨D, hD⟩ : ∃ D, newD n = D := ⟨_, rfl⟩
  rw [hL] at LK NW NR ⊢
  rw [hD] at LK NW NR SN RN NE ⊢
  clear hL hD hE
  go_enter Tryz.func7, Tryz.ntmps7
  go_wp2_with fail
  with_reducible refine (SN.out _).mono ?_
  rintro r w1 ⟨d, bs, cap, m, rfl, hd, hz1, hz2, hz3, k1⟩
  have HD := Lib.hid hd
  have K1 := Lib.hid k1
  have NW1 := Lib.hid (NW.out _ d bs cap m hd)
  clear hd k1 NW
  go_wp2_with fail
  with_reducible refine NW1.out.mono ?_
  rintro r w2 ⟨hp, k2⟩
  rw [if_pos rfl] at hp
  obtain ⟨g, rfl, hl, hg⟩ := hp
  have HL := Lib.hid hl
  have K2 := Lib.hid k2
  clear hl k2 NW1
  go_wp2_with fail
  with_reducible refine (RN.out _).mono ?_
  rintro r w3 ⟨a, c, rfl, ⟨hs3, hf3⟩, k3⟩
  have HS := Lib.hid hs3
  have HF := Lib.hid hf3
  have K3 := Lib.hid k3
  have lt3 : ∀ y, a = some y → y.block < w3.heap.size := (secsAt_lt hs3).resolve_left NE.out
  have NR1 := Lib.hid (NR.out w3 a c (fun j => w2.heap.size ≤ j ∧ j < w3.heap.size) hs3 (fun y hy => ⟨hf3 y hy, lt3 y hy⟩))
  clear hs3 hf3 k3 lt3 NR RN SN
  simp only [refV] at NR1 ⊢
  go_wp2_with fail
  with_reducible refine NR1.out.mono ?_
  rintro r w4 ⟨hp, k4⟩
  rw [if_pos rfl] at hp
  obtain ⟨ha, hc, wa, wc, rfl, hrl⟩ := hp
  have K4 := Lib.hid (K3.out.trans k4)
  have HZ34 := Lib.hid k4.size
  have HR := Lib.hid hrl
  simp only [lgV]
  clear hrl k4 NR1 K3
  have hgl := HL.out.i.blk
  have hd1 := HD.out.box.lt; have hd2 := HD.out.safe.lt; have hd3 := HD.out.map.lt
  have hs4 := K4.out.size
  have hs2 := K2.out.size
  have hs1 := K1.out.size
  go_wp2_with fail
  go_ret2
  have hz34 := HZ34.out
  refine ⟨⟨w4.heap.size + 1, d, bs, cap, m, g, a, c, ha, hc, wa, wc, rfl, ⟨Blk.new' _ _ _ (by simp), ?_, ?_, ?_, LK.out, ?_, by omega⟩, by omega, by omega, by omega, by omega, by omega⟩, ?_⟩
  · exact ((HD.out.same (K2.out.trans K4.out)).same ((Kept.refl _ _).alloc _)).same ((Kept.refl _ _).alloc _)
  · refine ((HL.out.mono (Q := fun j => j ≠ w4.heap.size + 1) (fun j hj _ => by omega)).same K4.out).same (((Kept.refl _ _).alloc _).alloc _)
  · refine (HR.out.same (((Kept.refl _ _).alloc _).alloc _)).mono (fun j hj => ⟨by omega, ?_, by omega⟩)
    rintro (q | q | q) <;> omega
  · rintro (q | q | q) <;> omega
  · exact ((K1.out.trans (K2.out.trans K4.out)).alloc _).alloc _
end Go.Proofs.YtlmpkonfclnceaaGreat

namespace Go.Proofs.YtlmpkonfclnceaaGreat
open Go.RowKit Go.Sort

theorem Blk.set13w {w : World} {b : Nat} {p q v0 v1 v2 v3 v4 v5 v6 v7 v8 v9 v10 v11 v12 u0 u1 u2 u3 u4 u5 u6 u7 u8 u9 u10 u11 u12 : Value} {t : TypeId} (h : Blk w b #[p, q, v0, v1, v2, v3, v4, v5, v6, v7, v8, v9, v10, v11, v12] t) :
    Blk (((((((((((((w.setCell ⟨b, 2, none⟩ u0).setCell ⟨b, 3, none⟩ u1).setCell ⟨b, 4, none⟩ u2).setCell ⟨b, 5, none⟩ u3).setCell ⟨b, 6, none⟩ u4).setCell ⟨b, 7, none⟩ u5).setCell ⟨b, 8, none⟩ u6).setCell ⟨b, 9, none⟩ u7).setCell ⟨b, 10, none⟩ u8).setCell ⟨b, 11, none⟩ u9).setCell ⟨b, 12, none⟩ u10).setCell ⟨b, 13, none⟩ u11).setCell ⟨b, 14, none⟩ u12) b #[p, q, u0, u1, u2, u3, u4, u5, u6, u7, u8, u9, u10, u11, u12] t := by
  have h0 : Blk _ b #[p, q, u0, v1, v2, v3, v4, v5, v6, v7, v8, v9, v10, v11, v12] t := h.set 2 u0
  have h1 : Blk _ b #[p, q, u0, u1, v2, v3, v4, v5, v6, v7, v8, v9, v10, v11, v12] t := h0.set 3 u1
  have h2 : Blk _ b #[p, q, u0, u1, u2, v3, v4, v5, v6, v7, v8, v9, v10, v11, v12] t := h1.set 4 u2
  have h3 : Blk _ b #[p, q, u0, u1, u2, u3, v4, v5, v6, v7, v8, v9, v10, v11, v12] t := h2.set 5 u3
  have h4 : Blk _ b #[p, q, u0, u1, u2, u3, u4, v5, v6, v7, v8, v9, v10, v11, v12] t := h3.set 6 u4
  have h5 : Blk _ b #[p, q, u0, u1, u2, u3, u4, u5, v6, v7, v8, v9, v10, v11, v12] t := h4.set 7 u5
  have h6 : Blk _ b #[p, q, u0, u1, u2, u3, u4, u5, u6, v7, v8, v9, v10, v11, v12] t := h5.set 8 u6
  have h7 : Blk _ b #[p, q, u0, u1, u2, u3, u4, u5, u6, u7, v8, v9, v10, v11, v12] t := h6.set 9 u7
  have h8 : Blk _ b #[p, q, u0, u1, u2, u3, u4, u5, u6, u7, u8, v9, v10, v11, v12] t := h7.set 10 u8
  have h9 : Blk _ b #[p, q, u0, u1, u2, u3, u4, u5, u6, u7, u8, u9, v10, v11, v12] t := h8.set 11 u9
  have h10 : Blk _ b #[p, q, u0, u1, u2, u3, u4, u5, u6, u7, u8, u9, u10, v11, v12] t := h9.set 12 u10
  have h11 : Blk _ b #[p, q, u0, u1, u2, u3, u4, u5, u6, u7, u8, u9, u10, u11, v12] t := h10.set 13 u11
  have h12 : Blk _ b #[p, q, u0, u1, u2, u3, u4, u5, u6, u7, u8, u9, u10, u11, u12] t := h11.set 14 u12
  exact h12
theorem syncL_len (L : Lg) (D : Dsk) : (syncL L D).2.1.s.length = D.s.length := by
  have h1 : ∀ F cs, (wrSync D F cs).1.s.length = D.s.length := by
    intro F cs
    unfold wrSync
    split
    · rw [syncD_len, wrW_len]
    · rw [wrW_len]
  unfold syncL
  split
  · rfl
  · split
    · rfl
    · split
      · exact h1 _ _
      · exact h1 _ _
/-- What do leaves. -/
def DoW (w : World) (x d bs cap m g D0 : Nat) (r : Ending) (w' : World) : Prop :=
  ∃ g' D' L' a c ha hc wa wc, r = .returned (.bool true) ∧ D'.s.length = D0 ∧ W10 w' x d bs cap m g' D' L' a c ha hc wa wc ∧ (g' = g ∨ w.heap.size ≤ g') ∧ Kept (wdo x d bs m g) w w'
theorem W10.put {w6 wf : World} {x d bs cap m g : Nat} {D : Dsk} {L : Lg} {a : Option Addr} {c : Nat} {ha : Option Addr} {hc : Nat} {wa : Option Addr} {wc : Nat} (hb : Blk wf x (wdV d g a c D L ha hc wa wc) 52) (k : Kept (fun j => j = x) w6 wf) (hd : DiskIn w6 d bs cap m D) (hl : LogP w6 g d bs m L (fun j => j ≠ x)) (hr : RLog w6 (fun j => j ≠ g ∧ ¬ dod d bs m j ∧ j ≠ x) a D L ha hc wa wc) (lok : LOK L D.s.length) (xd : ¬ dod d bs m x) (xg : g ≠ x) : W10 wf x d bs cap m g D L a c ha hc wa wc :=
  ⟨hb, hd.kept k (fun q => xd (.inl q.symm)) (fun q => xd (.inr (.inl q.symm))) (fun q => xd (.inr (.inr q.symm))), hl.kept k xg (fun _ q => q), hr.kept k (fun _ q => q.2.2), lok, xd, xg⟩
/-- The cells of an act. -/
def actV (A : A10) : Value := .agg #[.int .u8 (A.k : Nat), .string (strN A.s), .int .i64 A.n, .int .u8 (A.k2 : Nat), .int .i64 A.n2, .int .u8 (A.c : Nat), .int .u8 (A.u : Nat), .bool A.dn, .slice A.fa A.fl A.fc]
section
attribute [local go_sem ↓] exec_app semAt_app
attribute [local go_sem] isApp_lit appA appX
set_option maxRecDepth 100000 in
set_option maxHeartbeats 4000000 in
theorem wd_sync {w : World} {x d bs cap m g : Nat} {D : Dsk} {L : Lg} {a : Option Addr} {c : Nat} {ha : Option Addr} {hc : Nat} {wa : Option Addr} {wc : Nat} (h : W10 w x d bs cap m g D L a c ha hc wa wc) (A : A10) (hk : A.k % 8 = 3 ∨ A.k % 8 = 4) :
    Calls Tryz.prog 9 #[.pointer (some ⟨x, 0, none⟩), actV A] w (DoW w x d bs cap m g D.s.length) := by
  have OWN := Lib.hid fun (y : Nat) (hy : w.heap.size ≤ y) => (show ¬ (y = g ∨ dod d bs m y) by have := h.log.i.blk; have := h.disk.box.lt; have := h.disk.safe.lt; have := h.disk.map.lt; rintro (q | q | q | q) <;> omega)
  have HP1 := Lib.hid fun (w' : World) (k : w.heap.size ≤ w'.heap.size) (j : Nat) (hj : w'.heap.size ≤ j) => (show j ≠ x by have := h.box.lt; omega)
  have HP2 := Lib.hid fun (w' : World) (k : w.heap.size ≤ w'.heap.size) (j : Nat) (hj : w'.heap.size ≤ j) => (show j ≠ g ∧ ¬ dod d bs m j ∧ j ≠ x by have := h.box.lt; have := h.log.i.blk; have := h.disk.box.lt; have := h.disk.safe.lt; have := h.disk.map.lt; refine ⟨by omega, ?_, by omega⟩; rintro (q | q | q) <;> omega)
  obtain ⟨k, s, n, kq, nq, cc, u, dn, fa, fl, fc, fs⟩ := A
  unfold actV
  dsimp only at hk ⊢
  have BX := Lib.hid h.box
  have DI := Lib.hid h.disk
  have LG := Lib.hid h.log
  have RL := Lib.hid h.ref
  have OK := Lib.hid h.lok
  have XD := Lib.hid h.xd
  have XG := Lib.hid h.xg
  have hxl := h.box.lt
  clear h
  go_enter Tryz.func9, Tryz.ntmps9
  go_upto_region 1 with fail
  refine cutWl (fun wn => Fr wn [(w.heap.size, #[.int .u8 (k : Nat), .string (strN s), .int .i64 n, .int .u8 (kq : Nat), .int .i64 nq, .int .u8 (cc : Nat), .int .u8 (u : Nat), .bool dn, .slice fa fl fc], 33), (x, #[.pointer (some ⟨d, 0, none⟩), .pointer (some ⟨g, 0, none⟩), .slice a D.s.length c, .bool D.off, .int .i64 D.calls, .int .i64 D.after, .bool D.done, .int .i64 (L.first : Nat), .int .i64 (L.count : Nat), .int .i64 (L.epoch : Nat), .int .i64 (L.at_ : Nat), .slice ha L.has.length hc, .slice wa L.wait.length wc, .bool L.closed, .bool L.bad], 52)] ∧ Same w wn) ⟨⟨Blk.new _ _ _, BX.out.alloc _, trivial⟩, (Kept.refl _ _).alloc _⟩ ?_
  rintro W ⟨hfr, hkw⟩
  obtain ⟨p0, f0, p1, f1, -⟩ := hfr.rules
  have z0 := hfr.1.lt
  have z1 := hfr.2.1.lt
  have F := Lib.hid hfr
  have K := Lib.hid hkw
  have DI1 := Lib.hid (DI.out.same hkw)
  have LG1 := Lib.hid (LG.out.same hkw)
  have RL1 := Lib.hid (RL.out.same hkw)
  have hsW := hkw.size
  clear hfr hkw DI LG RL BX
  have SY := Lib.hid (wl_syncP (HP1.out W hsW) DI1.out LG1.out OK.out)
  obtain ⟨R, hR⟩ : ∃ R, syncL L D = R := ⟨_, rfl⟩
  have HR := Lib.hid hR
  rw [hR] at SY
  have SLN := Lib.hid (syncL_len L D)
  have SLK := Lib.hid (show LOK (syncL L D).1 (syncL L D).2.1.s.length by rw [syncL_len]; exact syncL_ok OK.out D)
  rw [hR] at SLK SLN
  clear hR
  obtain ⟨kk, hkk⟩ : ∃ kk, k % 8 = kk := ⟨_, rfl⟩
  have e8 : (k : Int) % 8 = (kk : Int) := by omega
  rw [hkk] at hk
  clear hkk
  rcases hk with rfl | rfl
  · go_wp2_with fail
    with_reducible refine SY.out.mono ?_
    rintro e w2 ⟨rfl, hd2, hl2, k2⟩
    have HD2 := Lib.hid hd2
    have HL2 := Lib.hid hl2
    have hsz2 := k2.size
    have F2 := Lib.hid (show Fr w2 [(w.heap.size, #[.int .u8 (k : Nat), .string (strN s), .int .i64 n, .int .u8 (kq : Nat), .int .i64 nq, .int .u8 (cc : Nat), .int .u8 (u : Nat), .bool dn, .slice fa fl fc], 33), (x, #[.pointer (some ⟨d, 0, none⟩), .pointer (some ⟨g, 0, none⟩), .slice a D.s.length c, .bool D.off, .int .i64 D.calls, .int .i64 D.after, .bool D.done, .int .i64 (L.first : Nat), .int .i64 (L.count : Nat), .int .i64 (L.epoch : Nat), .int .i64 (L.at_ : Nat), .slice ha L.has.length hc, .slice wa L.wait.length wc, .bool L.closed, .bool L.bad], 52)] from ⟨F.out.1.kept k2 (OWN.out w.heap.size (Nat.le_refl _)), F.out.2.1.kept k2 (fun q => by rcases q with q | q; exact XG.out q.symm; exact XD.out q), trivial⟩)
    have RL2 := Lib.hid (RL1.out.kept k2 (fun j hj q => by rcases q with q | q; exact hj.1 q; exact hj.2.1 q))
    have K2 := Lib.hid (show Kept (wdo x d bs m g) w w2 from (K.out.mono (fun _ _ q => q.elim)).trans (k2.mono (fun j _ q => .inr q)))
    have RS := Lib.hid (rx_sync (c := c) (P := fun j => j ≠ g ∧ ¬ dod d bs m j ∧ j ≠ x) (HP2.out w2 (Nat.le_trans hsW hsz2)) RL2.out DI1.out.ok OK.out)
    rw [HR.out] at RS
    clear hd2 hl2 k2 p0 f0 p1 f1 z0 z1 SY F K
    obtain ⟨p0, f0, p1, f1, -⟩ := F2.out.rules
    have z0 := F2.out.1.lt
    have z1 := F2.out.2.1.lt
    simp only [lgV] at RS
    go_wp2_with fail
    with_reducible refine RS.out.mono ?_
    rintro r w3 ⟨⟨a3, c3, ha3, hc3, wa3, wc3, rfl, hr3⟩, k3⟩
    have F3 := Lib.hid (F2.out.same k3)
    have HR3 := Lib.hid hr3
    have HD3 := Lib.hid (HD2.out.same k3)
    have HL3 := Lib.hid (HL2.out.same k3)
    have K3 := Lib.hid (show Kept (wdo x d bs m g) w w3 from K2.out.trans (k3.mono (fun _ _ q => q.elim)))
    clear hr3 k3 p0 f0 p1 f1 z0 z1 RS F2 HD2 HL2 K2
    obtain ⟨p0, f0, p1, f1, -⟩ := F3.out.rules
    have z0 := F3.out.1.lt
    have z1 := F3.out.2.1.lt
    simp only [lgV]
    go_wp2_with fail
    go_ret
    refine ⟨g, R.2.1, R.1, a3, c3, ha3, hc3, wa3, wc3, rfl, SLN.out, W10.put (w6 := w3) (Blk.set13w (w := w3) F3.out.2.1) ?_ HD3.out HL3.out HR3.out SLK.out XD.out XG.out, .inl rfl, ?_⟩
    · (repeat (first | with_reducible exact Kept.refl _ _ | with_reducible refine Kept.setG ?_ _ _))
    · (repeat (first | with_reducible exact K3.out | with_reducible refine Kept.setCell ?_ (fun _ => Or.inl rfl) _))
  · go_wp2_with fail
    with_reducible refine SY.out.mono ?_
    rintro e w2 ⟨rfl, hd2, hl2, k2⟩
    have HD2 := Lib.hid hd2
    have HL2 := Lib.hid hl2
    have hsz2 := k2.size
    have F2 := Lib.hid (show Fr w2 [(w.heap.size, #[.int .u8 (k : Nat), .string (strN s), .int .i64 n, .int .u8 (kq : Nat), .int .i64 nq, .int .u8 (cc : Nat), .int .u8 (u : Nat), .bool dn, .slice fa fl fc], 33), (x, #[.pointer (some ⟨d, 0, none⟩), .pointer (some ⟨g, 0, none⟩), .slice a D.s.length c, .bool D.off, .int .i64 D.calls, .int .i64 D.after, .bool D.done, .int .i64 (L.first : Nat), .int .i64 (L.count : Nat), .int .i64 (L.epoch : Nat), .int .i64 (L.at_ : Nat), .slice ha L.has.length hc, .slice wa L.wait.length wc, .bool L.closed, .bool L.bad], 52)] from ⟨F.out.1.kept k2 (OWN.out w.heap.size (Nat.le_refl _)), F.out.2.1.kept k2 (fun q => by rcases q with q | q; exact XG.out q.symm; exact XD.out q), trivial⟩)
    have RL2 := Lib.hid (RL1.out.kept k2 (fun j hj q => by rcases q with q | q; exact hj.1 q; exact hj.2.1 q))
    have K2 := Lib.hid (show Kept (wdo x d bs m g) w w2 from (K.out.mono (fun _ _ q => q.elim)).trans (k2.mono (fun j _ q => .inr q)))
    have RS := Lib.hid (rx_sync (c := c) (P := fun j => j ≠ g ∧ ¬ dod d bs m j ∧ j ≠ x) (HP2.out w2 (Nat.le_trans hsW hsz2)) RL2.out DI1.out.ok OK.out)
    rw [HR.out] at RS
    clear hd2 hl2 k2 p0 f0 p1 f1 z0 z1 SY F K
    obtain ⟨p0, f0, p1, f1, -⟩ := F2.out.rules
    have z0 := F2.out.1.lt
    have z1 := F2.out.2.1.lt
    simp only [lgV] at RS
    go_wp2_with fail
    with_reducible refine RS.out.mono ?_
    rintro r w3 ⟨⟨a3, c3, ha3, hc3, wa3, wc3, rfl, hr3⟩, k3⟩
    have F3 := Lib.hid (F2.out.same k3)
    have HR3 := Lib.hid hr3
    have HD3 := Lib.hid (HD2.out.same k3)
    have HL3 := Lib.hid (HL2.out.same k3)
    have K3 := Lib.hid (show Kept (wdo x d bs m g) w w3 from K2.out.trans (k3.mono (fun _ _ q => q.elim)))
    clear hr3 k3 p0 f0 p1 f1 z0 z1 RS F2 HD2 HL2 K2
    obtain ⟨p0, f0, p1, f1, -⟩ := F3.out.rules
    have z0 := F3.out.1.lt
    have z1 := F3.out.2.1.lt
    simp only [lgV]
    go_wp2_with fail
    go_ret
    refine ⟨g, R.2.1, R.1, a3, c3, ha3, hc3, wa3, wc3, rfl, SLN.out, W10.put (w6 := w3) (Blk.set13w (w := w3) F3.out.2.1) ?_ HD3.out HL3.out HR3.out SLK.out XD.out XG.out, .inl rfl, ?_⟩
    · (repeat (first | with_reducible exact Kept.refl _ _ | with_reducible refine Kept.setG ?_ _ _))
    · (repeat (first | with_reducible exact K3.out | with_reducible refine Kept.setCell ?_ (fun _ => Or.inl rfl) _))
set_option maxRecDepth 100000 in
set_option maxHeartbeats 4000000 in
theorem wd_restart {w : World} {x d bs cap m g : Nat} {D : Dsk} {L : Lg} {a : Option Addr} {c : Nat} {ha : Option Addr} {hc : Nat} {wa : Option Addr} {wc : Nat} (h : W10 w x d bs cap m g D L a c ha hc wa wc) (A : A10) (hk : A.k % 8 = 5) :
    Calls Tryz.prog 9 #[.pointer (some ⟨x, 0, none⟩), actV A] w (DoW w x d bs cap m g D.s.length) := by
  have OWN := Lib.hid fun (y : Nat) (hy : w.heap.size ≤ y) => (show ¬ y = g by have := h.log.i.blk; omega)
  have DG := Lib.hid (show ¬ d = g ∧ ¬ bs = g ∧ ¬ m = g by obtain ⟨_, _, _, _, q⟩ := h.log.i; have q := q.og; exact ⟨fun z => q (.inl z.symm), fun z => q (.inr (.inl z.symm)), fun z => q (.inr (.inr z.symm))⟩)
  have HP1 := Lib.hid fun (w' : World) (k : w.heap.size ≤ w'.heap.size) (j : Nat) (hj : w'.heap.size ≤ j) => (show j ≠ x by have := h.box.lt; omega)
  have HP2 := Lib.hid fun (w' : World) (k : w.heap.size ≤ w'.heap.size) (j : Nat) (hj : w'.heap.size ≤ j) => (show j ≠ g ∧ ¬ dod d bs m j ∧ j ≠ x by have := h.box.lt; have := h.log.i.blk; have := h.disk.box.lt; have := h.disk.safe.lt; have := h.disk.map.lt; refine ⟨by omega, ?_, by omega⟩; rintro (q | q | q) <;> omega)
  obtain ⟨k, s, n, kq, nq, cc, u, dn, fa, fl, fc, fs⟩ := A
  unfold actV
  dsimp only at hk ⊢
  have BX := Lib.hid h.box
  have DI := Lib.hid h.disk
  have LG := Lib.hid h.log
  have RL := Lib.hid h.ref
  have OK := Lib.hid h.lok
  have XD := Lib.hid h.xd
  have XG := Lib.hid h.xg
  have hxl := h.box.lt
  clear h
  go_enter Tryz.func9, Tryz.ntmps9
  go_upto_region 1 with fail
  refine cutWl (fun wn => Fr wn [(w.heap.size, #[.int .u8 (k : Nat), .string (strN s), .int .i64 n, .int .u8 (kq : Nat), .int .i64 nq, .int .u8 (cc : Nat), .int .u8 (u : Nat), .bool dn, .slice fa fl fc], 33), (x, #[.pointer (some ⟨d, 0, none⟩), .pointer (some ⟨g, 0, none⟩), .slice a D.s.length c, .bool D.off, .int .i64 D.calls, .int .i64 D.after, .bool D.done, .int .i64 (L.first : Nat), .int .i64 (L.count : Nat), .int .i64 (L.epoch : Nat), .int .i64 (L.at_ : Nat), .slice ha L.has.length hc, .slice wa L.wait.length wc, .bool L.closed, .bool L.bad], 52)] ∧ Same w wn) ⟨⟨Blk.new _ _ _, BX.out.alloc _, trivial⟩, (Kept.refl _ _).alloc _⟩ ?_
  rintro W ⟨hfr, hkw⟩
  obtain ⟨p0, f0, p1, f1, -⟩ := hfr.rules
  have z0 := hfr.1.lt
  have z1 := hfr.2.1.lt
  have F := Lib.hid hfr
  have K := Lib.hid hkw
  have DI1 := Lib.hid (DI.out.same hkw)
  have LG1 := Lib.hid (LG.out.same hkw)
  have RL1 := Lib.hid (RL.out.same hkw)
  have hsW := hkw.size
  clear hfr hkw DI LG RL BX
  have e8 : (k : Int) % 8 = 5 := by omega
  have SY := Lib.hid fun (w' : World) (kk : Same W w') => wl_restartP (LG1.out.same kk) n
  have OKR := Lib.hid (restartL_ok OK.out n)
  obtain ⟨L9, hL9⟩ : ∃ L9, restartL L n = L9 := ⟨_, rfl⟩
  obtain ⟨E9, hE9⟩ : ∃ E9, restartE L n = E9 := ⟨_, rfl⟩
  have HR1 := Lib.hid hL9
  have HR2 := Lib.hid hE9
  simp only [hL9, hE9] at SY OKR
  clear hL9 hE9 hk
  have QQ := Lib.hid fun (w' : World) (kk : Same W w') => (show (fun w' => (∀ i, w'.cell? ⟨w.heap.size, i, none⟩ = (#[.int .u8 (k : Nat), .string (strN s), .int .i64 n, .int .u8 (kq : Nat), .int .i64 nq, .int .u8 (cc : Nat), .int .u8 (u : Nat), .bool dn, .slice fa fl fc] : Array Value)[i]?) ∧ (∀ i, w'.cell? ⟨x, i, none⟩ = (#[.pointer (some ⟨d, 0, none⟩), .pointer (some ⟨g, 0, none⟩), .slice a D.s.length c, .bool D.off, .int .i64 D.calls, .int .i64 D.after, .bool D.done, .int .i64 (L.first : Nat), .int .i64 (L.count : Nat), .int .i64 (L.epoch : Nat), .int .i64 (L.at_ : Nat), .slice ha L.has.length hc, .slice wa L.wait.length wc, .bool L.closed, .bool L.bad] : Array Value)[i]?)) w' from ⟨cell_blk (F.out.1.kept kk (fun h => h)), cell_blk (F.out.2.1.kept kk (fun h => h))⟩)
  go_wp2_with fail
  refine wp_region_T (S := (fun w' => (∀ i, w'.cell? ⟨w.heap.size, i, none⟩ = (#[.int .u8 (k : Nat), .string (strN s), .int .i64 n, .int .u8 (kq : Nat), .int .i64 nq, .int .u8 (cc : Nat), .int .u8 (u : Nat), .bool dn, .slice fa fl fc] : Array Value)[i]?) ∧ (∀ i, w'.cell? ⟨x, i, none⟩ = (#[.pointer (some ⟨d, 0, none⟩), .pointer (some ⟨g, 0, none⟩), .slice a D.s.length c, .bool D.off, .int .i64 D.calls, .int .i64 D.after, .bool D.done, .int .i64 (L.first : Nat), .int .i64 (L.count : Nat), .int .i64 (L.epoch : Nat), .int .i64 (L.at_ : Nat), .slice ha L.has.length hc, .slice wa L.wait.length wc, .bool L.closed, .bool L.bad] : Array Value)[i]?))) 6 (by kernel_rfl) (QQ.out _ (Kept.refl _ _).drew) (fun hHeld hDn => ?_)
  refine wpT_take (i := 0) (t := 58) (v := ?_) rfl rfl rfl (by kernel_rfl) (by kernel_rfl) (by kernel_rfl) (by kernel_rfl) (fun _ _ _ h => h) (Or.inl ⟨by rfl, ?_⟩) hHeld hDn (fun hDn' => ?_)
  rotate_left
  · (intro w hSw; (try dsimp only at hSw); go_simp; (try with_reducible rfl))
  clear hDn; have hDn := hDn'; clear hDn'
  simp only [Act.put, List.setIfInBounds_toArray, List.set_cons_zero, List.set_cons_succ]
  refine wpT_take (i := 1) (t := 59) (v := ?_) rfl rfl rfl (by kernel_rfl) (by kernel_rfl) (by kernel_rfl) (by kernel_rfl) (fun _ _ _ h => h) (Or.inl ⟨by rfl, ?_⟩) hHeld hDn (fun hDn' => ?_)
  rotate_left
  · (intro w hSw; (try dsimp only at hSw); go_simp; (try with_reducible rfl))
  clear hDn; have hDn := hDn'; clear hDn'
  simp only [Act.put, List.setIfInBounds_toArray, List.set_cons_zero, List.set_cons_succ]
  refine wpT_take (i := 2) (t := 60) (v := ?_) rfl rfl rfl (by kernel_rfl) (by kernel_rfl) (by kernel_rfl) (by kernel_rfl) (fun _ _ _ h => h) (Or.inl ⟨by rfl, ?_⟩) hHeld hDn (fun hDn' => ?_)
  rotate_left
  · (intro w hSw; (try dsimp only at hSw); go_simp; (try with_reducible rfl))
  clear hDn; have hDn := hDn'; clear hDn'
  simp only [Act.put, List.setIfInBounds_toArray, List.set_cons_zero, List.set_cons_succ]
  refine wpT_take (i := 3) (t := 61) (v := ?_) rfl rfl rfl (by kernel_rfl) (by kernel_rfl) (by kernel_rfl) (by kernel_rfl) (fun _ _ _ h => h) (Or.inl ⟨by rfl, ?_⟩) hHeld hDn (fun hDn' => ?_)
  rotate_left
  · (intro w hSw; (try dsimp only at hSw); go_simp; (try with_reducible rfl))
  clear hDn; have hDn := hDn'; clear hDn'
  simp only [Act.put, List.setIfInBounds_toArray, List.set_cons_zero, List.set_cons_succ]
  refine wpT_take (i := 4) (t := 62) (v := ?_) rfl rfl rfl (by kernel_rfl) (by kernel_rfl) (by kernel_rfl) (by kernel_rfl) (fun _ _ _ h => h) (Or.inl ⟨by rfl, ?_⟩) hHeld hDn (fun hDn' => ?_)
  rotate_left
  · (intro w hSw; (try dsimp only at hSw); go_simp; (try with_reducible rfl))
  clear hDn; have hDn := hDn'; clear hDn'
  simp only [Act.put, List.setIfInBounds_toArray, List.set_cons_zero, List.set_cons_succ]
  refine wpT_take (i := 5) (t := 63) (v := ?_) rfl rfl rfl (by kernel_rfl) (by kernel_rfl) (by kernel_rfl) (by kernel_rfl) (fun _ _ _ h => h) (Or.inl ⟨by rfl, ?_⟩) hHeld hDn (fun hDn' => ?_)
  rotate_left
  · (intro w hSw; (try dsimp only at hSw); go_simp; (try with_reducible rfl))
  clear hDn; have hDn := hDn'; clear hDn'
  simp only [Act.put, List.setIfInBounds_toArray, List.set_cons_zero, List.set_cons_succ]
  refine wpT_last rfl (by kernel_rfl) hDn (fun K' hK => ?_)
  go_simp
  with_reducible refine (SY.out _ (Kept.refl _ _).drew).mono ?_
  rintro e w2 ⟨rfl, hl2, k2⟩
  have k2 : Kept (fun j => j = g) W w2 := Kept.trans (Kept.refl _ W).drew k2
  refine hK.out _ _ (fun hDn' => ?_)
  clear hK K' hDn hHeld
  have hDn := hDn'
  clear hDn'
  refine wpT_takeE (i := 7) (t := 5) (v := ?_) rfl (by kernel_rfl) rfl rfl (by kernel_rfl) (by kernel_rfl) (by kernel_rfl) (fun _ _ _ h => h) (Or.inl ⟨by rfl, ?_⟩) hDn (fun hDn' => ?_)
  rotate_left
  · (intro w _; go_simp; (try with_reducible rfl))
  clear hDn; have hDn := hDn'; clear hDn'
  simp only [Act.put, List.setIfInBounds_toArray, List.set_cons_zero, List.set_cons_succ]
  refine wpT_done (by kernel_rfl) ?_ _
  have HL2 := Lib.hid hl2
  have hsz2 := k2.size
  have F2 := Lib.hid (show Fr w2 [(w.heap.size, #[.int .u8 (k : Nat), .string (strN s), .int .i64 n, .int .u8 (kq : Nat), .int .i64 nq, .int .u8 (cc : Nat), .int .u8 (u : Nat), .bool dn, .slice fa fl fc], 33), (x, #[.pointer (some ⟨d, 0, none⟩), .pointer (some ⟨g, 0, none⟩), .slice a D.s.length c, .bool D.off, .int .i64 D.calls, .int .i64 D.after, .bool D.done, .int .i64 (L.first : Nat), .int .i64 (L.count : Nat), .int .i64 (L.epoch : Nat), .int .i64 (L.at_ : Nat), .slice ha L.has.length hc, .slice wa L.wait.length wc, .bool L.closed, .bool L.bad], 52)] from ⟨F.out.1.kept k2 (OWN.out w.heap.size (Nat.le_refl _)), F.out.2.1.kept k2 (fun q => XG.out q.symm), trivial⟩)
  have RL2 := Lib.hid (RL1.out.kept k2 (fun j hj q => hj.1 q))
  have HD2 := Lib.hid (DI1.out.kept k2 DG.out.1 DG.out.2.1 DG.out.2.2)
  have K2 := Lib.hid (show Kept (wdo x d bs m g) w w2 from (K.out.mono (fun _ _ q => q.elim)).trans (k2.mono (fun j _ q => .inr (.inl q))))
  have QQ2 := Lib.hid fun (w' : World) (kk : Same w2 w') => (show (fun w' => (∀ i, w'.cell? ⟨w.heap.size, i, none⟩ = (#[.int .u8 (k : Nat), .string (strN s), .int .i64 n, .int .u8 (kq : Nat), .int .i64 nq, .int .u8 (cc : Nat), .int .u8 (u : Nat), .bool dn, .slice fa fl fc] : Array Value)[i]?) ∧ (∀ i, w'.cell? ⟨x, i, none⟩ = (#[.pointer (some ⟨d, 0, none⟩), .pointer (some ⟨g, 0, none⟩), .slice a D.s.length c, .bool D.off, .int .i64 D.calls, .int .i64 D.after, .bool D.done, .int .i64 (L.first : Nat), .int .i64 (L.count : Nat), .int .i64 (L.epoch : Nat), .int .i64 (L.at_ : Nat), .slice ha L.has.length hc, .slice wa L.wait.length wc, .bool L.closed, .bool L.bad] : Array Value)[i]?)) w' from ⟨cell_blk (F2.out.1.kept kk (fun h => h)), cell_blk (F2.out.2.1.kept kk (fun h => h))⟩)
  have RS := Lib.hid fun (w' : World) (kk : Same w2 w') => rx_restart (c := c) (RL2.out.same kk) n
  simp only [HR1.out, HR2.out] at RS
  clear hl2 k2 p0 f0 p1 f1 z0 z1 SY F K QQ
  obtain ⟨p0, f0, p1, f1, -⟩ := F2.out.rules
  have z0 := F2.out.1.lt
  have z1 := F2.out.2.1.lt
  simp only [lgV] at RS
  go_wp2_with fail
  refine wp_region_T (S := (fun w' => (∀ i, w'.cell? ⟨w.heap.size, i, none⟩ = (#[.int .u8 (k : Nat), .string (strN s), .int .i64 n, .int .u8 (kq : Nat), .int .i64 nq, .int .u8 (cc : Nat), .int .u8 (u : Nat), .bool dn, .slice fa fl fc] : Array Value)[i]?) ∧ (∀ i, w'.cell? ⟨x, i, none⟩ = (#[.pointer (some ⟨d, 0, none⟩), .pointer (some ⟨g, 0, none⟩), .slice a D.s.length c, .bool D.off, .int .i64 D.calls, .int .i64 D.after, .bool D.done, .int .i64 (L.first : Nat), .int .i64 (L.count : Nat), .int .i64 (L.epoch : Nat), .int .i64 (L.at_ : Nat), .slice ha L.has.length hc, .slice wa L.wait.length wc, .bool L.closed, .bool L.bad] : Array Value)[i]?))) 13 (by kernel_rfl) (QQ2.out _ (Kept.refl _ _).drew) (fun hHeld hDn => ?_)
  refine wpT_take (i := 0) (t := 66) (v := ?_) rfl rfl rfl (by kernel_rfl) (by kernel_rfl) (by kernel_rfl) (by kernel_rfl) (fun _ _ _ h => h) (Or.inl ⟨by rfl, ?_⟩) hHeld hDn (fun hDn' => ?_)
  rotate_left
  · (intro w hSw; (try dsimp only at hSw); go_simp; (try with_reducible rfl))
  clear hDn; have hDn := hDn'; clear hDn'
  simp only [Act.put, List.setIfInBounds_toArray, List.set_cons_zero, List.set_cons_succ]
  refine wpT_take (i := 1) (t := 67) (v := ?_) rfl rfl rfl (by kernel_rfl) (by kernel_rfl) (by kernel_rfl) (by kernel_rfl) (fun _ _ _ h => h) (Or.inl ⟨by rfl, ?_⟩) hHeld hDn (fun hDn' => ?_)
  rotate_left
  · (intro w hSw; (try dsimp only at hSw); go_simp; (try with_reducible rfl))
  clear hDn; have hDn := hDn'; clear hDn'
  simp only [Act.put, List.setIfInBounds_toArray, List.set_cons_zero, List.set_cons_succ]
  refine wpT_take (i := 2) (t := 68) (v := ?_) rfl rfl rfl (by kernel_rfl) (by kernel_rfl) (by kernel_rfl) (by kernel_rfl) (fun _ _ _ h => h) (Or.inl ⟨by rfl, ?_⟩) hHeld hDn (fun hDn' => ?_)
  rotate_left
  · (intro w hSw; (try dsimp only at hSw); go_simp; (try with_reducible rfl))
  clear hDn; have hDn := hDn'; clear hDn'
  simp only [Act.put, List.setIfInBounds_toArray, List.set_cons_zero, List.set_cons_succ]
  refine wpT_take (i := 3) (t := 69) (v := ?_) rfl rfl rfl (by kernel_rfl) (by kernel_rfl) (by kernel_rfl) (by kernel_rfl) (fun _ _ _ h => h) (Or.inl ⟨by rfl, ?_⟩) hHeld hDn (fun hDn' => ?_)
  rotate_left
  · (intro w hSw; (try dsimp only at hSw); go_simp; (try with_reducible rfl))
  clear hDn; have hDn := hDn'; clear hDn'
  simp only [Act.put, List.setIfInBounds_toArray, List.set_cons_zero, List.set_cons_succ]
  refine wpT_take (i := 4) (t := 70) (v := ?_) rfl rfl rfl (by kernel_rfl) (by kernel_rfl) (by kernel_rfl) (by kernel_rfl) (fun _ _ _ h => h) (Or.inl ⟨by rfl, ?_⟩) hHeld hDn (fun hDn' => ?_)
  rotate_left
  · (intro w hSw; (try dsimp only at hSw); go_simp; (try with_reducible rfl))
  clear hDn; have hDn := hDn'; clear hDn'
  simp only [Act.put, List.setIfInBounds_toArray, List.set_cons_zero, List.set_cons_succ]
  refine wpT_take (i := 5) (t := 71) (v := ?_) rfl rfl rfl (by kernel_rfl) (by kernel_rfl) (by kernel_rfl) (by kernel_rfl) (fun _ _ _ h => h) (Or.inl ⟨by rfl, ?_⟩) hHeld hDn (fun hDn' => ?_)
  rotate_left
  · (intro w hSw; (try dsimp only at hSw); go_simp; (try with_reducible rfl))
  clear hDn; have hDn := hDn'; clear hDn'
  simp only [Act.put, List.setIfInBounds_toArray, List.set_cons_zero, List.set_cons_succ]
  refine wpT_take (i := 6) (t := 72) (v := ?_) rfl rfl rfl (by kernel_rfl) (by kernel_rfl) (by kernel_rfl) (by kernel_rfl) (fun _ _ _ h => h) (Or.inl ⟨by rfl, ?_⟩) hHeld hDn (fun hDn' => ?_)
  rotate_left
  · (intro w hSw; (try dsimp only at hSw); go_simp; (try with_reducible rfl))
  clear hDn; have hDn := hDn'; clear hDn'
  simp only [Act.put, List.setIfInBounds_toArray, List.set_cons_zero, List.set_cons_succ]
  refine wpT_one (i := 7) rfl (by kernel_rfl) hDn (fun K' hK => ?_)
  go_simp
  with_reducible refine (RS.out _ (Kept.refl _ _).drew).mono ?_
  rintro r w3 ⟨⟨ha3, hc3, wa3, wc3, rfl, hr3⟩, k3⟩
  have k3 : Same w2 w3 := Kept.trans (Kept.refl _ w2).drew k3
  refine hK.out _ _ ?_ (fun hHeld2 hDn2 => ?_)
  · exact QQ2.out _ k3
  clear hK K' hHeld hDn
  have hHeld := hHeld2; have hDn := hDn2
  clear hHeld2 hDn2
  have F3 := Lib.hid (F2.out.same k3)
  have HR3 := Lib.hid hr3
  have HD3 := Lib.hid (HD2.out.same k3)
  have HL3 := Lib.hid (HL2.out.same k3)
  have K3 := Lib.hid (show Kept (wdo x d bs m g) w w3 from K2.out.trans (k3.mono (fun _ _ q => q.elim)))
  clear hr3 k3 p0 f0 p1 f1 z0 z1 RS F2 HD2 HL2 K2 QQ2
  obtain ⟨p0, f0, p1, f1, -⟩ := F3.out.rules
  have z0 := F3.out.1.lt
  have z1 := F3.out.2.1.lt
  refine wpT_takeW (i := 8) (t := 65) (v := ?_) rfl rfl rfl (by kernel_rfl) (by kernel_rfl) (by kernel_rfl) (fun _ _ _ h => h) (Or.inl ⟨by rfl, ?_⟩) hHeld hDn (fun hDn' => ?_)
  rotate_left
  · (intro w _; go_simp; (try with_reducible rfl))
  clear hDn; have hDn := hDn'; clear hDn'
  simp only [Act.put, List.setIfInBounds_toArray, List.set_cons_zero, List.set_cons_succ]
  refine wpT_takeW (i := 9) (t := 74) (v := ?_) rfl rfl rfl (by kernel_rfl) (by kernel_rfl) (by kernel_rfl) (fun _ _ _ h => h) (Or.inl ⟨by rfl, ?_⟩) hHeld hDn (fun hDn' => ?_)
  rotate_left
  · (intro w _; go_simp; (try with_reducible rfl))
  clear hDn; have hDn := hDn'; clear hDn'
  simp only [Act.put, List.setIfInBounds_toArray, List.set_cons_zero, List.set_cons_succ]
  refine wpT_takeW (i := 10) (t := 75) (v := ?_) rfl rfl rfl (by kernel_rfl) (by kernel_rfl) (by kernel_rfl) (fun _ _ _ h => h) (Or.inl ⟨by rfl, ?_⟩) hHeld hDn (fun hDn' => ?_)
  rotate_left
  · (intro w _; go_simp; (try with_reducible rfl))
  clear hDn; have hDn := hDn'; clear hDn'
  simp only [Act.put, List.setIfInBounds_toArray, List.set_cons_zero, List.set_cons_succ]
  refine wpT_takeW (i := 11) (t := 76) (v := ?_) rfl rfl rfl (by kernel_rfl) (by kernel_rfl) (by kernel_rfl) (fun _ _ _ h => h) (Or.inl ⟨by rfl, ?_⟩) hHeld hDn (fun hDn' => ?_)
  rotate_left
  · (intro w _; go_simp; (try with_reducible rfl))
  clear hDn; have hDn := hDn'; clear hDn'
  simp only [Act.put, List.setIfInBounds_toArray, List.set_cons_zero, List.set_cons_succ]
  refine wpT_takeW (i := 12) (t := 77) (v := ?_) rfl rfl rfl (by kernel_rfl) (by kernel_rfl) (by kernel_rfl) (fun _ _ _ h => h) (Or.inl ⟨by rfl, ?_⟩) hHeld hDn (fun hDn' => ?_)
  rotate_left
  · (intro w _; go_simp; (try with_reducible rfl))
  clear hDn; have hDn := hDn'; clear hDn'
  simp only [Act.put, List.setIfInBounds_toArray, List.set_cons_zero, List.set_cons_succ]
  refine wpT_last rfl (by kernel_rfl) hDn (fun K hK => ?_)
  go_simp
  refine hK.out _ _ (fun hDn' => ?_)
  clear hK K hDn hHeld; have hDn := hDn'; clear hDn'
  refine wpT_takeE (i := 14) (t := 6) (v := ?_) rfl (by kernel_rfl) rfl rfl (by kernel_rfl) (by kernel_rfl) (by kernel_rfl) (fun _ _ _ h => h) (Or.inl ⟨by rfl, ?_⟩) hDn (fun hDn' => ?_)
  rotate_left
  · (intro w _; go_simp; (try with_reducible rfl))
  clear hDn; have hDn := hDn'; clear hDn'
  simp only [Act.put, List.setIfInBounds_toArray, List.set_cons_zero, List.set_cons_succ]
  refine wpT_done (by kernel_rfl) ?_ _
  go_wp2_with fail
  go_ret
  refine ⟨g, D, L9, a, c, ha3, hc3, wa3, wc3, rfl, rfl, W10.put (w6 := w3) (Blk.set13w (w := w3) F3.out.2.1) ?_ HD3.out HL3.out HR3.out OKR.out XD.out XG.out, .inl rfl, ?_⟩
  · (repeat (first | with_reducible exact Kept.refl _ _ | with_reducible refine Kept.setG ?_ _ _))
  · (repeat (first | with_reducible exact K3.out | with_reducible refine Kept.setCell ?_ (fun _ => Or.inl rfl) _))
set_option maxRecDepth 100000 in
set_option maxHeartbeats 4000000 in
theorem wd_add {w : World} {x d bs cap m g : Nat} {D : Dsk} {L : Lg} {a : Option Addr} {c : Nat} {ha : Option Addr} {hc : Nat} {wa : Option Addr} {wc : Nat} (h : W10 w x d bs cap m g D L a c ha hc wa wc) (A : A10) (hk : A.k % 8 < 3) (hs : A.s.length ≤ 1000000) (hb : Bts A.s) :
    Calls Tryz.prog 9 #[.pointer (some ⟨x, 0, none⟩), actV A] w (DoW w x d bs cap m g D.s.length) := by
  have OWN := Lib.hid fun (y : Nat) (hy : w.heap.size ≤ y) => (show ¬ y = g by have := h.log.i.blk; omega)
  have DG := Lib.hid (show ¬ d = g ∧ ¬ bs = g ∧ ¬ m = g by obtain ⟨_, _, _, _, q⟩ := h.log.i; have q := q.og; exact ⟨fun z => q (.inl z.symm), fun z => q (.inr (.inl z.symm)), fun z => q (.inr (.inr z.symm))⟩)
  have HP1 := Lib.hid fun (w' : World) (k : w.heap.size ≤ w'.heap.size) (j : Nat) (hj : w'.heap.size ≤ j) => (show j ≠ x by have := h.box.lt; omega)
  have HP2 := Lib.hid fun (w' : World) (k : w.heap.size ≤ w'.heap.size) (j : Nat) (hj : w'.heap.size ≤ j) => (show j ≠ g ∧ ¬ dod d bs m j ∧ j ≠ x by have := h.box.lt; have := h.log.i.blk; have := h.disk.box.lt; have := h.disk.safe.lt; have := h.disk.map.lt; refine ⟨by omega, ?_, by omega⟩; rintro (q | q | q) <;> omega)
  obtain ⟨k, s, n, kq, nq, cc, u, dn, fa, fl, fc, fs⟩ := A
  unfold actV
  dsimp only at hk ⊢
  have BX := Lib.hid h.box
  have DI := Lib.hid h.disk
  have LG := Lib.hid h.log
  have RL := Lib.hid h.ref
  have OK := Lib.hid h.lok
  have XD := Lib.hid h.xd
  have XG := Lib.hid h.xg
  have hxl := h.box.lt
  clear h
  go_enter Tryz.func9, Tryz.ntmps9
  go_upto_region 1 with fail
  refine cutWl (fun wn => Fr wn [(w.heap.size, #[.int .u8 (k : Nat), .string (strN s), .int .i64 n, .int .u8 (kq : Nat), .int .i64 nq, .int .u8 (cc : Nat), .int .u8 (u : Nat), .bool dn, .slice fa fl fc], 33), (x, #[.pointer (some ⟨d, 0, none⟩), .pointer (some ⟨g, 0, none⟩), .slice a D.s.length c, .bool D.off, .int .i64 D.calls, .int .i64 D.after, .bool D.done, .int .i64 (L.first : Nat), .int .i64 (L.count : Nat), .int .i64 (L.epoch : Nat), .int .i64 (L.at_ : Nat), .slice ha L.has.length hc, .slice wa L.wait.length wc, .bool L.closed, .bool L.bad], 52)] ∧ Same w wn) ⟨⟨Blk.new _ _ _, BX.out.alloc _, trivial⟩, (Kept.refl _ _).alloc _⟩ ?_
  rintro W ⟨hfr, hkw⟩
  obtain ⟨p0, f0, p1, f1, -⟩ := hfr.rules
  have z0 := hfr.1.lt
  have z1 := hfr.2.1.lt
  have F := Lib.hid hfr
  have K := Lib.hid hkw
  have DI1 := Lib.hid (DI.out.same hkw)
  have LG1 := Lib.hid (LG.out.same hkw)
  have RL1 := Lib.hid (RL.out.same hkw)
  have hsW := hkw.size
  clear hfr hkw DI LG RL BX
  have HSL := Lib.hid hs
  have SY := Lib.hid fun (w' : World) (kk : Same W w') => wl_addP (s := s) (HP1.out w' (Nat.le_trans hsW kk.size)) (LG1.out.same kk) (Nat.lt_of_lt_of_le DI1.out.box.lt kk.size) (Nat.lt_of_lt_of_le DI1.out.safe.lt kk.size) (Nat.lt_of_lt_of_le DI1.out.map.lt kk.size) OK.out HSL.out
  have OKR := Lib.hid (addL_ok OK.out hb)
  obtain ⟨L9, hL9⟩ : ∃ L9, addL L s = L9 := ⟨_, rfl⟩
  obtain ⟨E9, hE9⟩ : ∃ E9, addE L s = E9 := ⟨_, rfl⟩
  have HR1 := Lib.hid hL9
  have HR2 := Lib.hid hE9
  simp only [hL9, hE9] at SY OKR
  clear hL9 hE9 hs hb
  obtain ⟨kk, hkk⟩ : ∃ kk, k % 8 = kk := ⟨_, rfl⟩
  have e8 : (k : Int) % 8 = (kk : Int) := by omega
  rw [hkk] at hk
  have n3 : ((kk : Int) == 3) = false := by simp; omega
  have n4 : ((kk : Int) == 4) = false := by simp; omega
  have n5 : ((kk : Int) == 5) = false := by simp; omega
  have n6 : ((kk : Int) == 6) = false := by simp; omega
  have n7 : ((kk : Int) == 7) = false := by simp; omega
  clear hkk hk
  have QQ := Lib.hid fun (w' : World) (kk : Same W w') => (show (fun w' => (∀ i, w'.cell? ⟨w.heap.size, i, none⟩ = (#[.int .u8 (k : Nat), .string (strN s), .int .i64 n, .int .u8 (kq : Nat), .int .i64 nq, .int .u8 (cc : Nat), .int .u8 (u : Nat), .bool dn, .slice fa fl fc] : Array Value)[i]?) ∧ (∀ i, w'.cell? ⟨x, i, none⟩ = (#[.pointer (some ⟨d, 0, none⟩), .pointer (some ⟨g, 0, none⟩), .slice a D.s.length c, .bool D.off, .int .i64 D.calls, .int .i64 D.after, .bool D.done, .int .i64 (L.first : Nat), .int .i64 (L.count : Nat), .int .i64 (L.epoch : Nat), .int .i64 (L.at_ : Nat), .slice ha L.has.length hc, .slice wa L.wait.length wc, .bool L.closed, .bool L.bad] : Array Value)[i]?)) w' from ⟨cell_blk (F.out.1.kept kk (fun h => h)), cell_blk (F.out.2.1.kept kk (fun h => h))⟩)
  go_wp2_with fail
  refine wp_region_T (S := (fun w' => (∀ i, w'.cell? ⟨w.heap.size, i, none⟩ = (#[.int .u8 (k : Nat), .string (strN s), .int .i64 n, .int .u8 (kq : Nat), .int .i64 nq, .int .u8 (cc : Nat), .int .u8 (u : Nat), .bool dn, .slice fa fl fc] : Array Value)[i]?) ∧ (∀ i, w'.cell? ⟨x, i, none⟩ = (#[.pointer (some ⟨d, 0, none⟩), .pointer (some ⟨g, 0, none⟩), .slice a D.s.length c, .bool D.off, .int .i64 D.calls, .int .i64 D.after, .bool D.done, .int .i64 (L.first : Nat), .int .i64 (L.count : Nat), .int .i64 (L.epoch : Nat), .int .i64 (L.at_ : Nat), .slice ha L.has.length hc, .slice wa L.wait.length wc, .bool L.closed, .bool L.bad] : Array Value)[i]?))) 6 (by kernel_rfl) (QQ.out _ (Kept.refl _ _).drew) (fun hHeld hDn => ?_)
  refine wpT_take (i := 0) (t := 17) (v := ?_) rfl rfl rfl (by kernel_rfl) (by kernel_rfl) (by kernel_rfl) (by kernel_rfl) (fun _ _ _ h => h) (Or.inl ⟨by rfl, ?_⟩) hHeld hDn (fun hDn' => ?_)
  rotate_left
  · (intro w hSw; (try dsimp only at hSw); go_simp; (try with_reducible rfl))
  clear hDn; have hDn := hDn'; clear hDn'
  simp only [Act.put, List.setIfInBounds_toArray, List.set_cons_zero, List.set_cons_succ]
  refine wpT_take (i := 1) (t := 18) (v := ?_) rfl rfl rfl (by kernel_rfl) (by kernel_rfl) (by kernel_rfl) (by kernel_rfl) (fun _ _ _ h => h) (Or.inl ⟨by rfl, ?_⟩) hHeld hDn (fun hDn' => ?_)
  rotate_left
  · (intro w hSw; (try dsimp only at hSw); go_simp; (try with_reducible rfl))
  clear hDn; have hDn := hDn'; clear hDn'
  simp only [Act.put, List.setIfInBounds_toArray, List.set_cons_zero, List.set_cons_succ]
  refine wpT_take (i := 2) (t := 19) (v := ?_) rfl rfl rfl (by kernel_rfl) (by kernel_rfl) (by kernel_rfl) (by kernel_rfl) (fun _ _ _ h => h) (Or.inl ⟨by rfl, ?_⟩) hHeld hDn (fun hDn' => ?_)
  rotate_left
  · (intro w hSw; (try dsimp only at hSw); go_simp; (try with_reducible rfl))
  clear hDn; have hDn := hDn'; clear hDn'
  simp only [Act.put, List.setIfInBounds_toArray, List.set_cons_zero, List.set_cons_succ]
  refine wpT_take (i := 3) (t := 20) (v := ?_) rfl rfl rfl (by kernel_rfl) (by kernel_rfl) (by kernel_rfl) (by kernel_rfl) (fun _ _ _ h => h) (Or.inl ⟨by rfl, ?_⟩) hHeld hDn (fun hDn' => ?_)
  rotate_left
  · (intro w hSw; (try dsimp only at hSw); go_simp; (try with_reducible rfl))
  clear hDn; have hDn := hDn'; clear hDn'
  simp only [Act.put, List.setIfInBounds_toArray, List.set_cons_zero, List.set_cons_succ]
  refine wpT_take (i := 4) (t := 21) (v := ?_) rfl rfl rfl (by kernel_rfl) (by kernel_rfl) (by kernel_rfl) (by kernel_rfl) (fun _ _ _ h => h) (Or.inl ⟨by rfl, ?_⟩) hHeld hDn (fun hDn' => ?_)
  rotate_left
  · (intro w hSw; (try dsimp only at hSw); go_simp; (try with_reducible rfl))
  clear hDn; have hDn := hDn'; clear hDn'
  simp only [Act.put, List.setIfInBounds_toArray, List.set_cons_zero, List.set_cons_succ]
  refine wpT_take (i := 5) (t := 22) (v := ?_) rfl rfl rfl (by kernel_rfl) (by kernel_rfl) (by kernel_rfl) (by kernel_rfl) (fun _ _ _ h => h) (Or.inl ⟨by rfl, ?_⟩) hHeld hDn (fun hDn' => ?_)
  rotate_left
  · (intro w hSw; (try dsimp only at hSw); go_simp; (try with_reducible rfl))
  clear hDn; have hDn := hDn'; clear hDn'
  simp only [Act.put, List.setIfInBounds_toArray, List.set_cons_zero, List.set_cons_succ]
  refine wpT_last rfl (by kernel_rfl) hDn (fun K' hK => ?_)
  go_simp
  with_reducible refine (SY.out _ (Kept.refl _ _).drew).mono ?_
  rintro e w2 ⟨rfl, hl2, k2⟩
  have k2 : Kept (fun j => j = g) W w2 := Kept.trans (Kept.refl _ W).drew k2
  refine hK.out _ _ (fun hDn' => ?_)
  clear hK K' hDn hHeld
  have hDn := hDn'
  clear hDn'
  refine wpT_takeE (i := 7) (t := 5) (v := ?_) rfl (by kernel_rfl) rfl rfl (by kernel_rfl) (by kernel_rfl) (by kernel_rfl) (fun _ _ _ h => h) (Or.inl ⟨by rfl, ?_⟩) hDn (fun hDn' => ?_)
  rotate_left
  · (intro w _; go_simp; (try with_reducible rfl))
  clear hDn; have hDn := hDn'; clear hDn'
  simp only [Act.put, List.setIfInBounds_toArray, List.set_cons_zero, List.set_cons_succ]
  refine wpT_done (by kernel_rfl) ?_ _
  have HL2 := Lib.hid hl2
  have hsz2 := k2.size
  have F2 := Lib.hid (show Fr w2 [(w.heap.size, #[.int .u8 (k : Nat), .string (strN s), .int .i64 n, .int .u8 (kq : Nat), .int .i64 nq, .int .u8 (cc : Nat), .int .u8 (u : Nat), .bool dn, .slice fa fl fc], 33), (x, #[.pointer (some ⟨d, 0, none⟩), .pointer (some ⟨g, 0, none⟩), .slice a D.s.length c, .bool D.off, .int .i64 D.calls, .int .i64 D.after, .bool D.done, .int .i64 (L.first : Nat), .int .i64 (L.count : Nat), .int .i64 (L.epoch : Nat), .int .i64 (L.at_ : Nat), .slice ha L.has.length hc, .slice wa L.wait.length wc, .bool L.closed, .bool L.bad], 52)] from ⟨F.out.1.kept k2 (OWN.out w.heap.size (Nat.le_refl _)), F.out.2.1.kept k2 (fun q => XG.out q.symm), trivial⟩)
  have RL2 := Lib.hid (RL1.out.kept k2 (fun j hj q => hj.1 q))
  have HD2 := Lib.hid (DI1.out.kept k2 DG.out.1 DG.out.2.1 DG.out.2.2)
  have K2 := Lib.hid (show Kept (wdo x d bs m g) w w2 from (K.out.mono (fun _ _ q => q.elim)).trans (k2.mono (fun j _ q => .inr (.inl q))))
  have QQ2 := Lib.hid fun (w' : World) (kk : Same w2 w') => (show (fun w' => (∀ i, w'.cell? ⟨w.heap.size, i, none⟩ = (#[.int .u8 (k : Nat), .string (strN s), .int .i64 n, .int .u8 (kq : Nat), .int .i64 nq, .int .u8 (cc : Nat), .int .u8 (u : Nat), .bool dn, .slice fa fl fc] : Array Value)[i]?) ∧ (∀ i, w'.cell? ⟨x, i, none⟩ = (#[.pointer (some ⟨d, 0, none⟩), .pointer (some ⟨g, 0, none⟩), .slice a D.s.length c, .bool D.off, .int .i64 D.calls, .int .i64 D.after, .bool D.done, .int .i64 (L.first : Nat), .int .i64 (L.count : Nat), .int .i64 (L.epoch : Nat), .int .i64 (L.at_ : Nat), .slice ha L.has.length hc, .slice wa L.wait.length wc, .bool L.closed, .bool L.bad] : Array Value)[i]?)) w' from ⟨cell_blk (F2.out.1.kept kk (fun h => h)), cell_blk (F2.out.2.1.kept kk (fun h => h))⟩)
  have RS := Lib.hid fun (w' : World) (kk : Same w2 w') => rx_add (c := c) (P := fun j => j ≠ g ∧ ¬ dod d bs m j ∧ j ≠ x) (HP2.out w' (Nat.le_trans (Nat.le_trans hsW hsz2) kk.size)) (RL2.out.same kk) OK.out s HSL.out
  simp only [HR1.out, HR2.out] at RS
  clear hl2 k2 p0 f0 p1 f1 z0 z1 SY F K QQ
  obtain ⟨p0, f0, p1, f1, -⟩ := F2.out.rules
  have z0 := F2.out.1.lt
  have z1 := F2.out.2.1.lt
  simp only [lgV] at RS
  go_wp2_with fail
  refine wp_region_T (S := (fun w' => (∀ i, w'.cell? ⟨w.heap.size, i, none⟩ = (#[.int .u8 (k : Nat), .string (strN s), .int .i64 n, .int .u8 (kq : Nat), .int .i64 nq, .int .u8 (cc : Nat), .int .u8 (u : Nat), .bool dn, .slice fa fl fc] : Array Value)[i]?) ∧ (∀ i, w'.cell? ⟨x, i, none⟩ = (#[.pointer (some ⟨d, 0, none⟩), .pointer (some ⟨g, 0, none⟩), .slice a D.s.length c, .bool D.off, .int .i64 D.calls, .int .i64 D.after, .bool D.done, .int .i64 (L.first : Nat), .int .i64 (L.count : Nat), .int .i64 (L.epoch : Nat), .int .i64 (L.at_ : Nat), .slice ha L.has.length hc, .slice wa L.wait.length wc, .bool L.closed, .bool L.bad] : Array Value)[i]?))) 13 (by kernel_rfl) (QQ2.out _ (Kept.refl _ _).drew) (fun hHeld hDn => ?_)
  refine wpT_take (i := 0) (t := 25) (v := ?_) rfl rfl rfl (by kernel_rfl) (by kernel_rfl) (by kernel_rfl) (by kernel_rfl) (fun _ _ _ h => h) (Or.inl ⟨by rfl, ?_⟩) hHeld hDn (fun hDn' => ?_)
  rotate_left
  · (intro w hSw; (try dsimp only at hSw); go_simp; (try with_reducible rfl))
  clear hDn; have hDn := hDn'; clear hDn'
  simp only [Act.put, List.setIfInBounds_toArray, List.set_cons_zero, List.set_cons_succ]
  refine wpT_take (i := 1) (t := 26) (v := ?_) rfl rfl rfl (by kernel_rfl) (by kernel_rfl) (by kernel_rfl) (by kernel_rfl) (fun _ _ _ h => h) (Or.inl ⟨by rfl, ?_⟩) hHeld hDn (fun hDn' => ?_)
  rotate_left
  · (intro w hSw; (try dsimp only at hSw); go_simp; (try with_reducible rfl))
  clear hDn; have hDn := hDn'; clear hDn'
  simp only [Act.put, List.setIfInBounds_toArray, List.set_cons_zero, List.set_cons_succ]
  refine wpT_take (i := 2) (t := 27) (v := ?_) rfl rfl rfl (by kernel_rfl) (by kernel_rfl) (by kernel_rfl) (by kernel_rfl) (fun _ _ _ h => h) (Or.inl ⟨by rfl, ?_⟩) hHeld hDn (fun hDn' => ?_)
  rotate_left
  · (intro w hSw; (try dsimp only at hSw); go_simp; (try with_reducible rfl))
  clear hDn; have hDn := hDn'; clear hDn'
  simp only [Act.put, List.setIfInBounds_toArray, List.set_cons_zero, List.set_cons_succ]
  refine wpT_take (i := 3) (t := 28) (v := ?_) rfl rfl rfl (by kernel_rfl) (by kernel_rfl) (by kernel_rfl) (by kernel_rfl) (fun _ _ _ h => h) (Or.inl ⟨by rfl, ?_⟩) hHeld hDn (fun hDn' => ?_)
  rotate_left
  · (intro w hSw; (try dsimp only at hSw); go_simp; (try with_reducible rfl))
  clear hDn; have hDn := hDn'; clear hDn'
  simp only [Act.put, List.setIfInBounds_toArray, List.set_cons_zero, List.set_cons_succ]
  refine wpT_take (i := 4) (t := 29) (v := ?_) rfl rfl rfl (by kernel_rfl) (by kernel_rfl) (by kernel_rfl) (by kernel_rfl) (fun _ _ _ h => h) (Or.inl ⟨by rfl, ?_⟩) hHeld hDn (fun hDn' => ?_)
  rotate_left
  · (intro w hSw; (try dsimp only at hSw); go_simp; (try with_reducible rfl))
  clear hDn; have hDn := hDn'; clear hDn'
  simp only [Act.put, List.setIfInBounds_toArray, List.set_cons_zero, List.set_cons_succ]
  refine wpT_take (i := 5) (t := 30) (v := ?_) rfl rfl rfl (by kernel_rfl) (by kernel_rfl) (by kernel_rfl) (by kernel_rfl) (fun _ _ _ h => h) (Or.inl ⟨by rfl, ?_⟩) hHeld hDn (fun hDn' => ?_)
  rotate_left
  · (intro w hSw; (try dsimp only at hSw); go_simp; (try with_reducible rfl))
  clear hDn; have hDn := hDn'; clear hDn'
  simp only [Act.put, List.setIfInBounds_toArray, List.set_cons_zero, List.set_cons_succ]
  refine wpT_take (i := 6) (t := 31) (v := ?_) rfl rfl rfl (by kernel_rfl) (by kernel_rfl) (by kernel_rfl) (by kernel_rfl) (fun _ _ _ h => h) (Or.inl ⟨by rfl, ?_⟩) hHeld hDn (fun hDn' => ?_)
  rotate_left
  · (intro w hSw; (try dsimp only at hSw); go_simp; (try with_reducible rfl))
  clear hDn; have hDn := hDn'; clear hDn'
  simp only [Act.put, List.setIfInBounds_toArray, List.set_cons_zero, List.set_cons_succ]
  refine wpT_one (i := 7) rfl (by kernel_rfl) hDn (fun K' hK => ?_)
  go_simp
  with_reducible refine (RS.out _ (Kept.refl _ _).drew).mono ?_
  rintro r w3 ⟨⟨ha3, hc3, wa3, wc3, rfl, hr3⟩, k3⟩
  have k3 : Same w2 w3 := Kept.trans (Kept.refl _ w2).drew k3
  refine hK.out _ _ ?_ (fun hHeld2 hDn2 => ?_)
  · exact QQ2.out _ k3
  clear hK K' hHeld hDn
  have hHeld := hHeld2; have hDn := hDn2
  clear hHeld2 hDn2
  have F3 := Lib.hid (F2.out.same k3)
  have HR3 := Lib.hid hr3
  have HD3 := Lib.hid (HD2.out.same k3)
  have HL3 := Lib.hid (HL2.out.same k3)
  have K3 := Lib.hid (show Kept (wdo x d bs m g) w w3 from K2.out.trans (k3.mono (fun _ _ q => q.elim)))
  clear hr3 k3 p0 f0 p1 f1 z0 z1 RS F2 HD2 HL2 K2 QQ2
  obtain ⟨p0, f0, p1, f1, -⟩ := F3.out.rules
  have z0 := F3.out.1.lt
  have z1 := F3.out.2.1.lt
  refine wpT_takeW (i := 8) (t := 24) (v := ?_) rfl rfl rfl (by kernel_rfl) (by kernel_rfl) (by kernel_rfl) (fun _ _ _ h => h) (Or.inl ⟨by rfl, ?_⟩) hHeld hDn (fun hDn' => ?_)
  rotate_left
  · (intro w _; go_simp; (try with_reducible rfl))
  clear hDn; have hDn := hDn'; clear hDn'
  simp only [Act.put, List.setIfInBounds_toArray, List.set_cons_zero, List.set_cons_succ]
  refine wpT_takeW (i := 9) (t := 33) (v := ?_) rfl rfl rfl (by kernel_rfl) (by kernel_rfl) (by kernel_rfl) (fun _ _ _ h => h) (Or.inl ⟨by rfl, ?_⟩) hHeld hDn (fun hDn' => ?_)
  rotate_left
  · (intro w _; go_simp; (try with_reducible rfl))
  clear hDn; have hDn := hDn'; clear hDn'
  simp only [Act.put, List.setIfInBounds_toArray, List.set_cons_zero, List.set_cons_succ]
  refine wpT_takeW (i := 10) (t := 34) (v := ?_) rfl rfl rfl (by kernel_rfl) (by kernel_rfl) (by kernel_rfl) (fun _ _ _ h => h) (Or.inl ⟨by rfl, ?_⟩) hHeld hDn (fun hDn' => ?_)
  rotate_left
  · (intro w _; go_simp; (try with_reducible rfl))
  clear hDn; have hDn := hDn'; clear hDn'
  simp only [Act.put, List.setIfInBounds_toArray, List.set_cons_zero, List.set_cons_succ]
  refine wpT_takeW (i := 11) (t := 35) (v := ?_) rfl rfl rfl (by kernel_rfl) (by kernel_rfl) (by kernel_rfl) (fun _ _ _ h => h) (Or.inl ⟨by rfl, ?_⟩) hHeld hDn (fun hDn' => ?_)
  rotate_left
  · (intro w _; go_simp; (try with_reducible rfl))
  clear hDn; have hDn := hDn'; clear hDn'
  simp only [Act.put, List.setIfInBounds_toArray, List.set_cons_zero, List.set_cons_succ]
  refine wpT_takeW (i := 12) (t := 36) (v := ?_) rfl rfl rfl (by kernel_rfl) (by kernel_rfl) (by kernel_rfl) (fun _ _ _ h => h) (Or.inl ⟨by rfl, ?_⟩) hHeld hDn (fun hDn' => ?_)
  rotate_left
  · (intro w _; go_simp; (try with_reducible rfl))
  clear hDn; have hDn := hDn'; clear hDn'
  simp only [Act.put, List.setIfInBounds_toArray, List.set_cons_zero, List.set_cons_succ]
  refine wpT_last rfl (by kernel_rfl) hDn (fun K hK => ?_)
  go_simp
  refine hK.out _ _ (fun hDn' => ?_)
  clear hK K hDn hHeld; have hDn := hDn'; clear hDn'
  refine wpT_takeE (i := 14) (t := 6) (v := ?_) rfl (by kernel_rfl) rfl rfl (by kernel_rfl) (by kernel_rfl) (by kernel_rfl) (fun _ _ _ h => h) (Or.inl ⟨by rfl, ?_⟩) hDn (fun hDn' => ?_)
  rotate_left
  · (intro w _; go_simp; (try with_reducible rfl))
  clear hDn; have hDn := hDn'; clear hDn'
  simp only [Act.put, List.setIfInBounds_toArray, List.set_cons_zero, List.set_cons_succ]
  refine wpT_done (by kernel_rfl) ?_ _
  go_wp2_with fail
  go_ret
  refine ⟨g, D, L9, a, c, ha3, hc3, wa3, wc3, rfl, rfl, W10.put (w6 := w3) (Blk.set13w (w := w3) F3.out.2.1) ?_ HD3.out HL3.out HR3.out OKR.out XD.out XG.out, .inl rfl, ?_⟩
  · (repeat (first | with_reducible exact Kept.refl _ _ | with_reducible refine Kept.setG ?_ _ _))
  · (repeat (first | with_reducible exact K3.out | with_reducible refine Kept.setCell ?_ (fun _ => Or.inl rfl) _))
end
end Go.Proofs.YtlmpkonfclnceaaGreat

namespace Go.Proofs.YtlmpkonfclnceaaGreat
open Go.RowKit Go.Sort

theorem LogP.keptD {fp : Nat → Prop} {w w' : World} {g d bs m : Nat} {L : Lg} {P : Nat → Prop} (h : LogP w g d bs m L P) (k : Kept fp w w') (hg : ¬ fp g) (hp : ∀ j, P j → ¬ dod d bs m j → j ≠ g → ¬ fp j) : LogP w' g d bs m L P := by
  obtain ⟨ha, hc, wa, wc, h, h1, h2⟩ := h
  exact ⟨ha, hc, wa, wc, ⟨h.box.kept k hg, h.has.kept k (fun y hy => hp _ (h1 y hy) (h.oh y hy).1 (h.oh y hy).2.1), h.hcap, h.hnil, h.wt.kept k (fun y hy => hp _ (h2 y hy) (h.ow y hy).1 (h.ow y hy).2.1), h.wcap, h.wnil, h.og,
    fun y hy => ⟨(h.oh y hy).1, (h.oh y hy).2.1, Nat.lt_of_lt_of_le (h.oh y hy).2.2.1 k.size, (h.oh y hy).2.2.2⟩, fun y hy => ⟨(h.ow y hy).1, (h.ow y hy).2.1, Nat.lt_of_lt_of_le (h.ow y hy).2.2.1 k.size, (h.ow y hy).2.2.2⟩⟩, h1, h2⟩
theorem LogP.og {w : World} {g d bs m : Nat} {L : Lg} {P : Nat → Prop} (h : LogP w g d bs m L P) : ¬ dod d bs m g := by
  obtain ⟨_, _, _, _, h, _⟩ := h
  exact h.og
/-- What is needed of an act of the disk. -/
structure ActD (w : World) (d bs m : Nat) (A : A10) : Prop where
  kb2 : A.k2 < 256
  nb2 : -9223372036854775808 ≤ A.n2 ∧ A.n2 ≤ 9223372036854775807
  cb : A.c < 256
  ub : A.u < 256
  fl_ : A.fl = A.fs.length
  fc_ : A.fl ≤ A.fc
  fb : Bts A.fs
  at_ : NatsAt w .u8 A.fa A.fs
  off : A.fs = [] ∨ ∀ y, A.fa = some y → ¬ dod d bs m y.block
theorem Blk.set5w {w : World} {b : Nat} {p q v0 v1 v2 v3 v4 v5 v6 v7 v8 v9 v10 v11 v12 u0 u1 u2 u3 u4 : Value} {t : TypeId} (h : Blk w b #[p, q, v0, v1, v2, v3, v4, v5, v6, v7, v8, v9, v10, v11, v12] t) :
    Blk (((((w.setCell ⟨b, 2, none⟩ u0).setCell ⟨b, 3, none⟩ u1).setCell ⟨b, 4, none⟩ u2).setCell ⟨b, 5, none⟩ u3).setCell ⟨b, 6, none⟩ u4) b #[p, q, u0, u1, u2, u3, u4, v5, v6, v7, v8, v9, v10, v11, v12] t := by
  have h0 : Blk _ b #[p, q, u0, v1, v2, v3, v4, v5, v6, v7, v8, v9, v10, v11, v12] t := h.set 2 u0
  have h1 : Blk _ b #[p, q, u0, u1, v2, v3, v4, v5, v6, v7, v8, v9, v10, v11, v12] t := h0.set 3 u1
  have h2 : Blk _ b #[p, q, u0, u1, u2, v3, v4, v5, v6, v7, v8, v9, v10, v11, v12] t := h1.set 4 u2
  have h3 : Blk _ b #[p, q, u0, u1, u2, u3, v4, v5, v6, v7, v8, v9, v10, v11, v12] t := h2.set 5 u3
  have h4 : Blk _ b #[p, q, u0, u1, u2, u3, u4, v5, v6, v7, v8, v9, v10, v11, v12] t := h3.set 6 u4
  exact h4
theorem cutE {Q : Exit → Act → World → Prop} {e : Exit} {a : Act} {w : World} (R : World → Prop) (h : R w) (k : ∀ wn, R wn → Q e a wn) : Q e a w := k w h
section
attribute [local go_sem ↓] exec_app semAt_app
attribute [local go_sem] isApp_lit appA appX
set_option maxRecDepth 100000 in
set_option maxHeartbeats 4000000 in
theorem wd_disk {w : World} {x d bs cap m g : Nat} {D : Dsk} {L : Lg} {a : Option Addr} {c : Nat} {ha : Option Addr} {hc : Nat} {wa : Option Addr} {wc : Nat} (h : W10 w x d bs cap m g D L a c ha hc wa wc) (A : A10) (hk : A.k % 8 = 6) (hA : ActD w d bs m A) :
    Calls Tryz.prog 9 #[.pointer (some ⟨x, 0, none⟩), actV A] w (DoW w x d bs cap m g D.s.length) := by
  have HP1 := Lib.hid fun (w' : World) (k : w.heap.size ≤ w'.heap.size) (j : Nat) (hj : w'.heap.size ≤ j) => (show j ≠ x by have := h.box.lt; omega)
  have HP2 := Lib.hid fun (w' : World) (k : w.heap.size ≤ w'.heap.size) (j : Nat) (hj : w'.heap.size ≤ j) => (show j ≠ g ∧ ¬ dod d bs m j ∧ j ≠ x by have := h.box.lt; have := h.log.i.blk; have := h.disk.box.lt; have := h.disk.safe.lt; have := h.disk.map.lt; refine ⟨by omega, ?_, by omega⟩; rintro (q | q | q) <;> omega)
  have OWN := Lib.hid fun (y : Nat) (hy : w.heap.size ≤ y) => (show ¬ dod d bs m y by have := h.disk.box.lt; have := h.disk.safe.lt; have := h.disk.map.lt; rintro (q | q | q) <;> omega)
  obtain ⟨k, s, n, kq, nq, cc, u, dn, fa, fl, fc, fs⟩ := A
  unfold actV
  dsimp only at hk ⊢
  have BX := Lib.hid h.box
  have DI := Lib.hid h.disk
  have LG := Lib.hid h.log
  have RL := Lib.hid h.ref
  have OK := Lib.hid h.lok
  have XD := Lib.hid h.xd
  have XG := Lib.hid h.xg
  have hxl := h.box.lt
  have AD := Lib.hid hA
  clear h hA
  go_enter Tryz.func9, Tryz.ntmps9
  go_upto_region 1 with fail
  refine cutWl (fun wn => Fr wn [(w.heap.size, #[.int .u8 (k : Nat), .string (strN s), .int .i64 n, .int .u8 (kq : Nat), .int .i64 nq, .int .u8 (cc : Nat), .int .u8 (u : Nat), .bool dn, .slice fa fl fc], 33), (x, #[.pointer (some ⟨d, 0, none⟩), .pointer (some ⟨g, 0, none⟩), .slice a D.s.length c, .bool D.off, .int .i64 D.calls, .int .i64 D.after, .bool D.done, .int .i64 (L.first : Nat), .int .i64 (L.count : Nat), .int .i64 (L.epoch : Nat), .int .i64 (L.at_ : Nat), .slice ha L.has.length hc, .slice wa L.wait.length wc, .bool L.closed, .bool L.bad], 52)] ∧ Same w wn) ⟨⟨Blk.new _ _ _, BX.out.alloc _, trivial⟩, (Kept.refl _ _).alloc _⟩ ?_
  rintro W ⟨hfr, hkw⟩
  obtain ⟨p0, f0, p1, f1, -⟩ := hfr.rules
  have z0 := hfr.1.lt
  have z1 := hfr.2.1.lt
  have F := Lib.hid hfr
  have K := Lib.hid hkw
  have DI1 := Lib.hid (DI.out.same hkw)
  have LG1 := Lib.hid (LG.out.same hkw)
  have RL1 := Lib.hid (RL.out.same hkw)
  have hsW := hkw.size
  clear hfr hkw DI LG RL BX
  have e8 : (k : Int) % 8 = 6 := by omega
  clear hk
  by_cases hq : kq % 8 < 5
  · have eq8 : (kq : Int) % 8 < 5 := by omega
    go_wp2_with fail
    go_ret
    refine ⟨g, D, L, a, c, ha, hc, wa, wc, rfl, rfl, ⟨F.out.2.1, DI1.out, LG1.out, RL1.out, OK.out, XD.out, XG.out⟩, .inl rfl, K.out.mono (fun _ _ q => q.elim)⟩
  · have eq8 : ¬ (kq : Int) % 8 < 5 := by omega
    have DL := Lib.hid (doD_len D kq nq cc u dn fs)
    obtain ⟨D9, hD9⟩ : ∃ D9, (doD D kq nq cc u dn fs).1 = D9 := ⟨_, rfl⟩
    have DO : Hid (∀ w', Same W w' → Calls Tryz.prog 32 #[.pointer (some ⟨d, 0, none⟩), .agg #[.slice a (D).s.length c, .bool (D).off, .int .i64 (D).calls, .int .i64 (D).after, .bool (D).done], .agg #[.int .u8 (kq : Nat), .int .i64 nq, .int .u8 (cc : Nat), .int .u8 (u : Nat), .bool dn, .slice fa fl fc]] w' (DoPost w' d bs cap m a D9)) := fun w' kk => hD9 ▸ do_any (DI1.out.same kk) a c (RL1.out.s.kept kk (.inr (fun _ _ h => h))) (fun y hy => (RL1.out.pa y hy).2.1) kq nq cc u dn fa fl fc fs AD.out.kb2 AD.out.nb2 AD.out.cb AD.out.ub AD.out.fl_ AD.out.fc_ AD.out.fb (AD.out.at_.same (K.out.trans kk)) AD.out.off
    rw [hD9] at DL
    clear hD9
    have QQ := Lib.hid fun (w' : World) (kk : Kept (dod d bs m) W w') => (show (fun w' => (∀ i, w'.cell? ⟨w.heap.size, i, none⟩ = (#[.int .u8 (k : Nat), .string (strN s), .int .i64 n, .int .u8 (kq : Nat), .int .i64 nq, .int .u8 (cc : Nat), .int .u8 (u : Nat), .bool dn, .slice fa fl fc] : Array Value)[i]?) ∧ (∀ i, w'.cell? ⟨x, i, none⟩ = (#[.pointer (some ⟨d, 0, none⟩), .pointer (some ⟨g, 0, none⟩), .slice a D.s.length c, .bool D.off, .int .i64 D.calls, .int .i64 D.after, .bool D.done, .int .i64 (L.first : Nat), .int .i64 (L.count : Nat), .int .i64 (L.epoch : Nat), .int .i64 (L.at_ : Nat), .slice ha L.has.length hc, .slice wa L.wait.length wc, .bool L.closed, .bool L.bad] : Array Value)[i]?)) w' from ⟨cell_blk (F.out.1.kept kk (OWN.out _ (Nat.le_refl _))), cell_blk (F.out.2.1.kept kk XD.out)⟩)
    have K9 := Lib.hid (Kept.refl (dod d bs m) W)
    go_wp2_with fail
    go_region_held3 (fun w' => (∀ i, w'.cell? ⟨w.heap.size, i, none⟩ = (#[.int .u8 (k : Nat), .string (strN s), .int .i64 n, .int .u8 (kq : Nat), .int .i64 nq, .int .u8 (cc : Nat), .int .u8 (u : Nat), .bool dn, .slice fa fl fc] : Array Value)[i]?) ∧ (∀ i, w'.cell? ⟨x, i, none⟩ = (#[.pointer (some ⟨d, 0, none⟩), .pointer (some ⟨g, 0, none⟩), .slice a D.s.length c, .bool D.off, .int .i64 D.calls, .int .i64 D.after, .bool D.done, .int .i64 (L.first : Nat), .int .i64 (L.count : Nat), .int .i64 (L.epoch : Nat), .int .i64 (L.at_ : Nat), .slice ha L.has.length hc, .slice wa L.wait.length wc, .bool L.closed, .bool L.bad] : Array Value)[i]?))
      ((refine QQ.out _ ?_; repeat (first | with_reducible exact Kept.refl _ _ | with_reducible exact K9.out | with_reducible refine Kept.drew ?_ | with_reducible refine Kept.alloc ?_ _ | refine Kept.setNew ?_ (by first | (dsimp only; omega) | (simp; done) | (simp; omega)) _)))
      ((go_at_call 32; refine (DO.out _ (by repeat (first | with_reducible exact Kept.refl _ _ | with_reducible refine Kept.drew ?_ | with_reducible refine Kept.alloc ?_ _))).mono ?_; rintro e w9 ⟨a9, c9, rfl, ⟨hs9, hf9⟩, hd9, k9⟩; simp only [refV]; have HS9 := Lib.hid hs9; have HD9 := Lib.hid hd9; have HF9 := Lib.hid (show a9 = a ∨ Far W a9 from hf9.imp_right (fun q => q.mono (Kept.size (fp := fun _ => False) (by repeat (first | with_reducible exact Kept.refl _ _ | with_reducible refine Kept.drew ?_ | with_reducible refine Kept.alloc ?_ _))))); have K9' := Lib.hid (show Kept (dod d bs m) W w9 from Kept.trans (by repeat (first | with_reducible exact Kept.refl _ _ | with_reducible refine Kept.drew ?_ | with_reducible refine Kept.alloc ?_ _)) k9); clear K9; have K9 := K9'; clear K9'; (first | (have B8 := Lib.hid (show Blk w9 W.heap.size #[.slice none 0 0, .bool false, .int .i64 0, .int .i64 0, .bool false] 40 from Blk.kept (Blk.drew (Blk.new W _ _)) k9 (OWN.out _ hsW)); have r8 := cell_blk B8.out; have s8 := fun i => B8.out.free i; have y8 := B8.out.lt) | skip); have hz9 := K9.out.size; clear hs9 hf9 hd9 k9))
    · obtain ⟨Y, hY⟩ : ∃ Y, w9.heap.size = Y := ⟨_, rfl⟩
      rw [hY]
      refine cutE (fun wn => Fr wn [(Y, #[.slice a9 (D9).s.length c9, .bool (D9).off, .int .i64 (D9).calls, .int .i64 (D9).after, .bool (D9).done], 40), (w.heap.size, #[.int .u8 (k : Nat), .string (strN s), .int .i64 n, .int .u8 (kq : Nat), .int .i64 nq, .int .u8 (cc : Nat), .int .u8 (u : Nat), .bool dn, .slice fa fl fc], 33), (x, #[.pointer (some ⟨d, 0, none⟩), .pointer (some ⟨g, 0, none⟩), .slice a D.s.length c, .bool D.off, .int .i64 D.calls, .int .i64 D.after, .bool D.done, .int .i64 (L.first : Nat), .int .i64 (L.count : Nat), .int .i64 (L.epoch : Nat), .int .i64 (L.at_ : Nat), .slice ha L.has.length hc, .slice wa L.wait.length wc, .bool L.closed, .bool L.bad], 52)] ∧ Kept (dod d bs m) W wn ∧ DiskIn wn d bs cap m D9 ∧ SecsAt wn a9 D9.s) ⟨⟨Blk.new' _ _ _ hY.symm, (F.out.1.kept K9.out (OWN.out _ (Nat.le_refl _))).alloc _, (F.out.2.1.kept K9.out XD.out).alloc _, trivial⟩, K9.out.alloc _, HD9.out.same ((Kept.refl _ _).alloc _), HS9.out.kept (fp := fun _ => False) ((Kept.refl _ _).alloc _) (.inr (fun _ _ h => h))⟩ ?_
      rintro wn ⟨hfn, hkn, hdn, hsn⟩
      have FN := Lib.hid hfn
      have KN := Lib.hid hkn
      have DN := Lib.hid hdn
      have SN := Lib.hid hsn
      clear p0 f0 p1 f1 z0 z1 hfn hkn hdn hsn
      obtain ⟨p2, f2, p0, f0, p1, f1, -⟩ := FN.out.rules
      have z2 := FN.out.1.lt
      have z0 := FN.out.2.1.lt
      have z1 := FN.out.2.2.1.lt
      go_wp2_with fail
      go_ret
      refine ⟨g, D9, L, a9, c9, ha, hc, wa, wc, rfl, DL.out, W10.put (w6 := wn) (Blk.set5w (w := wn) FN.out.2.2.1) ?_ DN.out (LG1.out.keptD KN.out LG1.out.og (fun _ _ q _ => q)) ⟨SN.out, RL1.out.has.kept KN.out (fun y hy => (RL1.out.ph y hy).2.1), RL1.out.hnil, RL1.out.wt.kept KN.out (fun y hy => (RL1.out.pw y hy).2.1), RL1.out.wnil, fun y hy => HF9.out.elim (fun e => RL1.out.pa y (e ▸ hy)) (fun q => HP2.out W hsW _ (q y hy)), RL1.out.ph, RL1.out.pw, fun y hy => Nat.lt_of_lt_of_le (RL1.out.lh y hy) KN.out.size, fun y hy => Nat.lt_of_lt_of_le (RL1.out.lw y hy) KN.out.size⟩ (by rw [DL.out]; exact OK.out) XD.out XG.out, .inl rfl, ?_⟩
      · (repeat (first | with_reducible exact Kept.refl _ _ | with_reducible refine Kept.setG ?_ _ _))
      · have kz : Kept (wdo x d bs m g) w wn := (K.out.mono (fun _ _ q => q.elim)).trans (KN.out.mono (fun j _ q => .inr (.inr q)))
        (repeat (first | with_reducible exact kz | with_reducible refine Kept.setCell ?_ (fun _ => Or.inl rfl) _))
    · obtain ⟨Y, hY⟩ : ∃ Y, W.heap.size = Y := ⟨_, rfl⟩
      rw [hY] at B8 ⊢
      have hdd := OWN.out Y (by omega)
      refine cutE (fun wn => Fr wn [(Y, #[.slice a9 (D9).s.length c9, .bool (D9).off, .int .i64 (D9).calls, .int .i64 (D9).after, .bool (D9).done], 40), (w.heap.size, #[.int .u8 (k : Nat), .string (strN s), .int .i64 n, .int .u8 (kq : Nat), .int .i64 nq, .int .u8 (cc : Nat), .int .u8 (u : Nat), .bool dn, .slice fa fl fc], 33), (x, #[.pointer (some ⟨d, 0, none⟩), .pointer (some ⟨g, 0, none⟩), .slice a D.s.length c, .bool D.off, .int .i64 D.calls, .int .i64 D.after, .bool D.done, .int .i64 (L.first : Nat), .int .i64 (L.count : Nat), .int .i64 (L.epoch : Nat), .int .i64 (L.at_ : Nat), .slice ha L.has.length hc, .slice wa L.wait.length wc, .bool L.closed, .bool L.bad], 52)] ∧ Kept (dod d bs m) W wn ∧ DiskIn wn d bs cap m D9 ∧ SecsAt wn a9 D9.s) ⟨⟨Blk.set5 (v0 := .slice none 0 0) (v1 := .bool false) (v2 := .int .i64 0) (v3 := .int .i64 0) (v4 := .bool false) B8.out, ?_, ?_, trivial⟩, ?_, HD9.out.kept (fp := fun j => j = Y) ?_ (fun q => hdd (.inl q.symm)) (fun q => hdd (.inr (.inl q.symm))) (fun q => hdd (.inr (.inr q.symm))), SecsAt.apart HS9.out B8.out ?_ (nostr5 _ _ _ _ _ _ _)⟩ ?_
      · refine Blk.kept (F.out.1.kept K9.out (OWN.out _ (Nat.le_refl _))) (fp := fun j => j = Y) ?_ (by omega)
        (repeat (first | with_reducible exact Kept.refl _ _ | with_reducible refine Kept.setG ?_ _ _))
      · refine Blk.kept (F.out.2.1.kept K9.out XD.out) (fp := fun j => j = Y) ?_ (by omega)
        (repeat (first | with_reducible exact Kept.refl _ _ | with_reducible refine Kept.setG ?_ _ _))
      · (repeat (first | with_reducible exact K9.out | with_reducible refine Kept.setNew ?_ (by dsimp only; omega) _))
      · (repeat (first | with_reducible exact Kept.refl _ _ | with_reducible refine Kept.setG ?_ _ _))
      · (repeat (first | with_reducible exact Kept.refl _ _ | with_reducible refine Kept.setG ?_ _ _))
      rintro wn ⟨hfn, hkn, hdn, hsn⟩
      have FN := Lib.hid hfn
      have KN := Lib.hid hkn
      have DN := Lib.hid hdn
      have SN := Lib.hid hsn
      clear p0 f0 p1 f1 z0 z1 hfn hkn hdn hsn
      obtain ⟨p2, f2, p0, f0, p1, f1, -⟩ := FN.out.rules
      have z2 := FN.out.1.lt
      have z0 := FN.out.2.1.lt
      have z1 := FN.out.2.2.1.lt
      go_wp2_with fail
      go_ret
      refine ⟨g, D9, L, a9, c9, ha, hc, wa, wc, rfl, DL.out, W10.put (w6 := wn) (Blk.set5w (w := wn) FN.out.2.2.1) ?_ DN.out (LG1.out.keptD KN.out LG1.out.og (fun _ _ q _ => q)) ⟨SN.out, RL1.out.has.kept KN.out (fun y hy => (RL1.out.ph y hy).2.1), RL1.out.hnil, RL1.out.wt.kept KN.out (fun y hy => (RL1.out.pw y hy).2.1), RL1.out.wnil, fun y hy => HF9.out.elim (fun e => RL1.out.pa y (e ▸ hy)) (fun q => HP2.out W hsW _ (q y hy)), RL1.out.ph, RL1.out.pw, fun y hy => Nat.lt_of_lt_of_le (RL1.out.lh y hy) KN.out.size, fun y hy => Nat.lt_of_lt_of_le (RL1.out.lw y hy) KN.out.size⟩ (by rw [DL.out]; exact OK.out) XD.out XG.out, .inl rfl, ?_⟩
      · (repeat (first | with_reducible exact Kept.refl _ _ | with_reducible refine Kept.setG ?_ _ _))
      · have kz : Kept (wdo x d bs m g) w wn := (K.out.mono (fun _ _ q => q.elim)).trans (KN.out.mono (fun j _ q => .inr (.inr q)))
        (repeat (first | with_reducible exact kz | with_reducible refine Kept.setCell ?_ (fun _ => Or.inl rfl) _))
end
end Go.Proofs.YtlmpkonfclnceaaGreat
