/- A block read. -/
import Derived.Test.YtlmpkonfclnceaaBlk2
namespace Go.Proofs.Ytlmpkonfclnceaa
open Go.RowKit Go.Sort

theorem blk_nats {w : World} {g : Nat} {xs : List Nat} {t : TypeId} (h : Blk w g (encB xs).toArray t) : NatsAt w .u8 (some ⟨g, 0, none⟩) xs := by
  refine .inr ⟨g, 0, rfl, h.lt, fun i x hx => ?_⟩
  rw [cell_blk h, Nat.zero_add]
  simp [encB, hx]
theorem run_copyB {P : Program} (w : World) (dT sT ty e t : TypeId) (hu : P.underlying dT = some (.slice e)) (hs : (P.info? e).map (·.size) = some 1) (g o dl dc : Nat) (xs : List Nat)
    (hb : Blk w g (encB xs).toArray t) (ao : Option Addr) (m c : Nat) (ys : List Nat) (hm : m = ys.length) (hat : NatsAt w .u8 ao ys) (hfit : o + ys.length ≤ xs.length) (hdl : ys.length ≤ dl) (hy : ys ≠ []) :
    ∃ w', (Builtin.copy_ #[dT, sT] ty #[.slice (some ⟨g, o, none⟩) dl dc, .slice ao m c]).run P w = .ok (.int .i64 ((ys.length : Nat) : Int)) w' ∧ Blk w' g (encB (xs.take o ++ ys ++ xs.drop (o + ys.length))).toArray t ∧ Kept (fun j => j = g) w w' := by
  subst hm
  obtain ⟨b, off, rfl, hbl, hc⟩ := hat.resolve_left hy
  have hl : (encB ys).length = ys.length := encB_len ys
  have hsrc : ∀ j v, (encB ys)[j]? = some v → w.cell? ((⟨b, off, none⟩ : Addr).add j) = some v := by
    intro j v hv
    unfold encB at hv
    rw [List.getElem?_map] at hv
    obtain ⟨x, hx, rfl⟩ := Option.map_eq_some_iff.1 hv
    have := hc j x hx
    unfold Addr.add
    split
    · subst j; simpa using this
    · exact this
  have hrun := run_copy_row (P := P) w dT sT ty e g o dl dc ⟨b, off, none⟩ ys.length c (encB xs).toArray t (encB ys) hu hs hb (by rw [hl]; exact (Nat.min_eq_left hdl).symm) hsrc (by rw [hl]; simp [encB_len]; exact hfit) (encB_one ys)
  rw [hl] at hrun
  refine ⟨_, hrun, ?_, ⟨rfl, rfl, rfl, by simp [World.setRow], fun j _ hj => setRow_other w g j _ hj⟩⟩
  have := setRow_heap w g (encB xs).toArray ((encB xs).toArray.toList.take o ++ encB ys ++ (encB xs).toArray.toList.drop (o + ys.length)).toArray t (0, 0) hb
  rw [show (encB (xs.take o ++ ys ++ xs.drop (o + ys.length))).toArray = ((encB xs).toArray.toList.take o ++ encB ys ++ (encB xs).toArray.toList.drop (o + ys.length)).toArray from by simp [encB]]
  exact this
def partR (D : Dsk) (G i : Nat) : List Nat := ((List.range i).flatMap fun j => hasAt D (G + j)) ++ List.replicate (1024 - i * 256) 0
theorem hasAt_len {D : Dsk} (h : D.OK) (F : Nat) : (hasAt D F).length = 256 := (getD_ok h.secs F).hasL
theorem hasAt_bts {D : Dsk} (h : D.OK) (F : Nat) : Bts (hasAt D F) := (getD_ok h.secs F).hasB
theorem flat_len {D : Dsk} (h : D.OK) (G i : Nat) : ((List.range i).flatMap fun j => hasAt D (G + j)).length = i * 256 := by
  induction i with
  | zero => rfl
  | succ i ih => rw [List.range_succ, List.flatMap_append, List.length_append, ih]; simp [hasAt_len h]; omega
theorem partR_step {D : Dsk} (h : D.OK) (G : Nat) {i : Nat} (hi : i < 4) : (partR D G i).take (i * 256) ++ hasAt D (G + i) ++ (partR D G i).drop (i * 256 + (hasAt D (G + i)).length) = partR D G (i + 1) := by
  have hl := flat_len h G i
  rw [hasAt_len h]
  unfold partR
  rw [List.take_append_of_le_length (by omega), List.take_of_length_le (by omega), List.drop_append, hl, List.drop_eq_nil_of_le (by omega), List.nil_append, List.drop_replicate, List.range_succ, List.flatMap_append]
  simp only [List.flatMap_cons, List.flatMap_nil, List.append_nil]
  rw [show 1024 - i * 256 - (i * 256 + 256 - i * 256) = 1024 - (i + 1) * 256 from by omega]
theorem partR_len {D : Dsk} (h : D.OK) (G : Nat) {i : Nat} (hi : i ≤ 4) : (partR D G i).length = 1024 := by
  unfold partR
  rw [List.length_append, flat_len h, List.length_replicate]; omega
theorem partR_end (D : Dsk) (G : Nat) : partR D G 4 = hasAt D G ++ hasAt D (G + 1) ++ hasAt D (G + 2) ++ hasAt D (G + 3) := by
  unfold partR
  simp [List.range, List.range.loop, List.append_assoc]
theorem partR_bts {D : Dsk} (h : D.OK) (G : Nat) : Bts (partR D G 4) := by
  rw [partR_end]
  exact (((hasAt_bts h _).app (hasAt_bts h _)).app (hasAt_bts h _)).app (hasAt_bts h _)
theorem zeroC_1024 : Try.zeroCells119 = (encB (List.replicate 1024 0)).toArray := by kernel_rfl

theorem addr_add0 (b n : Nat) : (⟨b, 0, none⟩ : Addr).add n = ⟨b, n, none⟩ := by
  unfold Addr.add
  split
  · subst n; rfl
  · simp
theorem slice_1024 (g : Nat) {i : Nat} (hi : i < 4) (w : World) : (Instr.sliceAt 119 (.pointer (some ⟨g, 0, none⟩)) (some (.int .i64 ((i : Int) * 256))) none none).run Try.prog w = .ok (.slice (some ⟨g, i * 256, none⟩) (1024 - i * 256) (1024 - i * 256)) w := by
  have hl : Try.prog.arrayLen 119 = 1024 := by kernel_rfl
  have hs : (sizeOf (Try.prog.elem 119)).run Try.prog w = .ok 1 w := by kernel_rfl
  have h1 := run_sliceAt_array_l (P := Try.prog) w 119 ⟨g, 0, none⟩ (by kernel_rfl) .i64 ((i : Int) * 256) (by omega) (by rw [hl]; omega)
  rw [h1, hs]
  simp only [Result.andThen_ok, slicedAt, hl]
  rw [show ((i : Int) * 256).toNat = i * 256 from by omega, if_neg (by omega), Nat.mul_one, addr_add0]
section
attribute [local go_sem ↓] exec_cpy semAt_cpy
attribute [local go_sem] isCpy_lit appA appX
set_option maxRecDepth 100000 in
set_option maxHeartbeats 1600000 in
theorem bl_read {w : World} {d bs cap m : Nat} {D : Dsk} (h : DiskIn w d bs cap m D) (f k n : Int) :
    Calls Try.prog 31 #[.pointer (some ⟨d, 0, none⟩), areaV f k, .int .i64 n] w fun e w' => Told w w' e (readB D f k n) := by
  have H := Lib.hid h
  have OK := Lib.hid h.ok
  have AS := Lib.hid fun w' (kk : Same w w') => bl_asked (h.same kk) f k n
  obtain ⟨E, hE⟩ : ∃ E, atA D.s.length f k n = E := ⟨_, rfl⟩
  obtain ⟨R, hR⟩ : ∃ R, readB D f k n = R := ⟨_, rfl⟩
  have hw : R = if E = 0 then (if D.off then ([], 8) else openP (hasAt D (f + 4 * n).toNat ++ hasAt D ((f + 4 * n).toNat + 1) ++ hasAt D ((f + 4 * n).toNat + 2) ++ hasAt D ((f + 4 * n).toNat + 3))) else ([], E) := by rw [← hR, ← hE]; rfl
  rw [hR]
  simp only [hE] at AS
  unfold areaV at AS ⊢
  clear hR h
  by_cases h0 : E = 0
  · subst h0
    rw [if_pos rfl] at hw
    obtain ⟨G, hG, hG1, hG2⟩ := secsA_eq hE
    rw [show (f + 4 * n).toNat = G from by omega, ← partR_end] at hw
    simp only [if_true, hG, Int.natCast_zero] at AS
    have SR := Lib.hid fun w' (kk : Same w w') (q : Int) => sd_read (H.out.same kk) q
    clear hG hG1 hE
    cases hoff : D.off
    · rw [hoff, if_neg (by decide)] at hw
      have HW := Lib.hid hw
      have RD : Hid (∀ i, i < 4 → readD D ((G + i : Nat) : Int) = (hasAt D (G + i), 0)) := fun i hi => read_live hoff (by omega)
      clear hw hoff
      go_enter Try.func31, Try.ntmps31
      go_wp2_with fail
      have K0 : Same w (w.alloc (.cells #[.int .i64 f, .int .i64 k] 57)) := (Kept.refl _ w).alloc _
      have F0 : Fr (w.alloc (.cells #[.int .i64 f, .int .i64 k] 57)) [(w.heap.size, #[.int .i64 f, .int .i64 k], 57)] := ⟨Blk.new w _ _, trivial⟩
      have K := Lib.hid K0
      have F := Lib.hid F0
      clear K0 F0
      refine (AS.out _ K.out).mono ?_
      rintro e w2 ⟨a2, c2, rfl, ⟨n2, f2⟩, k2⟩
      have N2 := Lib.hid n2
      have F2 := Lib.hid (show Far w a2 from f2.mono K.out.size)
      have KN := Lib.hid (K.out.trans k2)
      have FN := Lib.hid (F.out.same k2)
      clear K F k2
      have K := KN
      have F := FN
      clear KN FN
      clear n2 f2
      obtain ⟨gs, os, rfl, hgs⟩ : ∃ gs os, a2 = some ⟨gs, os, none⟩ ∧ gs < w2.heap.size := by
        rcases N2.out with q | ⟨gs, os, q, hlt, _⟩
        · cases q
        · exact ⟨gs, os, q, hlt⟩
      have K0 : Hid (Same w (w2.alloc (.cells Try.zeroCells119 119))) := K.out.alloc _
      have B0 : Hid (Blk (w2.alloc (.cells Try.zeroCells119 119)) w2.heap.size (encB (partR D G 0)).toArray 119) := by
        show Blk _ _ _ _
        rw [show partR D G 0 = List.replicate 1024 0 from rfl, ← zeroC_1024]
        exact Blk.new _ _ _
      have hws := K.out.size
      go_wp2_with fail
      go_loopw [27] (fun t wr => ∃ i : Nat, t = .int .i64 i ∧ i ≤ 4 ∧ Blk wr w2.heap.size (encB (partR D G i)).toArray 119 ∧ Kept (fun j => j = w2.heap.size) w2 wr ∧ Same w wr) (fun t _ => 4 - (intOf t).toNat)
      case atStart => exact ⟨0, rfl, by omega, B0.out, (Kept.refl _ _).alloc _, K0.out⟩
      case round =>
        clear K0 B0 F
        obtain ⟨i, rfl, hi, hbl, hk2, hk⟩ := hrel
        have BL := Lib.hid hbl; have HK2 := Lib.hid hk2; have HK := Lib.hid hk
        have NS := Lib.hid (N2.out.kept hk2 (fun x hx => by cases hx; dsimp only; omega))
        have hbz := hbl.lt
        clear hbl hk2 hk
        by_cases hgo : i < 4
        · have h1 : (i : Int) < 4 := by omega
          have h0 : (0 : Int) ≤ (i : Int) := by omega
          have hci := nats_get NS.out (i := i) hgo
          have hgi : ([G, G + 1, G + 2, G + 3] : List Nat).getD i 0 = G + i := by
            rcases i with _ | _ | _ | _ | i
            · rfl
            · rfl
            · rfl
            · rfl
            · omega
          rw [hgi] at hci
          have SRI := Lib.hid (SR.out wr HK.out ((G + i : Nat) : Int))
          rw [RD.out i hgo, Int.natCast_add] at SRI
          have HL := Lib.hid (hasAt_len OK.out (G + i))
          have ST := Lib.hid (partR_step OK.out G hgo)
          have PL := Lib.hid (partR_len OK.out G hi)
          obtain ⟨X, hX⟩ : ∃ X, hasAt D (G + i) = X := ⟨_, rfl⟩
          rw [hX] at SRI HL ST
          clear hgi hX
          go_wp2_with fail
          refine SRI.out.mono ?_
          rintro e w5 ⟨a5, c5, rfl, n5, -, k5⟩
          obtain ⟨w6, hcp, b6, k6⟩ := run_copyB (P := Try.prog) w5 24 24 3 5 119 Try.underlying24 (by kernel_rfl) w2.heap.size (i * 256) (1024 - i * 256) (1024 - i * 256) (partR D G i) (BL.out.kept k5 (fun h => h)) a5 X.length c5 X rfl n5 (by rw [HL.out, PL.out]; omega) (by rw [HL.out]; omega) (fun q => by have := HL.out; rw [q] at this; cases this)
          rw [ST.out] at b6
          obtain ⟨aok, aV, aW⟩ := cpy_of hcp
          have B6 := Lib.hid b6
          have K6 := Lib.hid ((HK2.out.trans (k5.mono (fun _ _ q => q.elim))).trans k6)
          have K7 := Lib.hid ((HK.out.trans k5).step k6 (fun j hj q => by omega))
          have hsl := slice_1024 w2.heap.size hgo w5
          clear b6 k6 hcp n5 k5 BL HK2 HK
          go_wp2_with fail
          go_roundw
          case rel => exact ⟨i + 1, by go_num, by omega, B6.out, K6.out, K7.out⟩
          case measure => simp [intOf]; omega
        · have e : i = 4 := by omega
          subst e
          have CO := Lib.hid (cr_open w2.heap.size 0 (partR D G 4) (partR_len OK.out G (Nat.le_refl _)) (partR_bts OK.out G) wr (blk_nats BL.out))
          rw [← HW.out] at CO
          go_wp2_with fail
          refine CO.out.mono ?_
          rintro e w7 ⟨a7, c7, rfl, n7, h7, k7⟩
          have N7 := Lib.hid n7
          have H7 := Lib.hid h7
          have K7 := Lib.hid (HK.out.trans k7)
          clear n7 h7 k7
          go_wp2_with fail
          go_ret2
          exact ⟨a7, c7, rfl, N7.out, H7.out, K7.out⟩
    · rw [hoff, if_pos rfl] at hw
      have RD : Hid (readD D ((G : Nat) : Int) = ([], 8)) := by
        show _ = _
        have e8 : errD D ((G : Nat) : Int) = 8 := by unfold errD; rw [hoff]; rfl
        unfold readD
        rw [if_neg (by rw [e8]; decide), e8]
      subst hw
      clear hoff
      go_enter Try.func31, Try.ntmps31
      go_wp2_with fail
      have K0 : Same w (w.alloc (.cells #[.int .i64 f, .int .i64 k] 57)) := (Kept.refl _ w).alloc _
      have F0 : Fr (w.alloc (.cells #[.int .i64 f, .int .i64 k] 57)) [(w.heap.size, #[.int .i64 f, .int .i64 k], 57)] := ⟨Blk.new w _ _, trivial⟩
      have K := Lib.hid K0
      have F := Lib.hid F0
      clear K0 F0
      refine (AS.out _ K.out).mono ?_
      rintro e w2 ⟨a2, c2, rfl, ⟨n2, f2⟩, k2⟩
      have N2 := Lib.hid n2
      have KN := Lib.hid (K.out.trans k2)
      have FN := Lib.hid (F.out.same k2)
      clear K F k2
      have K := KN
      have F := FN
      clear KN FN
      clear n2 f2
      obtain ⟨gs, os, rfl, hgs⟩ : ∃ gs os, a2 = some ⟨gs, os, none⟩ ∧ gs < w2.heap.size := by
        rcases N2.out with q | ⟨gs, os, q, hlt, _⟩
        · cases q
        · exact ⟨gs, os, q, hlt⟩
      have K0 : Hid (Same w (w2.alloc (.cells Try.zeroCells119 119))) := K.out.alloc _
      have NS := Lib.hid (N2.out.same ((Kept.refl _ w2).alloc (.cells Try.zeroCells119 119)))
      go_wp2_with fail
      go_loopw [27] (fun t wr => t = .int .i64 0 ∧ wr = w2.alloc (.cells Try.zeroCells119 119)) (fun _ _ => 0)
      case atStart => exact ⟨rfl, rfl⟩
      case round =>
        obtain ⟨rfl, rfl⟩ := hrel
        generalize w2.alloc (.cells Try.zeroCells119 119) = w3 at *
        have hci := nats_get NS.out (i := 0) (by simp)
        rw [Nat.add_zero, show ([G, G + 1, G + 2, G + 3] : List Nat).getD 0 0 = G from rfl] at hci
        have SRI := Lib.hid (SR.out w3 K0.out ((G : Nat) : Int))
        rw [RD.out] at SRI
        go_wp2_with fail
        refine SRI.out.mono ?_
        rintro e w5 ⟨a5, c5, rfl, -, -, k5⟩
        have K5 := Lib.hid (K0.out.trans k5)
        clear k5
        go_wp2_with fail
        go_ret2
        exact ⟨none, 0, rfl, .inl rfl, fun _ => rfl, K5.out⟩
  · rw [if_neg h0] at hw
    have g0 : ¬ (E : Int) = 0 := by omega
    subst hw
    simp only [if_neg h0] at AS
    clear hE
    go_enter Try.func31, Try.ntmps31
    go_wp2_with fail
    have K0 : Same w (w.alloc (.cells #[.int .i64 f, .int .i64 k] 57)) := (Kept.refl _ w).alloc _
    have F0 : Fr (w.alloc (.cells #[.int .i64 f, .int .i64 k] 57)) [(w.heap.size, #[.int .i64 f, .int .i64 k], 57)] := ⟨Blk.new w _ _, trivial⟩
    have K := Lib.hid K0
    have F := Lib.hid F0
    clear K0 F0
    refine (AS.out _ K.out).mono ?_
    rintro e w2 ⟨a2, c2, rfl, ⟨-, -⟩, k2⟩
    have KN := Lib.hid (K.out.trans k2)
    have FN := Lib.hid (F.out.same k2)
    clear K F k2
    have K := KN
    have F := FN
    clear KN FN
    go_wp2_with fail
    go_ret2
    exact ⟨none, 0, rfl, .inl rfl, fun _ => rfl, K.out⟩
end
end Go.Proofs.Ytlmpkonfclnceaa
