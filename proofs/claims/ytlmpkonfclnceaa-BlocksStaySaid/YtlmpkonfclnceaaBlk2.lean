/- asked; a block written. -/
import Derived.Test.YtlmpkonfclnceaaBlk1
namespace Go.Proofs.Ytlmpkonfclnceaa
open Go.RowKit Go.Sort

set_option maxHeartbeats 800000 in
/-- A block's sectors, or why there are none. -/
theorem bl_asked {w : World} {d bs cap m : Nat} {D : Dsk} (h : DiskIn w d bs cap m D) (f k n : Int) :
    Calls Try.prog 70 #[.pointer (some ⟨d, 0, none⟩), areaV f k, .int .i64 n] w fun e w' => ∃ a c, e = .returned (.tuple #[.slice a (if atA D.s.length f k n = 0 then secsA f k n else []).length c, .int .i64 (atA D.s.length f k n : Nat)]) ∧ (NatsAt w' .i64 a (if atA D.s.length f k n = 0 then secsA f k n else []) ∧ Far w a) ∧ Same w w' := by
  have CH := Lib.hid fun w' (kk : Same w w') => bl_check (h.same kk) f k
  have HA := Lib.hid fun w' => bl_has f k n w'
  have SE := Lib.hid fun w' => bl_sectors f k n w'
  obtain ⟨E, hE⟩ : ∃ E, errA D.s.length f k = E := ⟨_, rfl⟩
  obtain ⟨r, hr⟩ : ∃ r, hasB k n = r := ⟨_, rfl⟩
  have hat : atA D.s.length f k n = if E = 0 then (if r = true then 0 else 9) else E := by unfold atA; rw [hE, hr]
  rw [hat]
  simp only [hE] at CH
  rw [hr] at HA
  obtain ⟨L, hL⟩ : ∃ L, secsA f k n = L := ⟨_, rfl⟩
  rw [hL] at SE ⊢
  unfold areaV at CH HA SE ⊢
  clear hE hr hat h hL
  by_cases h0 : E = 0
  · subst h0
    rw [if_pos rfl]
    cases r
    · rw [if_neg (by decide), if_neg (by decide)]
      go_enter Try.func70, Try.ntmps70
      go_wp2_with fail
      have K0 : Same w (w.alloc (.cells #[.int .i64 f, .int .i64 k] 57)) := (Kept.refl _ w).alloc _
      have F0 : Fr (w.alloc (.cells #[.int .i64 f, .int .i64 k] 57)) [(w.heap.size, #[.int .i64 f, .int .i64 k], 57)] := ⟨Blk.new w _ _, trivial⟩
      have K := Lib.hid K0
      have F := Lib.hid F0
      clear K0 F0
      refine (CH.out _ K.out).mono ?_
      rintro e w2 ⟨rfl, k2⟩
      have hkk := k2
      have KN := Lib.hid (K.out.trans hkk)
      have FN := Lib.hid (F.out.same hkk)
      clear K F hkk
      have K := KN
      have F := FN
      clear KN FN
      obtain ⟨p0, f0, -⟩ := F.out.rules
      have z0 := F.out.1.lt
      clear k2
      go_wp2_with fail
      refine (HA.out _).mono ?_
      rintro e w3 ⟨rfl, k3⟩
      have KN := Lib.hid (K.out.trans k3)
      have FN := Lib.hid (F.out.same k3)
      clear K F k3
      have K := KN
      have F := FN
      clear KN FN
      clear p0 f0 z0
      go_wp2_with fail
      go_ret2
      exact ⟨none, 0, rfl, ⟨.inl rfl, fun x hx => by cases hx⟩, K.out⟩
    · rw [if_pos rfl, if_pos rfl]
      go_enter Try.func70, Try.ntmps70
      go_wp2_with fail
      have K0 : Same w (w.alloc (.cells #[.int .i64 f, .int .i64 k] 57)) := (Kept.refl _ w).alloc _
      have F0 : Fr (w.alloc (.cells #[.int .i64 f, .int .i64 k] 57)) [(w.heap.size, #[.int .i64 f, .int .i64 k], 57)] := ⟨Blk.new w _ _, trivial⟩
      have K := Lib.hid K0
      have F := Lib.hid F0
      clear K0 F0
      refine (CH.out _ K.out).mono ?_
      rintro e w2 ⟨rfl, k2⟩
      have KN := Lib.hid (K.out.trans k2)
      have FN := Lib.hid (F.out.same k2)
      clear K F k2
      have K := KN
      have F := FN
      clear KN FN
      obtain ⟨p0, f0, -⟩ := F.out.rules
      have z0 := F.out.1.lt
      go_wp2_with fail
      refine (HA.out _).mono ?_
      rintro e w3 ⟨rfl, k3⟩
      have KN := Lib.hid (K.out.trans k3)
      have FN := Lib.hid (F.out.same k3)
      clear K F k3
      have K := KN
      have F := FN
      clear KN FN
      clear p0 f0 z0
      obtain ⟨p0, f0, -⟩ := F.out.rules
      have z0 := F.out.1.lt
      go_wp2_with fail
      refine (SE.out _).mono ?_
      rintro e w4 ⟨a, c, rfl, hn4, ⟨-, hf4⟩, k4⟩
      have HF4 := Lib.hid (show Far w a from hf4.mono K.out.size)
      clear hf4
      have N4 := Lib.hid hn4
      have K4 := Lib.hid (K.out.trans k4)
      clear hn4 k4 p0 f0 z0
      go_wp2_with fail
      go_ret2
      exact ⟨a, c, rfl, ⟨N4.out, HF4.out⟩, K4.out⟩
  · rw [if_neg h0, if_neg h0]
    have g0 : ¬ (E : Int) = 0 := by omega
    go_enter Try.func70, Try.ntmps70
    go_wp2_with fail
    have K0 : Same w (w.alloc (.cells #[.int .i64 f, .int .i64 k] 57)) := (Kept.refl _ w).alloc _
    have F0 : Fr (w.alloc (.cells #[.int .i64 f, .int .i64 k] 57)) [(w.heap.size, #[.int .i64 f, .int .i64 k], 57)] := ⟨Blk.new w _ _, trivial⟩
    have K := Lib.hid K0
    have F := Lib.hid F0
    clear K0 F0
    refine (CH.out _ K.out).mono ?_
    rintro e w2 ⟨rfl, k2⟩
    have KN := Lib.hid (K.out.trans k2)
    have FN := Lib.hid (F.out.same k2)
    clear K F k2
    have K := KN
    have F := FN
    clear KN FN
    go_wp2_with fail
    go_ret2
    exact ⟨none, 0, rfl, ⟨.inl rfl, fun x hx => by cases hx⟩, K.out⟩

theorem wrs_snoc_ok (D : Dsk) (F : Nat) (cs : List (List Nat)) (c : List Nat) (h : (wrs D F cs).2 = 0) : wrs D F (cs ++ [c]) = writeD (wrs D F cs).1 ((F + cs.length : Nat) : Int) c := by
  induction cs generalizing D F with
  | nil =>
    simp only [List.nil_append, wrs, List.length_nil, Nat.add_zero]
    split
    · rename_i he; rw [Prod.ext_iff]; exact ⟨rfl, he.symm⟩
    · rfl
  | cons x cs ih =>
    simp only [List.cons_append, wrs] at h ⊢
    split at h
    · rename_i he
      rw [if_pos he, if_pos he, ih _ _ h, List.length_cons, show F + 1 + cs.length = F + (cs.length + 1) from by omega]
    · rename_i he; exact absurd h he
theorem wrs_err (D : Dsk) (F : Nat) (cs ds : List (List Nat)) (h : (wrs D F cs).2 ≠ 0) : wrs D F (cs ++ ds) = wrs D F cs := by
  induction cs generalizing D F with
  | nil => exact absurd rfl h
  | cons x cs ih =>
    simp only [List.cons_append, wrs] at h ⊢
    split
    · rename_i he
      rw [if_pos he] at h
      exact ih _ _ h
    · rfl
theorem wrs_len (D : Dsk) (F : Nat) (cs : List (List Nat)) : (wrs D F cs).1.s.length = D.s.length := by
  induction cs generalizing D F with
  | nil => rfl
  | cons x cs ih =>
    simp only [wrs]
    split
    · rw [ih, writeD_len]
    · exact writeD_len _ _ _
theorem take_chunks (L : List Nat) {i : Nat} (hi : i < 4) : (chunks L).take (i + 1) = (chunks L).take i ++ [chunk L i] := by
  rcases i with _ | _ | _ | _ | i
  · rfl
  · rfl
  · rfl
  · rfl
  · omega
theorem natsAt_chunk {w : World} {g o : Nat} {L : List Nat} (h : NatsAt w .u8 (some ⟨g, o, none⟩) L) (i : Nat) : NatsAt w .u8 (some ⟨g, o + i * 256, none⟩) (chunk L i) := (h.drop (i * 256)).take 256
set_option maxRecDepth 100000 in
set_option maxHeartbeats 1600000 in
theorem bl_write {w : World} {d bs cap m : Nat} {D : Dsk} (h : DiskIn w d bs cap m D) (f k n : Int) (a : Option Addr) (l c : Nat) (body : List Nat) (hl : l = body.length) (hb : Bts body) (hc : l ≤ c) (hat : NatsAt w .u8 a body) :
    Calls Try.prog 30 #[.pointer (some ⟨d, 0, none⟩), areaV f k, .int .i64 n, .slice a l c] w fun e w' => e = .returned (.int .i64 ((writeB D f k n body).2 : Nat)) ∧ DiskIn w' d bs cap m (writeB D f k n body).1 ∧ Kept (dod d bs m) w w' := by
  have H := Lib.hid h
  have l1 := h.box.lt; have l2 := h.safe.lt; have l3 := h.map.lt
  have AS := Lib.hid fun w' (kk : Same w w') => bl_asked (h.same kk) f k n
  have SL := Lib.hid fun w' (kk : Same w w') => cr_seal a l c body hl hb hc w' (hat.same kk)
  obtain ⟨E, hE⟩ : ∃ E, atA D.s.length f k n = E := ⟨_, rfl⟩
  obtain ⟨R, hR⟩ : ∃ R, writeB D f k n body = R := ⟨_, rfl⟩
  have hw : R = if E = 0 then (if body.length ≤ 1016 then wrs D (f + 4 * n).toNat (chunks (sealC body)) else (D, 5)) else (D, E) := by rw [← hR, ← hE]; rfl
  rw [hR]
  simp only [hE] at AS
  unfold areaV at AS ⊢
  clear hR h hat
  by_cases h0 : E = 0
  · subst h0
    rw [if_pos rfl] at hw
    obtain ⟨G, hG, hG1, hG2⟩ := secsA_eq hE
    rw [show (f + 4 * n).toNat = G from by omega] at hw
    simp only [if_true, hG] at AS
    clear hG hG1 hE
    by_cases hbig : body.length ≤ 1016
    · rw [if_pos hbig] at hw
      have hs : sealP body = (sealC body, 0) := if_pos hbig
      rw [hs] at SL
      have SC := Lib.hid (sealC_len hbig)
      have SB := Lib.hid (sealC_bts hbig hb)
      obtain ⟨L, hL⟩ : ∃ L, sealC body = L := ⟨_, rfl⟩
      rw [hL] at SL SC SB hw
      simp only [Int.natCast_zero] at SL AS
      have HW := Lib.hid hw
      clear hs hL hw hl hc
      go_enter Try.func30, Try.ntmps30
      go_wp2_with fail
      have K0 : Same w (w.alloc (.cells #[.int .i64 f, .int .i64 k] 57)) := (Kept.refl _ w).alloc _
      have F0 : Fr (w.alloc (.cells #[.int .i64 f, .int .i64 k] 57)) [(w.heap.size, #[.int .i64 f, .int .i64 k], 57)] := ⟨Blk.new w _ _, trivial⟩
      have K := Lib.hid K0
      have F := Lib.hid F0
      clear K0 F0
      refine (AS.out _ K.out).mono ?_
      rintro e w2 ⟨a2, c2, rfl, ⟨n2, f2⟩, k2⟩
      have N2 := Lib.hid n2
      have F2 := Lib.hid (show Far w a2 from f2.mono K.out.size)
      have KN := Lib.hid (K.out.trans k2)
      have FN := Lib.hid (F.out.same k2)
      clear K F k2
      have K := KN
      have F := FN
      clear KN FN
      clear n2 f2
      go_wp2_with fail
      refine (SL.out _ K.out).mono ?_
      rintro e w3 ⟨a3, c3, rfl, n3, hc3, f3, k3⟩
      have N3 := Lib.hid n3
      have hc4 : 1024 ≤ c3 := by have := SC.out; omega
      have F3 := Lib.hid (show ∀ x, a3 = some x → w.heap.size ≤ x.block from fun x hx => Nat.le_trans K.out.size (f3 x hx))
      have N2' := Lib.hid (N2.out.same k3)
      have KN := Lib.hid (K.out.trans k3)
      have FN := Lib.hid (F.out.same k3)
      clear K F k3
      have K := KN
      have F := FN
      clear KN FN
      clear n3 f3 N2 hc3
      dsimp only at N3 ⊢
      obtain ⟨gb, ob, rfl, hgb⟩ : ∃ gb ob, a3 = some ⟨gb, ob, none⟩ ∧ gb < w3.heap.size := by
        rcases N3.out with q | ⟨gb, ob, q, hlt, _⟩
        · have := SC.out; rw [q] at this; cases this
        · exact ⟨gb, ob, q, hlt⟩
      obtain ⟨gs, os, rfl, hgs⟩ : ∃ gs os, a2 = some ⟨gs, os, none⟩ ∧ gs < w3.heap.size := by
        rcases N2'.out with q | ⟨gs, os, q, hlt, _⟩
        · cases q
        · exact ⟨gs, os, q, hlt⟩
      have hgb1 := F3.out _ rfl
      have hgs1 := F2.out _ rfl
      dsimp only at hgb1 hgs1
      have hdb : ¬ dod d bs m gb := by rintro (q | q | q) <;> omega
      have hds : ¬ dod d bs m gs := by rintro (q | q | q) <;> omega
      have hLl : L.length = 1024 := SC.out
      rw [hLl]
      clear hLl
      have D0 : Hid (DiskIn w3 d bs cap m D) := H.out.same K.out
      have K0 : Hid (Kept (dod d bs m) w w3) := K.out.mono (fun _ _ q => q.elim)
      go_wp2_with fail
      go_loopw [35] (fun t wr => ∃ (i : Nat) (D' : Dsk), t = .int .i64 i ∧ i ≤ 4 ∧ wrs D G ((chunks L).take i) = (D', 0) ∧ DiskIn wr d bs cap m D' ∧ Kept (dod d bs m) w wr ∧ Kept (dod d bs m) w3 wr) (fun t _ => 4 - (intOf t).toNat)
      case atStart => exact ⟨0, D, rfl, by omega, rfl, D0.out, K0.out, Kept.refl _ _⟩
      case round =>
        clear D0 K0 F K
        obtain ⟨i, D', rfl, hi, hwr, hd, hk, hk3⟩ := hrel
        have DI := Lib.hid hd; have HK := Lib.hid hk; have HK3 := Lib.hid hk3; have HWR := Lib.hid hwr
        have NB := Lib.hid (N3.out.kept hk3 (fun x hx => by cases hx; exact hdb))
        have NS := Lib.hid (N2'.out.kept hk3 (fun x hx => by cases hx; exact hds))
        clear hd hk hk3 hwr
        by_cases hgo : i < 4
        · have h1 : (i : Int) < 4 := by omega
          have h0 : (0 : Int) ≤ (i : Int) := by omega
          have hci := nats_get NS.out (i := i) hgo
          have hgi : ([G, G + 1, G + 2, G + 3] : List Nat).getD i 0 = G + i := by
            rcases i with _ | _ | _ | _ | i
            · rfl
            · rfl
            · rfl
            · rfl
            · omega
          rw [hgi] at hci
          have hst := wrs_snoc_ok D G ((chunks L).take i) (chunk L i) (by rw [HWR.out])
          rw [← take_chunks L hgo, HWR.out, List.length_take, show min i (chunks L).length = i from by show min i 4 = i; omega] at hst
          have HST := Lib.hid hst
          have CL := Lib.hid (chunk_len SC.out hgo)
          have CB := Lib.hid (chunk_bts SB.out i)
          have NC := Lib.hid (natsAt_chunk NB.out i)
          have hsp : chunks L = (chunks L).take (i + 1) ++ (chunks L).drop (i + 1) := (List.take_append_drop _ _).symm
          obtain ⟨W, hW⟩ : ∃ W, writeD D' ((G + i : Nat) : Int) (chunk L i) = W := ⟨_, rfl⟩
          rw [hW] at hst
          have SW := Lib.hid (sd_write DI.out ((G + i : Nat) : Int) (some ⟨gb, ob + i * 256, none⟩) ((i + 1) * 256 - i * 256) (c3 - i * 256) (chunk L i) (by rw [CL.out]; omega) CB.out NC.out)
          rw [hW] at SW
          rw [Int.natCast_add] at SW
          by_cases hw0 : W.2 = 0
          · rw [hw0] at SW
            have HN : Hid (wrs D G ((chunks L).take (i + 1)) = (W.1, 0)) := by show _ = _; rw [hst, ← hw0]
            clear hgi hst hsp hW hw0 CL CB NC HST
            go_wp2_with fail
            refine SW.out.mono ?_
            rintro e w5 ⟨rfl, h5, k5⟩
            have D5 := Lib.hid h5
            have K5 := Lib.hid (HK.out.trans k5)
            have K6 := Lib.hid (HK3.out.trans k5)
            clear h5 k5 DI HK HK3
            go_wp2_with fail
            go_roundw
            case rel => exact ⟨i + 1, W.1, by go_num, by omega, HN.out, D5.out, K5.out, K6.out⟩
            case measure => simp [intOf]; omega
          · have HN : Hid (R = W) := by
              refine HW.out.trans ?_
              rw [hsp, wrs_err _ _ _ _ (by rw [hst]; exact hw0), hst]
            have gw : ¬ ((W.2 : Nat) : Int) = 0 := by omega
            clear hgi hst hsp hW CL CB NC HST
            go_wp2_with fail
            refine SW.out.mono ?_
            rintro e w5 ⟨rfl, h5, k5⟩
            have D5 := Lib.hid h5
            have K5 := Lib.hid (HK.out.trans k5)
            clear h5 k5 DI HK HK3
            go_wp2_with fail
            go_ret
            rw [HN.out]
            exact ⟨rfl, D5.out, K5.out⟩
        · have e : i = 4 := by omega
          subst e
          have HRR : Hid (R = (D', 0)) := HW.out.trans HWR.out
          go_wp2_with fail
          go_ret
          rw [HRR.out]
          exact ⟨rfl, DI.out, HK.out⟩
    · rw [if_neg hbig] at hw
      have hs : sealP body = ([], 5) := if_neg hbig
      rw [hs] at SL
      subst hw
      clear hs hl hc
      go_enter Try.func30, Try.ntmps30
      go_wp2_with fail
      have K0 : Same w (w.alloc (.cells #[.int .i64 f, .int .i64 k] 57)) := (Kept.refl _ w).alloc _
      have F0 : Fr (w.alloc (.cells #[.int .i64 f, .int .i64 k] 57)) [(w.heap.size, #[.int .i64 f, .int .i64 k], 57)] := ⟨Blk.new w _ _, trivial⟩
      have K := Lib.hid K0
      have F := Lib.hid F0
      clear K0 F0
      refine (AS.out _ K.out).mono ?_
      rintro e w2 ⟨a2, c2, rfl, ⟨-, -⟩, k2⟩
      have KN := Lib.hid (K.out.trans k2)
      have FN := Lib.hid (F.out.same k2)
      clear K F k2
      have K := KN
      have F := FN
      clear KN FN
      go_wp2_with fail
      refine (SL.out _ K.out).mono ?_
      rintro e w3 ⟨a3, c3, rfl, -, -, -, k3⟩
      have KN := Lib.hid (K.out.trans k3)
      have FN := Lib.hid (F.out.same k3)
      clear K F k3
      have K := KN
      have F := FN
      clear KN FN
      go_wp2_with fail
      go_ret
      exact ⟨rfl, H.out.same K.out, K.out.mono (fun _ _ q => q.elim)⟩
  · rw [if_neg h0] at hw
    have g0 : ¬ (E : Int) = 0 := by omega
    subst hw
    simp only [if_neg h0] at AS
    clear hl hc hE
    go_enter Try.func30, Try.ntmps30
    go_wp2_with fail
    have K0 : Same w (w.alloc (.cells #[.int .i64 f, .int .i64 k] 57)) := (Kept.refl _ w).alloc _
    have F0 : Fr (w.alloc (.cells #[.int .i64 f, .int .i64 k] 57)) [(w.heap.size, #[.int .i64 f, .int .i64 k], 57)] := ⟨Blk.new w _ _, trivial⟩
    have K := Lib.hid K0
    have F := Lib.hid F0
    clear K0 F0
    refine (AS.out _ K.out).mono ?_
    rintro e w2 ⟨a2, c2, rfl, ⟨-, -⟩, k2⟩
    have KN := Lib.hid (K.out.trans k2)
    have FN := Lib.hid (F.out.same k2)
    clear K F k2
    have K := KN
    have F := FN
    clear KN FN
    go_wp2_with fail
    go_ret
    exact ⟨rfl, H.out.same K.out, K.out.mono (fun _ _ q => q.elim)⟩
end Go.Proofs.Ytlmpkonfclnceaa
