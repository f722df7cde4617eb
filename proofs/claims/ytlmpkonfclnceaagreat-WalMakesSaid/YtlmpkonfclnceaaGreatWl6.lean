/- A log in memory: the sectors of its ring. -/
import Derived.Test.YtlmpkonfclnceaaGreatWl5
namespace Go.Proofs.YtlmpkonfclnceaaGreat
open Go.RowKit Go.Sort

set_option maxRecDepth 100000 in
set_option maxHeartbeats 800000 in
/-- Read, and that what it gives is new. -/
theorem sd_readO {w : World} {d bs cap m : Nat} {D : Dsk} (h : DiskIn w d bs cap m D) (n : Int) :
    Calls Tryz.prog 53 #[.pointer (some ⟨d, 0, none⟩), .int .i64 n] w fun e w' =>
      ∃ a c, e = .returned (.tuple #[.slice a (readD D n).1.length c, .int .i64 ((readD D n).2 : Nat)]) ∧ NatsAt w' .u8 a (readD D n).1 ∧ (readD D n).1.length ≤ c ∧ (∀ y, a = some y → y = ⟨w.heap.size, 0, none⟩ ∧ w.heap.size < w'.heap.size) ∧ Same w w' := by
  have hA := Lib.hid (sd_at h n)
  have p0 := h.ptr
  simp only [cellsD] at p0
  have H := Lib.hid h
  obtain ⟨E, hE⟩ : ∃ E, errD D n = E := ⟨_, rfl⟩
  rw [hE] at hA
  have HE := Lib.hid hE
  clear h hE
  by_cases h0 : E = 0
  · subst h0
    obtain ⟨ho, hn0, hn1⟩ := errD_zero HE.out
    obtain ⟨N, hN⟩ : ∃ N : Nat, n = (N : Int) := ⟨n.toNat, by omega⟩
    subst hN
    have hN : N < D.s.length := by omega
    obtain ⟨x, hx⟩ : ∃ x, D.s[N]? = some x := ⟨_, List.getElem?_eq_getElem hN⟩
    have hxd : D.s.getD N sec0 = x := by rw [List.getD_eq_getElem?_getD, hx]; rfl
    have xok := H.out.ok.secs x (List.mem_of_getElem? hx)
    have er : readD D (N : Nat) = (x.has, 0) := by unfold readD; rw [if_pos HE.out, Int.toNat_natCast, hxd]
    have wf := waitF_at hx
    go_enter Tryz.func53, Tryz.ntmps53
    go_wp2_with fail
    refine hA.out.mono ?_
    rintro e W' ⟨rfl, rfl⟩
    clear hA
    cases hw : x.waits
    · rw [hw] at wf
      have l1 : (waitF D.s N).getD (.agg (secC zeros)) = .agg (secC zeros) := by rw [wf]; rfl
      have l2 : (waitF D.s N).isSome = false := by rw [wf]; rfl
      have hlk := H.out.map.look (P := Tryz.prog) Tryz.underlying71 Tryz.underlying3 N (zero_sec W') true
      rw [l1, l2, if_pos rfl] at hlk
      have hst := put_new W' (secC_size zeros_len) (secC_one _)
      have hld := run_loadAt_mid (P := Tryz.prog) (W'.alloc (.cells (secC zeros) 85)) bs (N * 256) 85 (encB x.safe) _ (World.rangeAt_alloc (H.out.safe.at_ N x hx) _) Tryz.underlying85 rfl (by rw [encB_len, xok.safeL]; kernel_rfl)
      have p1 := cell_blk (H.out.box.alloc (.cells (secC zeros) 85))
      simp only [cellsD] at p1
      have hst2 := put_new2 W' (C := secC zeros) (secC_size xok.safeL) (secC_size zeros_len) (secC_one _)
      have XO := Lib.hid xok; have ER := Lib.hid er; have XS := Lib.hid (xok.still hw)
      clear hx hxd l1 l2 wf xok er hw
      rw [show (encB x.safe).toArray = secC x.safe from rfl] at hld
      generalize hc1 : secC zeros = C1 at *
      generalize hc2 : secC x.safe = C2 at *
      have HC2 := Lib.hid hc2
      clear hc1 hc2
      go_wp2_with (first | (with_reducible refine wpList_storeRun hst rfl _ _ rfl rfl rfl ?_) | (with_reducible refine wpList_storeRun hst2 rfl _ _ rfl rfl rfl ?_) | (with_reducible refine wpList_loadRun hld rfl _ rfl rfl ?_))
      go_ret2
      rw [ER.out, XS.out]
      have e := HC2.out
      subst e
      exact ⟨some ⟨W'.heap.size, 0, none⟩, 256, by simp [XO.out.safeL], nats_new, by rw [XO.out.safeL]; decide, (fun y q => by cases q; exact ⟨rfl, by simp⟩), (Kept.refl _ W').alloc _⟩
    · rw [hw] at wf
      have l1 : (waitF D.s N).getD (.agg (secC zeros)) = .agg (secC x.has) := by rw [wf]; rfl
      have l2 : (waitF D.s N).isSome = true := by rw [wf]; rfl
      have hlk := H.out.map.look (P := Tryz.prog) Tryz.underlying71 Tryz.underlying3 N (zero_sec W') true
      rw [l1, l2, if_pos rfl] at hlk
      have hst := put_new W' (secC_size xok.hasL) (secC_one _)
      have XO := Lib.hid xok; have ER := Lib.hid er
      clear hx hxd l1 l2 wf xok er hw
      generalize hc2 : secC x.has = C2 at *
      have HC2 := Lib.hid hc2
      clear hc2
      go_wp2_with (with_reducible refine wpList_storeRun hst rfl _ _ rfl rfl rfl ?_)
      go_ret2
      rw [ER.out]
      have e := HC2.out
      subst e
      exact ⟨some ⟨W'.heap.size, 0, none⟩, 256, by simp [XO.out.hasL], nats_new, by rw [XO.out.hasL]; decide, (fun y q => by cases q; exact ⟨rfl, by simp⟩), (Kept.refl _ W').alloc _⟩
  · have er : readD D n = ([], E) := by unfold readD; rw [if_neg (by rw [HE.out]; exact h0), HE.out]
    have h0' : ¬ (E : Int) = 0 := by omega
    go_enter Tryz.func53, Tryz.ntmps53
    go_wp2_with fail
    refine hA.out.mono ?_
    rintro e W' ⟨rfl, rfl⟩
    clear hA
    go_wp2_with fail
    go_ret2
    rw [er]
    exact ⟨none, 0, rfl, .inl rfl, Nat.le_refl _, (fun y q => by cases q), Kept.refl _ _⟩

/-- The rows read so far. -/
structure RingAt (w wr : World) (g n : Nat) (bs : List (List Nat)) (i : Nat) (rs : List (Option Addr × Nat × Nat)) : Prop where
  own : OwnE rowE wr w.heap.size 29 (.slice (some ⟨g, 0, none⟩) n n) rs
  len : rs.length = n
  rows : ∀ (j : Nat) r b, j < i → rs[j]? = some r → bs[j]? = some b → RowOK wr r b ∧ ∀ y, r.1 = some y → w.heap.size ≤ y.block ∧ y.block < wr.heap.size ∧ y.block ≠ g
theorem RingAt.same {w wr w' : World} {g n i : Nat} {bs : List (List Nat)} {rs : List (Option Addr × Nat × Nat)} (h : RingAt w wr g n bs i rs) (k : Same wr w') : RingAt w w' g n bs i rs :=
  ⟨h.own.same k, h.len, fun j r b hj hr hb => ⟨(h.rows j r b hj hr hb).1.same k, fun y hy => ⟨((h.rows j r b hj hr hb).2 y hy).1, Nat.lt_of_lt_of_le ((h.rows j r b hj hr hb).2 y hy).2.1 k.size, ((h.rows j r b hj hr hb).2 y hy).2.2⟩⟩⟩
theorem RingAt.cell {w wr : World} {g n i k : Nat} {bs : List (List Nat)} {rs : List (Option Addr × Nat × Nat)} (h : RingAt w wr g n bs i rs) (hk : k < n) : ∃ v, wr.cell? ⟨g, k, none⟩ = some v := by
  obtain ⟨g', cap, cur, e, _, hb, h3, _, h5, _⟩ := h.own.read (fun q => by have := h.len; rw [q] at this; simp at this; omega)
  cases e
  refine ⟨_, (cell_blk hb k).trans (Array.getElem?_eq_getElem ?_)⟩
  have := h.len
  have e1 : rowE.n = 1 := rfl
  rw [h5, e1]
  omega
theorem RingAt.free {w wr : World} {g n i k : Nat} {bs : List (List Nat)} {rs : List (Option Addr × Nat × Nat)} (h : RingAt w wr g n bs i rs) (hk : k < n) : wr.frozen? ⟨g, k, none⟩ = false := by
  obtain ⟨g', cap, cur, e, _, hb, h3, _, h5, _⟩ := h.own.read (fun q => by have := h.len; rw [q] at this; simp at this; omega)
  cases e
  exact hb.free k
theorem RingAt.step {w wr : World} {g n i : Nat} {bs : List (List Nat)} {rs : List (Option Addr × Nat × Nat)} (h : RingAt w wr g n bs i rs) (hi : i < n) (r : Option Addr × Nat × Nat) (b : List Nat) (hb : bs[i]? = some b) (hok : RowOK wr r b) (hr : ∀ y, r.1 = some y → w.heap.size ≤ y.block ∧ y.block < wr.heap.size ∧ y.block ≠ g) :
    RingAt w (wr.setCell ⟨g, i, none⟩ (.slice r.1 r.2.1 r.2.2)) g n bs (i + 1) (rs.set i r) := by
  have kz : Kept (fun j => j = g) wr (wr.setCell ⟨g, i, none⟩ (.slice r.1 r.2.1 r.2.2)) := (Kept.refl _ _).setG _ _
  refine ⟨?_, by rw [List.length_set]; exact h.len, fun j r' b' hj hr' hb' => ?_⟩
  · have := h.own.set (k := i) (by rw [h.len]; exact hi) r
    simpa [rowE, World.setCells] using this
  · by_cases e : j = i
    · subst e
      rw [List.getElem?_set_self (by rw [h.len]; exact hi)] at hr'
      cases hr'
      rw [hb] at hb'
      cases hb'
      exact ⟨⟨hok.len, hok.cap, hok.at_.kept kz (fun y hy => (hr y hy).2.2)⟩, fun y hy => ⟨(hr y hy).1, Nat.lt_of_lt_of_le (hr y hy).2.1 kz.size, (hr y hy).2.2⟩⟩
    · rw [List.getElem?_set_ne (fun q => e q.symm)] at hr'
      have p := h.rows j r' b' (by omega) hr' hb'
      exact ⟨⟨p.1.len, p.1.cap, p.1.at_.kept kz (fun y hy => (p.2 y hy).2.2)⟩, fun y hy => ⟨(p.2 y hy).1, Nat.lt_of_lt_of_le (p.2 y hy).2.1 kz.size, (p.2 y hy).2.2⟩⟩
theorem rows_made {w : World} {base : Nat} {e : TypeId} {v : Value} {n : Nat} (h : w.ownsRow base e 1 v n (madeCells (Value.slice none 0 0).cells (n * 1)).toList) : OwnE rowE w base e v (List.replicate n (none, 0, 0)) := by
  rw [show (Value.slice none 0 0).cells = #[Value.slice none 0 0] from rfl, Nat.mul_one, toList_madeCells_one] at h
  have e1 : List.replicate n (Value.slice none 0 0) = rowE.all (List.replicate n (none, 0, 0)) := by
    clear h
    induction n with
    | zero => rfl
    | succ n ih => rw [List.replicate_succ, List.replicate_succ, Enc.all_cons, ← ih]; rfl
  unfold OwnE
  rw [List.length_replicate, ← e1]
  exact h
theorem ringS_get (D : Dsk) (f c i : Nat) (h : i < c) : (ringS D f c)[i]? = some (readD D ((f + i : Nat) : Int)).1 := by
  unfold ringS
  rw [List.getElem?_map, List.getElem?_range h]
  rfl
theorem ringS_len (D : Dsk) (f c : Nat) : (ringS D f c).length = c := by simp [ringS]
set_option maxRecDepth 100000 in
set_option maxHeartbeats 1600000 in
theorem wl_ring {w : World} {d bs cap m : Nat} {D : Dsk} (hd : DiskIn w d bs cap m D) (f c : Nat) (hf : f ≤ 5000) (hc : c ≤ 256) :
    Calls Tryz.prog 39 #[.agg #[.pointer (some ⟨d, 0, none⟩), .int .i64 f, .int .i64 c]] w fun e w' => (∃ a, e = .returned (.slice a c c) ∧ RowsAt w' a (ringS D f c)) ∧ Same w w' := by
  have HD := Lib.hid hd
  clear hd
  obtain ⟨w2, hw2⟩ : ∃ w2, w.alloc (.cells #[.pointer (some ⟨d, 0, none⟩), .int .i64 f, .int .i64 c] 77) = w2 := ⟨_, rfl⟩
  have kw2 : Same w w2 := by rw [← hw2]; exact (Kept.refl _ _).alloc _
  have hs2 : w2.heap.size = w.heap.size + 1 := by rw [← hw2]; simp
  obtain ⟨i0, hi, hz, hsz, hby⟩ := info_parts rowInfo
  obtain ⟨w3, hrun, hown, hgr⟩ := run_make_full (P := Tryz.prog) w2 w.heap.size 82 29 i0 (.slice none 0 0) 1 Tryz.underlying82 hi hz hsz .i64 .i64 c (by rw [hby]; omega) (by unfold maxLen; omega) kw2.size
  have ho := rows_made hown
  have hmk : (Instr.makeSlice 82 (.int .i64 c) (.int .i64 c)).run Tryz.prog w2 = .ok (.slice (some ⟨w2.heap.size, 0, none⟩) c c) w3 := hrun
  have k3 : Same w2 w3 := ⟨hgr.os, hgr.tape, hgr.output, hgr.size, fun k hk _ => hgr.block k hk (by simp)⟩
  have R3 : Hid (RingAt w w3 (w.heap.size + 1) c (ringS D f c) 0 (List.replicate c (none, 0, 0))) := by rw [← hs2]; exact ⟨ho, by simp, fun j r b hj => by omega⟩
  have F2 : Fr w2 [(w.heap.size, #[.pointer (some ⟨d, 0, none⟩), .int .i64 f, .int .i64 c], 77)] := ⟨by rw [← hw2]; exact Blk.new w _ _, trivial⟩
  have K3 := Lib.hid (kw2.trans k3)
  have F3 := Lib.hid (F2.same k3)
  obtain ⟨p0, f0, -⟩ := F3.out.rules
  have z0 := F3.out.1.lt
  rw [hs2] at hmk
  rw [← hw2] at hmk
  clear hi hz hsz hby hgr hown ho hrun k3 kw2 hs2 hw2 F2
  go_enter Tryz.func39, Tryz.ntmps39
  go_wp2_with fail
  clear p0 f0 z0 hmk
  go_loopw [10] (fun t wr => ∃ (i : Nat) (rs : List (Option Addr × Nat × Nat)), t = .int .i64 i ∧ i ≤ c ∧ RingAt w wr (w.heap.size + 1) c (ringS D f c) i rs ∧ Fr wr [(w.heap.size, #[.pointer (some ⟨d, 0, none⟩), .int .i64 f, .int .i64 c], 77)] ∧ Same w wr) (fun t _ => c - (intOf t).toNat)
  case atStart => exact ⟨0, _, rfl, by omega, R3.out, F3.out, K3.out⟩
  case round =>
    clear R3 F3 K3
    obtain ⟨i, rs, rfl, hi, hr, hfr, hk⟩ := hrel
    have R := Lib.hid hr; have FR := Lib.hid hfr; have K := Lib.hid hk
    obtain ⟨p0, f0, -⟩ := hfr.rules
    have z0 := hfr.1.lt
    have hks := hk.size
    have z1 := (hr.own.far (w.heap.size + 1) rfl).2
    clear hr hfr hk
    by_cases hgo : i < c
    · have g1 : (i : Int) < (c : Int) := by omega
      have g0 : (0 : Int) ≤ (i : Int) := by omega
      have ex1 : IntKind.i64.wrap ((f : Int) + (i : Int)) = (f : Int) + (i : Int) := IntWalk.i64_in _ (by omega)
      have SR := Lib.hid (sd_readO (HD.out.same K.out) ((f : Int) + (i : Int)))
      obtain ⟨W, hW⟩ : ∃ W, readD D ((f : Int) + (i : Int)) = W := ⟨_, rfl⟩
      have hb : (ringS D f c)[i]? = some W.1 := by rw [ringS_get D f c i hgo, ← hW, Int.natCast_add]
      rw [hW] at SR
      have HB := Lib.hid hb
      clear hW hb
      go_wp2_with fail
      with_reducible refine SR.out.mono ?_
      rintro e w5 ⟨a5, c5, rfl, n5, l5, o5, k5⟩
      have N5 := Lib.hid n5; have L5 := Lib.hid l5; have O5 := Lib.hid o5; have K5 := Lib.hid k5
      have R5 := Lib.hid (R.out.same k5)
      have F5 := Lib.hid (FR.out.same k5)
      clear p0 f0 z0 n5 l5 o5 k5 SR
      obtain ⟨p0, f0, -⟩ := F5.out.rules
      have z0 := F5.out.1.lt
      have z5 := (R5.out.own.far (w.heap.size + 1) rfl).2
      obtain ⟨v5, cel5⟩ := R5.out.cell hgo
      have fre5 := R5.out.free hgo
      go_wp2_with fail
      go_roundw
      case rel =>
        have hW5 : RingAt w (w5.setCell ⟨w.heap.size + 1, i, none⟩ (.slice a5 W.1.length c5)) (w.heap.size + 1) c (ringS D f c) (i + 1) (rs.set i (a5, W.1.length, c5)) := by
          refine R5.out.step hgo (a5, W.1.length, c5) W.1 HB.out ⟨rfl, L5.out, N5.out⟩ (fun y hy => ?_)
          obtain ⟨rfl, hlt⟩ := O5.out y hy
          exact ⟨hks, hlt, by dsimp only; omega⟩
        have kz : Kept (fun j => j = w.heap.size + 1) w5 (w5.setCell ⟨w.heap.size + 1, i, none⟩ (.slice a5 W.1.length c5)) := (Kept.refl _ _).setG _ _
        exact ⟨i + 1, _, by go_num, by omega, hW5, F5.out.kept kz (by intro y hy; simp at hy; subst hy; dsimp only; omega), (K.out.trans K5.out).step kz (fun j hj q => by omega)⟩
      case measure => simp [intOf]; omega
    · have hie : i = c := by omega
      subst hie
      have g1 : ¬ (i : Int) < (i : Int) := by omega
      go_wp2_with fail
      go_ret
      refine ⟨⟨_, rfl, rs, R.out.own.at.1, by rw [R.out.len, ringS_len], fun j r b hr hb => ?_⟩, K.out⟩
      exact (R.out.rows j r b (by have := (List.getElem?_eq_some_iff.1 hb).1; rw [ringS_len] at this; exact this) hr hb).1
end Go.Proofs.YtlmpkonfclnceaaGreat
