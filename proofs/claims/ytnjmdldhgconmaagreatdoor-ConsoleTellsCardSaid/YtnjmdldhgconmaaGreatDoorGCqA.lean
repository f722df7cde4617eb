/- GCqA: Cq0, Cq1, Cq2, Cq3, Cq4. -/
import Derived.Test.YtnjmdldhgconmaaGreatDoorGCpB
import Derived.Lib.SplitLaws
namespace Go.Proofs.YtnjmdldhgconmaaGreatDoor
open Go.RowKit Go.Sort

set_option maxRecDepth 100000 in
set_option maxHeartbeats 1600000 in
theorem rd_step_none (B rb : Nat) (ws : List Tx) (ok : Bool) (w : World) (h : RdIn w B rb ws ok) (hz : rb < w.heap.size) (hB : B ≤ w.heap.size) (hn : ∀ k nm fs, shapeT k = some (nm, fs) → nm ≠ ws.headD []) :
    Calls Tryz.prog 30 #[.pointer (some ⟨rb, 0, none⟩)] w fun e w' => ∃ v, e = .returned v ∧ StpV B w' (stp0 0) v ∧ RdIn w' B rb ws.tail false ∧ Kept (fun k => k = rb) w w' := by
  have H := Lib.hid h
  obtain ⟨l, hl⟩ : ∃ l, ws.headD [] = l := ⟨_, rfl⟩
  have RW := Lib.hid (fun w h => rd_word B rb ws ok w h)
  rw [hl] at RW hn
  have q (k : Nat) (nm : Tx) (fs : List Fld) (e : shapeT k = some (nm, fs)) : (l == nm) = false := beq_eq_false_iff_ne.2 (fun h => hn k nm fs e h.symm)
  have q0 := q 0 _ _ rfl
  have q1 := q 1 _ _ rfl
  have q2 := q 2 _ _ rfl
  have q3 := q 3 _ _ rfl
  have q4 := q 4 _ _ rfl
  have q5 := q 5 _ _ rfl
  have q6 := q 6 _ _ rfl
  have q7 := q 7 _ _ rfl
  have q8 := q 8 _ _ rfl
  have q9 := q 9 _ _ rfl
  have q10 := q 10 _ _ rfl
  have q11 := q 11 _ _ rfl
  have q12 := q 12 _ _ rfl
  clear h hn hl q
  go_enter Tryz.func30, Tryz.ntmps30
  go_wp2_with fail
  have hy : w.heap.size ≠ rb := by omega
  have BY := Lib.hid (Blk.new w #[.int .u8 0, .int .i64 0, .string ⟨#[]⟩, .string ⟨#[]⟩, .int .i64 0, .bool false, .slice none 0 0] 27)
  have KA := Lib.hid (show Same w (w.alloc (.cells #[.int .u8 0, .int .i64 0, .string ⟨#[]⟩, .string ⟨#[]⟩, .int .i64 0, .bool false, .slice none 0 0] 27)) from (Kept.refl _ w).alloc _)
  obtain ⟨y, hyy⟩ : ∃ y, w.heap.size = y := ⟨_, rfl⟩
  have hBy : B ≤ y := by omega
  have KY := Lib.hid (show ∀ W : World, Kept (fun k => k = rb) w W → ∀ W', Kept (fun k => k = y) W W' → Kept (fun k => k = rb) w W' from fun W k W' k' => k.step k' (fun i hi e => by have e' : i = y := e; omega))
  rw [hyy] at BY hy
  rw [hyy]
  clear hyy
  refine (RW.out _ (H.out.same KA.out)).mono ?_
  rintro e w1 ⟨rfl, r1, k1⟩
  have R1 := Lib.hid r1; have K1 := Lib.hid (((KA.out.mono (fun _ _ h => h.elim) : Kept (fun k => k = rb) _ _)).trans k1); have B1 := Lib.hid (BY.out.kept k1 hy)
  clear r1 k1 H KA BY
  have p0 := cell_blk B1.out 0
  have f0 := Blk.free B1.out 0
  have p1 := cell_blk B1.out 1
  have f1 := Blk.free B1.out 1
  have p2 := cell_blk B1.out 2
  have f2 := Blk.free B1.out 2
  have p3 := cell_blk B1.out 3
  have f3 := Blk.free B1.out 3
  have p4 := cell_blk B1.out 4
  have f4 := Blk.free B1.out 4
  have p5 := cell_blk B1.out 5
  have f5 := Blk.free B1.out 5
  have p6 := cell_blk B1.out 6
  have f6 := Blk.free B1.out 6
  obtain ⟨a, c, hb, -⟩ := R1.out
  have pr := cell_blk hb 1
  have fr := Blk.free hb 1
  clear hb
  go_upto_region 30 with fail
  refine cutC (fun wn => RdIn wn B rb ws.tail false ∧ Kept (fun k => k = rb) w wn ∧ Blk wn y #[.int .u8 0, .int .i64 0, .string ⟨#[]⟩, .string ⟨#[]⟩, .int .i64 0, .bool false, .slice none 0 0] 27) ⟨R1.out.setOk false, K1.out.setCell (fun _ => rfl) _, B1.out.kept ((Kept.refl (fun k => k = rb) _).setCell (fun _ => rfl) _) hy⟩ ?_
  rintro w5 ⟨r5, k5, b5⟩
  clear pr fr R1 K1 B1 RW p0 f0 p1 f1 p2 f2 p3 f3 p4 f4 p5 f5 p6 f6
  have R1 := Lib.hid r5; have K1 := Lib.hid k5; have B1 := Lib.hid b5
  clear r5 k5 b5
  have p0 := cell_blk B1.out 0
  have f0 := Blk.free B1.out 0
  have p1 := cell_blk B1.out 1
  have f1 := Blk.free B1.out 1
  have p2 := cell_blk B1.out 2
  have f2 := Blk.free B1.out 2
  have p3 := cell_blk B1.out 3
  have f3 := Blk.free B1.out 3
  have p4 := cell_blk B1.out 4
  have f4 := Blk.free B1.out 4
  have p5 := cell_blk B1.out 5
  have f5 := Blk.free B1.out 5
  have p6 := cell_blk B1.out 6
  have f6 := Blk.free B1.out 6
  go_wp2_with fail
  refine bodyPost_ret (results_two rfl _ _ y 27 _ _ rfl (Blk.set7 B1.out) Tryz.underlying27 rfl (by kernel_rfl)) rfl ?_
  refine ⟨_, rfl, ⟨none, 0, by simp [stp0], .inl rfl, fun _ h => (nomatch h), fun _ => ⟨rfl, rfl⟩⟩, ?_, KY.out _ K1.out _ Kept.seven⟩
  exact R1.out.apart Kept.seven (fun e => hy e) hBy
end Go.Proofs.YtnjmdldhgconmaaGreatDoor

namespace Go.Proofs.YtnjmdldhgconmaaGreatDoor
open Go.RowKit Go.Sort

set_option maxRecDepth 100000 in
set_option maxHeartbeats 1600000 in
theorem rd_step_power (B rb : Nat) (r : List Tx) (ok : Bool) (w : World) (h : RdIn w B rb ([112, 111, 119, 101, 114] :: r) ok) (hz : rb < w.heap.size) (hB : B ≤ w.heap.size) (hl : ∀ x ∈ r, x.length ≤ 1000000) :
    Calls Tryz.prog 30 #[.pointer (some ⟨rb, 0, none⟩)] w fun e w' => ∃ v, e = .returned v ∧ StpV B w' (rdFs (r, ok, stp0 11) [.fl]).2.2 v ∧ RdIn w' B rb (rdFs (r, ok, stp0 11) [.fl]).1 (rdFs (r, ok, stp0 11) [.fl]).2.1 ∧ Kept (fun k => k = rb) w w' := by
  have H := Lib.hid h
  have HL := Lib.hid hl
  clear h hl
  go_enter Tryz.func30, Tryz.ntmps30
  go_wp2_with fail
  have hy : w.heap.size ≠ rb := by omega
  have BY := Lib.hid (Blk.new w #[.int .u8 0, .int .i64 0, .string ⟨#[]⟩, .string ⟨#[]⟩, .int .i64 0, .bool false, .slice none 0 0] 27)
  have KA := Lib.hid (show Same w (w.alloc (.cells #[.int .u8 0, .int .i64 0, .string ⟨#[]⟩, .string ⟨#[]⟩, .int .i64 0, .bool false, .slice none 0 0] 27)) from (Kept.refl _ w).alloc _)
  obtain ⟨y, hyy⟩ : ∃ y, w.heap.size = y := ⟨_, rfl⟩
  have hBy : B ≤ y := by omega
  have KY := Lib.hid (show ∀ W : World, Kept (fun k => k = rb) w W → ∀ W', Kept (fun k => k = y) W W' → Kept (fun k => k = rb) w W' from fun W k W' k' => k.step k' (fun i hi e => by have e' : i = y := e; omega))
  rw [hyy] at BY hy
  rw [hyy]
  clear hyy
  refine (rd_word B rb _ _ _ (H.out.same KA.out)).mono ?_
  rintro e w1 ⟨rfl, r1, k1⟩
  have R1 := Lib.hid r1; have K1 := Lib.hid (((KA.out.mono (fun _ _ h => h.elim) : Kept (fun k => k = rb) _ _)).trans k1); have B1 := Lib.hid (BY.out.kept k1 hy)
  clear r1 k1 H KA BY
  have p0 := cell_blk B1.out 0
  have f0 := Blk.free B1.out 0
  have p1 := cell_blk B1.out 1
  have f1 := Blk.free B1.out 1
  have p2 := cell_blk B1.out 2
  have f2 := Blk.free B1.out 2
  have p3 := cell_blk B1.out 3
  have f3 := Blk.free B1.out 3
  have p4 := cell_blk B1.out 4
  have f4 := Blk.free B1.out 4
  have p5 := cell_blk B1.out 5
  have f5 := Blk.free B1.out 5
  have p6 := cell_blk B1.out 6
  have f6 := Blk.free B1.out 6
  rw [show (ok && !(([112, 111, 119, 101, 114] : Tx) :: r == [])) = ok by simp] at R1
  go_wp2_with fail
  refine (rd_text B rb _ _ _ R1.out HL.out).mono ?_
  rintro e w2 ⟨rfl, r2, k2⟩
  obtain ⟨tx, htx⟩ : ∃ tx, (unwordT ((([112, 111, 119, 101, 114] : Tx) :: r).tail.headD [])).getD [] = tx := ⟨_, rfl⟩
  rw [htx]
  obtain ⟨cc, w3, hcv, hat, -, hk3⟩ := conv_byt tx w2
  obtain ⟨m, hm⟩ : ∃ m, w2.heap.size = m := ⟨_, rfl⟩
  have hmy : m ≠ y := by have h1 := B1.out.lt; have h2 := k2.size; omega
  have hBm : B ≤ m := by have h1 := B1.out.lt; have h2 := k2.size; omega
  rw [hm] at hat hcv
  have R2 := Lib.hid (r2.same hk3); have K2 := Lib.hid ((K1.out.trans k2).step hk3 (fun _ _ h => h.elim)); have B2 := Lib.hid ((B1.out.kept k2 hy).kept hk3 (fun h => h)); have AT := Lib.hid hat
  have HX := Lib.hid (show (rdFs (r, ok, stp0 11) [.fl]).2.2 = { stp0 11 with f := tx } from by rw [← htx]; rfl)
  clear r2 k2 R1 K1 B1 HL hm htx hk3 hat
  have R1 := R2; have K1 := K2; have B1 := B2
  clear R2 K2 B2
  clear p0 f0 p1 f1 p2 f2 p3 f3 p4 f4 p5 f5 p6 f6
  have p0 := cell_blk B1.out 0
  have f0 := Blk.free B1.out 0
  have p1 := cell_blk B1.out 1
  have f1 := Blk.free B1.out 1
  have p2 := cell_blk B1.out 2
  have f2 := Blk.free B1.out 2
  have p3 := cell_blk B1.out 3
  have f3 := Blk.free B1.out 3
  have p4 := cell_blk B1.out 4
  have f4 := Blk.free B1.out 4
  have p5 := cell_blk B1.out 5
  have f5 := Blk.free B1.out 5
  have p6 := cell_blk B1.out 6
  have f6 := Blk.free B1.out 6
  go_wp2_with fail
  refine bodyPost_ret (results_two rfl _ _ y 27 _ _ rfl (Blk.set7 B1.out) Tryz.underlying27 rfl (by kernel_rfl)) rfl ?_
  refine ⟨_, rfl, ?_, ?_, KY.out _ K1.out _ Kept.seven⟩
  · rw [HX.out]
    exact ⟨_, _, rfl, AT.out.kept Kept.seven (fun x e h => by cases e; exact hmy h), fun x e => by cases e; exact hBm, fun h => absurd rfl h⟩
  · exact R1.out.apart Kept.seven (fun e => hy e) hBy
end Go.Proofs.YtnjmdldhgconmaaGreatDoor

namespace Go.Proofs.YtnjmdldhgconmaaGreatDoor
open Go.RowKit Go.Sort

/-- What is read of words, told with what was left. -/
def readsTo (ws : List Tx) (r : RdSt) : Prop := parseW ws = if r.2.1 = true ∧ r.1 = [] then some r.2.2 else none
theorem reads_at {k : Nat} {nm : Tx} {fs : List Fld} (hs : shapeT k = some (nm, fs)) (r : List Tx) : readsTo (nm :: r) (rdFs (r, true, stp0 k) fs) := by
  unfold readsTo
  rw [parse_at hs, rd_put]
theorem rd_step (B rb : Nat) (l : Tx) (r : List Tx) (w : World) (h : RdIn w B rb (l :: r) true) (hz : rb < w.heap.size) (hB : B ≤ w.heap.size) (hl : ∀ x ∈ r, x.length ≤ 1000000) :
    Calls Tryz.prog 30 #[.pointer (some ⟨rb, 0, none⟩)] w fun e w' => ∃ v q, e = .returned v ∧ readsTo (l :: r) q ∧ StpV B w' q.2.2 v ∧ RdIn w' B rb q.1 q.2.1 ∧ Kept (fun k => k = rb) w w' := by
  by_cases hn : ∀ k nm fs, shapeT k = some (nm, fs) → nm ≠ l
  · refine (rd_step_none B rb (l :: r) true w h hz hB hn).mono ?_
    rintro e w' ⟨v, he, h1, h2, h3⟩
    refine ⟨v, (r, false, stp0 0), he, ?_, h1, h2, h3⟩
    unfold readsTo
    rw [parse_none (fun k fs e => hn k l fs e rfl)]
    simp
  · simp only [Classical.not_forall, Classical.not_not] at hn
    obtain ⟨k, nm, fs, hs, rfl⟩ := hn
    have hk := shape_lt hs
    have hr := reads_at hs r
    have key : ∀ {Q : Ending → World → Prop}, (Q = fun e w' => ∃ v, e = .returned v ∧ StpV B w' (rdFs (r, true, stp0 k) fs).2.2 v ∧ RdIn w' B rb (rdFs (r, true, stp0 k) fs).1 (rdFs (r, true, stp0 k) fs).2.1 ∧ Kept (fun k => k = rb) w w') → Calls Tryz.prog 30 #[.pointer (some ⟨rb, 0, none⟩)] w Q → Calls Tryz.prog 30 #[.pointer (some ⟨rb, 0, none⟩)] w fun e w' => ∃ v q, e = .returned v ∧ readsTo (nm :: r) q ∧ StpV B w' q.2.2 v ∧ RdIn w' B rb q.1 q.2.1 ∧ Kept (fun k => k = rb) w w' := by
      rintro Q rfl h
      exact h.mono fun e w' ⟨v, he, h1, h2, h3⟩ => ⟨v, _, he, hr, h1, h2, h3⟩
    match k, hs, @key with
    | 0, hs, key => cases hs; exact key rfl (rd_step_begin B rb r true w h hz hB hl)
    | 1, hs, key => cases hs; exact key rfl (rd_step_get B rb r true w h hz hB hl)
    | 2, hs, key => cases hs; exact key rfl (rd_step_put B rb r true w h hz hB hl)
    | 3, hs, key => cases hs; exact key rfl (rd_step_del B rb r true w h hz hB hl)
    | 4, hs, key => cases hs; exact key rfl (rd_step_scan B rb r true w h hz hB hl)
    | 5, hs, key => cases hs; exact key rfl (rd_step_commit B rb r true w h hz hB hl)
    | 6, hs, key => cases hs; exact key rfl (rd_step_abort B rb r true w h hz hB hl)
    | 7, hs, key => cases hs; exact key rfl (rd_step_flush B rb r true w h hz hB hl)
    | 8, hs, key => cases hs; exact key rfl (rd_step_checkpoint B rb r true w h hz hB hl)
    | 9, hs, key => cases hs; exact key rfl (rd_step_gc B rb r true w h hz hB hl)
    | 10, hs, key => cases hs; exact key rfl (rd_step_break B rb r true w h hz hB hl)
    | 11, hs, key => cases hs; exact key rfl (rd_step_power B rb r true w h hz hB hl)
    | 12, hs, key => cases hs; exact key rfl (rd_step_open B rb r true w h hz hB hl)
    | k + 13, hs, _ => cases hs
end Go.Proofs.YtnjmdldhgconmaaGreatDoor

namespace Go.Proofs.YtnjmdldhgconmaaGreatDoor
open Go.RowKit Go.Sort

/-- The cell that strings.Split asks about. -/
def MaxOK (w : World) : Prop := ∃ m, w.cell? ⟨0, 0, none⟩ = some (.int .i64 m)
theorem split_len32 (l : Tx) : ∀ x ∈ splitT l, x.length ≤ l.length := by
  induction l with
  | nil => intro x hx; simp [splitT] at hx; subst hx; simp
  | cons c r ih =>
    intro x hx
    by_cases hc : c = 32
    · rw [splitT, if_pos hc] at hx
      rcases List.mem_cons.1 hx with rfl | hx
      · simp
      · have := ih x hx; simp only [List.length_cons]; omega
    · cases hs : splitT r with
      | nil => exact absurd hs (split_ne r)
      | cons h t =>
        rw [splitT, if_neg hc, hs] at hx
        rw [hs] at ih
        rcases List.mem_cons.1 hx with rfl | hx
        · have := ih h (by simp); simp only [List.length_cons]; omega
        · have := ih x (by simp [hx]); simp only [List.length_cons]; omega
theorem co_split (l : Tx) (hl : l.length ≤ 1000000) (w : World) (hM : MaxOK w) :
    Calls Tryz.prog 29 #[encStr l, encStr [32]] w fun e w' => e = .returned (.slice (some ⟨w.heap.size, 0, none⟩) (splitT l).length (splitT l).length) ∧ WsAt w' (some ⟨w.heap.size, 0, none⟩) (splitT l) ∧ Same w w' := by
  obtain ⟨m, hm⟩ := hM
  refine (Tryz.strings_Split ⟨l.toArray⟩ ⟨#[32]⟩ m w (by show l.toArray.size < _; simp; omega) hm (by decide)).mono ?_
  rintro e w' ⟨rfl, rfl⟩
  obtain ⟨n, hn⟩ : ∃ n, Lib.countB (⟨l.toArray⟩ : ByteArray) ⟨#[32]⟩ = n := ⟨_, rfl⟩
  have hlen := Lib.splitB_all ⟨#[32]⟩ (by decide) 0 n ⟨l.toArray⟩ hn
  have hdat := Lib.splitB_data ⟨#[32]⟩ 0 n ⟨l.toArray⟩
  have hT : Lib.splitK [32] 0 n l = splitT l := by
    rw [← lib_split l.length l (Nat.le_refl _), ← hn]
    rfl
  have hd2 : (Lib.splitB ⟨#[32]⟩ 0 n ⟨l.toArray⟩).map (·.data.toList) = splitT l := hdat.trans hT
  have hL : (splitT l).length = n + 1 := by rw [← hd2, List.length_map, hlen]
  rw [hn]
  have hV : (Lib.splitB ⟨#[32]⟩ 0 n ⟨l.toArray⟩).map Value.string = (splitT l).map encStr := by
    rw [← hd2, List.map_map]
    apply List.map_congr_left
    intro b _
    rfl
  rw [hV]
  refine ⟨by rw [hL], .inr ⟨w.heap.size, 0, rfl, by simp, fun j x hx => ?_⟩, (Kept.refl _ w).alloc _⟩
  rw [cell_blk (Blk.new w _ _), Nat.zero_add]
  simp [hx]
end Go.Proofs.YtnjmdldhgconmaaGreatDoor

namespace Go.Proofs.YtnjmdldhgconmaaGreatDoor
open Go.RowKit Go.Sort

/-- What Parse tells. -/
def ParseV (B : Nat) (w : World) (l : Tx) (v : Value) : Prop := ∃ sv, v = .tuple #[sv, .bool (parseT l).isSome] ∧ StpV B w ((parseT l).getD (stp0 0)) sv
theorem MaxOK.same {w w' : World} (h : MaxOK w) (k : Same w w') : MaxOK w' := by
  obtain ⟨m, hm⟩ := h
  exact ⟨m, by rw [k.cell (p := ⟨0, 0, none⟩) (World.block_lt_of_cell? w _ hm) (fun h => h)]; exact hm⟩
set_option maxRecDepth 100000 in
set_option maxHeartbeats 1600000 in
theorem co_parse (l : Tx) (hl : l.length ≤ 1000000) (w : World) (hM : MaxOK w) :
    Calls Tryz.prog 10 #[encStr l] w fun e w' => ∃ v, e = .returned v ∧ ParseV w.heap.size w' l v ∧ Same w w' := by
  have SP := Lib.hid (fun w h => co_split l hl w h)
  have HM := Lib.hid hM
  clear hM
  go_enter Tryz.func10, Tryz.ntmps10
  go_wp2_with fail
  have KA := Lib.hid (show Same w (w.alloc (.cells #[.int .u8 0, .int .i64 0, .string ⟨#[]⟩, .string ⟨#[]⟩, .int .i64 0, .bool false, .slice none 0 0] 27)) from (Kept.refl _ w).alloc _)
  have BY := Lib.hid (Blk.new w #[.int .u8 0, .int .i64 0, .string ⟨#[]⟩, .string ⟨#[]⟩, .int .i64 0, .bool false, .slice none 0 0] 27)
  obtain ⟨y, hyy⟩ : ∃ y, w.heap.size = y := ⟨_, rfl⟩
  rw [hyy] at BY
  rw [hyy]
  refine (SP.out _ (HM.out.same KA.out)).mono ?_
  rintro e w2 ⟨rfl, hws, k2⟩
  have hsz : (w.alloc (.cells #[.int .u8 0, .int .i64 0, .string ⟨#[]⟩, .string ⟨#[]⟩, .int .i64 0, .bool false, .slice none 0 0] 27)).heap.size = y + 1 := by simp [hyy]
  rw [hsz] at hws
  go_upto_region 2 with fail
  have hg2 : y + 1 < w2.heap.size := by
    rcases hws with h | ⟨g, i, e, hg, -⟩
    · exact absurd h (split_ne l)
    · cases e; exact hg
  have hsl := split_len l
  obtain ⟨rb, hrb⟩ : ∃ rb, w2.heap.size = rb := ⟨_, rfl⟩
  refine cutC (fun wn => RdIn wn rb rb (splitT l) true ∧ Same w wn ∧ Blk wn y #[.int .u8 0, .int .i64 0, .string ⟨#[]⟩, .string ⟨#[]⟩, .int .i64 0, .bool false, .slice none 0 0] 27 ∧ rb < wn.heap.size ∧ y < rb) ⟨⟨_, _, Blk.new' _ _ _ hrb.symm, ?_, ?_, Nat.le_refl _, by simp only [maxLen]; omega⟩, (KA.out.trans k2).alloc _, ?_, by simp [hrb], by omega⟩ ?_
  · exact hws.kept ((Kept.refl (fun _ => False) w2).alloc _) (fun _ _ h => h)
  · intro x e
    cases e
    show y + 1 ≠ rb ∧ y + 1 < rb
    omega
  · exact (BY.out.kept k2 (fun h => h)).alloc _
  rintro w3 ⟨r3, k3, b3, hz3, hy3⟩
  rw [hrb]
  have R3 := Lib.hid r3; have K3 := Lib.hid k3; have B3 := Lib.hid b3
  clear hws k2 hg2 hrb r3 k3 b3 KA BY SP HM
  obtain ⟨x, r, hxr⟩ : ∃ x r, splitT l = x :: r := by
    cases h : splitT l with
    | nil => exact absurd h (split_ne l)
    | cons x r => exact ⟨x, r, rfl⟩
  have HL := Lib.hid (fun u (hu : u ∈ r) => Nat.le_trans (split_len32 l u (by rw [hxr]; simp [hu])) hl)
  rw [hxr] at R3
  have ST := Lib.hid (rd_step rb rb x r w3 R3.out hz3 (by omega) HL.out)
  have PT : Hid (parseW (x :: r) = parseT l) := by show _ = _; unfold parseT; rw [hxr]
  clear R3 HL hsl hsz
  go_wp2_with fail
  refine ST.out.mono ?_
  rintro e w4 ⟨v, q, rfl, hq, ⟨fa, fc, rfl, hf, hfb, hfk⟩, r4, k4⟩
  have HFB := Lib.hid hfb
  have HFK := Lib.hid hfk
  clear hfb hfk
  have b4 := B3.out.kept k4 (by omega)
  have hz4 := k4.size
  have K4 := Lib.hid (show Same w w4 from K3.out.step k4 (fun k hk e => by have e' : k = rb := e; omega))
  clear ST K3 B3
  go_upto_region 3 with fail
  obtain ⟨z, hz⟩ : ∃ z, w4.heap.size = z := ⟨_, rfl⟩
  obtain ⟨left, good, s⟩ := q
  simp only at r4 hf hq
  simp only
  refine cutC (fun wn => RdIn wn rb rb left good ∧ Same w wn ∧ Blk wn y #[.int .u8 0, .int .i64 0, .string ⟨#[]⟩, .string ⟨#[]⟩, .int .i64 0, .bool false, .slice none 0 0] 27 ∧ Blk wn z #[.int .u8 (s.k : Nat), .int .i64 s.txn, encStr s.key, encStr s.val, .int .i64 s.n, .bool s.d, .slice fa s.f.length fc] 27 ∧ NatsAt wn .u8 fa (natsU s.f)) ⟨r4.same ((Kept.refl _ _).alloc _), K4.out.alloc _, b4.alloc _, Blk.new' _ _ _ hz.symm, hf.same ((Kept.refl _ _).alloc _)⟩ ?_
  rintro w5 ⟨r5, k5, b5, c5, n5⟩
  rw [hz]
  have R5 := Lib.hid r5; have K5 := Lib.hid k5; have BY := Lib.hid b5; have BZ := Lib.hid c5; have NF := Lib.hid n5
  have hzy : z ≠ y := by omega
  clear r5 k5 b5 c5 n5 r4 hf b4 K4 hz4 k4 hz
  obtain ⟨ra, rc, hrb, -⟩ := R5.out
  have r0 := cell_blk hrb 0
  have r1 := cell_blk hrb 1
  clear hrb
  have p0 := cell_blk BY.out 0
  have f0 := Blk.free BY.out 0
  have p1 := cell_blk BY.out 1
  have f1 := Blk.free BY.out 1
  have p2 := cell_blk BY.out 2
  have f2 := Blk.free BY.out 2
  have p3 := cell_blk BY.out 3
  have f3 := Blk.free BY.out 3
  have p4 := cell_blk BY.out 4
  have f4 := Blk.free BY.out 4
  have p5 := cell_blk BY.out 5
  have f5 := Blk.free BY.out 5
  have p6 := cell_blk BY.out 6
  have f6 := Blk.free BY.out 6
  have z0 := cell_blk BZ.out 0
  have z1 := cell_blk BZ.out 1
  have z2 := cell_blk BZ.out 2
  have z3 := cell_blk BZ.out 3
  have z4 := cell_blk BZ.out 4
  have z5 := cell_blk BZ.out 5
  have z6 := cell_blk BZ.out 6
  unfold readsTo at hq
  rw [PT.out] at hq
  simp only at hq
  have HQ := Lib.hid hq
  clear hq PT
  cases good with
  | false =>
    have PN := Lib.hid (show parseT l = none by rw [HQ.out]; simp)
    clear HQ
    go_wp2_with fail
    refine bodyPost_ret (results_two_tmp rfl _ _ y 27 _ _ rfl (Blk.set7 BY.out) Tryz.underlying27 rfl (by kernel_rfl)) rfl ?_
    exact ⟨_, rfl, ⟨_, by rw [PN.out]; rfl, by rw [PN.out]; exact ⟨none, 0, rfl, .inl rfl, fun _ h => (nomatch h), fun _ => ⟨rfl, rfl⟩⟩⟩, K5.out.step Kept.seven (fun k hk e => by have e' : k = y := e; omega)⟩
  | true =>
    cases left with
    | nil =>
      have PN := Lib.hid (show parseT l = some s by rw [HQ.out]; simp)
      clear HQ
      go_wp2_with fail
      refine bodyPost_ret (results_two_tmp rfl _ _ y 27 _ _ rfl (Blk.set7 BY.out) Tryz.underlying27 rfl (by kernel_rfl)) rfl ?_
      exact ⟨_, rfl, ⟨_, by rw [PN.out]; rfl, by rw [PN.out]; exact ⟨_, _, rfl, NF.out.kept Kept.seven (fun x e h => by have h' : x.block = y := h; have := HFB.out x e; omega), fun x e => by have := HFB.out x e; omega, HFK.out⟩⟩, K5.out.step Kept.seven (fun k hk e => by have e' : k = y := e; omega)⟩
    | cons x' r' =>
      have PN := Lib.hid (show parseT l = none by rw [HQ.out]; simp)
      clear HQ
      go_wp2_with fail
      refine bodyPost_ret (results_two_tmp rfl _ _ y 27 _ _ rfl (Blk.set7 BY.out) Tryz.underlying27 rfl (by kernel_rfl)) rfl ?_
      exact ⟨_, rfl, ⟨_, by rw [PN.out]; rfl, by rw [PN.out]; exact ⟨none, 0, rfl, .inl rfl, fun _ h => (nomatch h), fun _ => ⟨rfl, rfl⟩⟩⟩, K5.out.step Kept.seven (fun k hk e => by have e' : k = y := e; omega)⟩
end Go.Proofs.YtnjmdldhgconmaaGreatDoor
