/- GEs: EvSe, EvSo. -/
import Derived.Test.YtlkgdpdnhnakoaaGreatDoorMapI
import Derived.Test.YtlkgdpdnhnakoaaGreatDoorAuto
import Derived.Test.YtlkgdpdnhnakoaaGreatDoorGEvA
import Derived.Deep.MidRow
import Derived.Test.YtlkgdpdnhnakoaaGreatDoorProg
import Derived.Deep.RegionHeld3
import Derived.Shelf.Abstract
import Derived.Deep.WholeRow
import Derived.Test.YtlkgdpdnhnakoaaGreatDoorGEvC
namespace Go.Proofs.YtlkgdpdnhnakoaaGreatDoor
open Go.RowKit
/-- Block b has so many cells, as e says; rows of 256 of them, from o on. -/
structure RowsY (w : World) (b o N : Nat) (ty : TypeId) (fz : Nat × Nat) (sz : Nat) (e : Nat → Option Value) : Prop where
  is : ∃ c, w.heap[b]? = some (.cells c ty fz) ∧ c.size = sz ∧ ∀ k, c[k]? = e k
  fits : o + N * 256 ≤ sz
  free : fz.1 = fz.2 ∨ sz ≤ fz.1
theorem RowsY.lt {w : World} {b o N : Nat} {ty : TypeId} {fz : Nat × Nat} {sz : Nat} {e : Nat → Option Value} (h : RowsY w b o N ty fz sz e) : b < w.heap.size := by
  obtain ⟨c, hc, _⟩ := h.is
  exact lt_of_block hc
theorem RowsY.kept {w w' : World} {fp : Nat → Prop} {b o N : Nat} {ty : TypeId} {fz : Nat × Nat} {sz : Nat} {e : Nat → Option Value} (h : RowsY w b o N ty fz sz e) (k : Kept fp w w') (hn : ¬ fp b) : RowsY w' b o N ty fz sz e := by
  obtain ⟨c, hc, q⟩ := h.is
  exact ⟨⟨c, k.obj hc hn, q⟩, h.fits, h.free⟩
theorem RowsY.congr {w : World} {b o N : Nat} {ty : TypeId} {fz : Nat × Nat} {sz : Nat} {e e' : Nat → Option Value} (h : RowsY w b o N ty fz sz e) (q : ∀ k, e k = e' k) : RowsY w b o N ty fz sz e' := by
  have : e = e' := funext q
  subst this; exact h
theorem RowsY.room {w : World} {b o N : Nat} {ty : TypeId} {fz : Nat × Nat} {sz : Nat} {e : Nat → Option Value} (h : RowsY w b o N ty fz sz e) {n : Nat} (hn : n < N) : w.there b (o + n * 256) 256 := fun j hj => by
  obtain ⟨c, hc, hz, _⟩ := h.is
  have h1 := h.fits
  have h2 := h.free
  have : (n + 1) * 256 ≤ N * 256 := Nat.mul_le_mul_right _ hn
  refine ⟨?_, ?_⟩
  · simp only [World.cell?, hc]
    rw [Array.getElem?_eq_getElem (by omega)]; rfl
  · have : ¬(fz.1 ≤ o + n * 256 + j ∧ o + n * 256 + j < fz.2) := by omega
    simp only [World.frozen?, hc]
    simpa using this
theorem setCells_blkY {b : Nat} {ty : TypeId} {fz : Nat × Nat} : ∀ (vs : List Value) (w : World) (c : Array Value) (o : Nat), w.heap[b]? = some (.cells c ty fz) → (w.setCells b o vs).heap[b]? = some (.cells (Ev.setRun c o vs) ty fz)
  | [], w, c, o, h => h
  | v :: vs, w, c, o, h => by
    refine setCells_blkY vs _ _ _ ?_
    rw [Ev.setCell_blk h]
    exact Ev.setBlk_self h
theorem RowsY.put {w : World} {b o N : Nat} {ty : TypeId} {fz : Nat × Nat} {sz : Nat} {e : Nat → Option Value} (h : RowsY w b o N ty fz sz e) {n : Nat} (hn : n < N) {y : List Value} (hy : y.length = 256) :
    RowsY (w.setCells b (o + n * 256) y) b o N ty fz sz (fun k => if o + n * 256 ≤ k ∧ k < o + n * 256 + 256 then y[k - (o + n * 256)]? else e k) := by
  obtain ⟨c, hc, hz, hq⟩ := h.is
  have h1 := h.fits
  have : (n + 1) * 256 ≤ N * 256 := Nat.mul_le_mul_right _ hn
  refine ⟨⟨_, setCells_blkY y w c _ hc, by rw [Ev.setRun_size]; exact hz, fun k => ?_⟩, h.fits, h.free⟩
  rw [Ev.setRun_get _ _ _ _ (by omega), hy, hq]
theorem Kept.setCellsY {fp : Nat → Prop} {a w : World} (h : Kept fp a w) {b : Nat} (hb : b < a.heap.size → fp b) (vs : List Value) : ∀ o, Kept fp a (w.setCells b o vs) := by
  induction vs generalizing w with
  | nil => intro o; exact h
  | cons v vs ih => intro o; exact ih (h.setCell (p := ⟨b, o, none⟩) hb v) (o + 1)
/-- What lies there while the entries that are left are still to come. -/
def midY (o : Nat) (hs : Nat → Option (List Value)) (e : Nat → Option Value) (left : Nat → Bool) (k : Nat) : Option Value :=
  if o ≤ k then (match hs ((k - o) / 256), left ((k - o) / 256) with
    | some y, false => y[(k - o) % 256]?
    | _, _ => e k) else e k
def waitY (hs : Nat → Option (List Value)) (n : Nat) : Option Value := (hs n).map fun l => .agg l.toArray
theorem midY_start (o : Nat) (hs : Nat → Option (List Value)) (e : Nat → Option Value) (k : Nat) : e k = midY o hs e (fun n => (waitY hs n).isSome) k := by
  unfold midY waitY
  split
  · cases h : hs ((k - o) / 256) <;> simp [h]
  · rfl
theorem midY_step {o : Nat} {hs : Nat → Option (List Value)} {e : Nat → Option Value} {left : Nat → Bool} {n : Nat} {y : List Value} (h : hs n = some y) (k : Nat) :
    (if o + n * 256 ≤ k ∧ k < o + n * 256 + 256 then y[k - (o + n * 256)]? else midY o hs e left k) = midY o hs e (fun j => left j && !decide (j = n)) k := by
  unfold midY
  by_cases hk : o ≤ k
  · rw [if_pos hk, if_pos hk]
    by_cases hn : (k - o) / 256 = n
    · rw [if_pos (by omega)]
      subst hn
      rw [h]
      simp only [decide_true, Bool.not_true, Bool.and_false]
      rw [show k - (o + (k - o) / 256 * 256) = (k - o) % 256 by omega]
    · rw [if_neg (by omega)]
      simp [hn]
  · rw [if_neg hk, if_neg hk, if_neg (by omega)]
theorem midY_end {o : Nat} {hs : Nat → Option (List Value)} {e : Nat → Option Value} {left : Nat → Bool} (hl : ∀ n, left n = false) (k : Nat) : midY o hs e left k = midY o hs e (fun _ => false) k := by
  unfold midY
  simp only [hl]
section
variable {P : Program} {w : World} {ops : Array Oper} {rest : List Oper} {o : Oper} {a : Act} {Q : Exit → Act → World → Prop}
/-- A store, as it runs. -/
theorem wpList_storeRunY {ty : TypeId} {p v : Value} {w' : World} (hrun : (Instr.storeAt ty p v).run P w = .ok () w') (hg : o.guard = none) (x y : Operand) (hop : o.op = .store ty x y) (hx : a.eval x = p) (hy : a.eval y = v)
    (hK : wpList P ops Q rest (a.put o.dst undef) w') : wpList P ops Q (o :: rest) a w :=
  wpList_plain hg fun _ hk => by
    unfold Oper.wp execOp
    simp only [hop, hx, hy, hrun, Sem.run_bind, Sem.run_pure, Result.andThen_ok]
    exact hk _ _ hK
end
theorem zeroY_size : Tryz.zeroCells161.size = 256 := by kernel_rfl
theorem secY_size (w : World) {C : List Value} (h : C.length = 256) (h1 : ∀ v ∈ C, v.oneCell' = true) : (Instr.storeAt 161 (.pointer (some ⟨w.heap.size, 0, none⟩)) (.agg C.toArray)).run Tryz.prog (w.alloc (.cells Tryz.zeroCells161 161)) = .ok () (w.alloc (.cells C.toArray 161)) :=
  run_storeAt_new w _ _ _ (by rw [List.size_toArray, h]; kernel_rfl) (zeroY_size.trans (by rw [List.size_toArray, h])) (all_oneCell_toArray h1)
set_option maxRecDepth 100000 in
set_option maxHeartbeats 1000000 in
theorem sd_settleY {w : World} {d od bs ob N cap m c0 : Nat} {es0 : Array MapEntry} {ty : TypeId} {fz : Nat × Nat} {sz : Nat} {e : Nat → Option Value} {hs : Nat → Option (List Value)}
    (h0 : w.cell? ⟨d, od, none⟩ = some (.slice (some ⟨bs, ob, none⟩) N cap)) (h1 : w.cell? ⟨d, od + 1, none⟩ = some (.map (some m))) (hR : RowsY w bs ob N ty fz sz e) (hm : w.heap[m]? = some (.map es0 c0)) (hE : EntsI es0 c0 (waitY hs))
    (hh : ∀ n y, hs n = some y → n < N ∧ y.length = 256 ∧ ∀ v ∈ y, v.oneCell' = true) (hdb : d ≠ bs) (hdl : d < w.heap.size) (hmb : m ≠ bs) :
    Calls Tryz.prog 84 #[.pointer (some ⟨d, od, none⟩)] w fun e' w' => e' = .returned (.tuple #[]) ∧ RowsY w' bs ob N ty fz sz (midY ob hs e (fun _ => false)) ∧ w'.heap[m]? = some (.map #[] c0) ∧ Kept (fun j => j = bs ∨ j = m) w w' := by
  have hM : MapI w m (waitY hs) := ⟨es0, c0, hm, hE⟩
  have l1 := hM.ne_cell h0
  have l2 := hR.lt
  have l3 := hM.lt
  have HM := Lib.hid hM; have HR := Lib.hid hR; have HO := Lib.hid hm; have HH := Lib.hid hh; have H0 := Lib.hid h0; have H1 := Lib.hid h1; have HDB := Lib.hid hdb; have HMB := Lib.hid hmb; have L1 := Lib.hid l1
  clear hM hR hm hh hE hdb hmb l1
  go_enter Tryz.func84, Tryz.ntmps84
  go_wp2_with (at_range; refine wpList_rangeI _ rfl _ _ rfl Tryz.underlying86 rfl HM.out ?_; intro w0 cnt0 hrg0 hk0 hz0)
  go_frame
  go_loopw [9] (fun _ wr => ∃ (left : Nat → Bool) (cnt : Nat), RangesI wr m w.heap.size (waitY hs) left cnt ∧ RowsY wr bs ob N ty fz sz (midY ob hs e left) ∧ Kept (fun j => j = bs) w wr) (fun _ wr => wr.rangeLeft m w.heap.size)
  case atStart => exact ⟨_, _, hrg0, (HR.out.kept hk0 (fun h => h)).congr (fun k => midY_start _ _ _ _), hk0.mono (fun _ _ h => h.elim)⟩
  case round =>
    clear h0 h1 hrg0 hk0
    obtain ⟨left, cnt, hrg, hsf, hk⟩ := hrel
    have p0 : wr.cell? ⟨d, od, none⟩ = some (.slice (some ⟨bs, ob, none⟩) N cap) := by rw [hk.cell (p := ⟨d, od, none⟩) hdl HDB.out]; exact H0.out
    have p1 : wr.cell? ⟨d, od + 1, none⟩ = some (.map (some m)) := by rw [hk.cell (p := ⟨d, od + 1, none⟩) hdl HDB.out]; exact H1.out
    have RG := Lib.hid hrg; have SF := Lib.hid hsf; have K := Lib.hid hk
    clear hrg hsf hk
    go_wp2_with (at_next; refine wpList_nextI _ rfl _ rfl rfl RG.out ?_ ?_)
    · intro hl0
      have hb := (K.out.obj HO.out (by exact HMB.out))
      have hcl : (Builtin.clear_ #[86] 0 #[.map (some m)]).run Tryz.prog wr = .ok (.tuple #[]) (Go.ChangeMaps.setBlock wr m (.map #[] c0)) := by
        simp [Builtin.clear_, run_underlying Tryz.underlying86, Go.MapKept.run_getObj_map hb, Go.MapKept.run_setObj_map _ hb, Result.andThen]
        rfl
      have HK := Lib.hid (Kept.setBlock hb (.map #[] c0)); have HB := Lib.hid (Go.ChangeMaps.heap_setBlock_same hb (.map #[] c0))
      clear hb
      go_wp2_with fail
      go_end0
      refine ⟨rfl, ?_, HB.out, (K.out.mono (fun _ _ q => .inl q)).trans (HK.out.mono (fun _ _ q => .inr q))⟩
      refine (SF.out.congr (fun n => midY_end hl0 n)).kept HK.out (fun q => HMB.out q.symm)
    · intro n v w1 cnt1 hf hlf hrg1 hlt hz1 hk1 hen
      obtain ⟨y, hsn⟩ : ∃ y, hs n = some y := by
        cases hq : hs n with
        | none => simp [waitY, hq] at hf
        | some y => exact ⟨y, rfl⟩
      obtain ⟨hn, hy256, hy1⟩ := HH.out n y hsn
      have hv : v = .agg y.toArray := by
        have := hf
        unfold waitY at this
        rw [hsn] at this
        exact (Option.some.inj this).symm
      subst hv
      have z9 := RG.out.lt
      have l9 := K.out.size
      have s1 := SF.out.kept hk1 (by omega)
      have k1 := K.out.step hk1 (fq := fun j => j = w.heap.size) (fun i hi q => by omega)
      have b0 : w1.cell? ⟨d, od, none⟩ = some (.slice (some ⟨bs, ob, none⟩) N cap) := by rw [hk1.cell (p := ⟨d, od, none⟩) (by dsimp only; omega) (by dsimp only; omega)]; exact p0
      have hst := secY_size w1 hy256 hy1
      have hi : (Tryz.prog.info? 161).map (·.size) = some y.length := by rw [hy256]; kernel_rfl
      have hn0 : (0 : Int) ≤ (n : Int) := by omega
      have hn1 : (n : Int) < (N : Int) := by omega
      have k2 : Kept (fun _ => False) w1 (w1.alloc (.cells y.toArray 161)) := (Kept.refl _ w1).alloc _
      have s2 := s1.kept k2 (fun h => h)
      have r2 := hrg1.kept k2 (fun h => h) (fun h => h)
      have c2 : (w1.alloc (.cells y.toArray 161)).cell? ⟨d, od, none⟩ = some (.slice (some ⟨bs, ob, none⟩) N cap) := by rw [k2.cell (p := ⟨d, od, none⟩) (by dsimp only; omega) (fun h => h)]; exact b0
      have n2 : (w1.alloc (.cells y.toArray 161)).rangeAt w1.heap.size 0 y := by
        intro j u hu
        rw [Nat.zero_add, cell_blk (Blk.new w1 _ _)]
        simpa using hu
      have z3 : w.heap.size < w1.heap.size := by have := RG.out.lt; omega
      have lm := RG.out.left_eq
      have HY := Lib.hid hsn; have R2 := Lib.hid r2; have S2 := Lib.hid s2; have K2 := Lib.hid (k1.trans (k2.mono (fun _ _ h => h.elim))); have LM := Lib.hid lm; have LT := Lib.hid hlt
      clear hz1 hf hlf hrg1 hk1 hsn s1 k1 s2 r2 lm hlt RG SF K p0 p1 z9 l9
      go_wp2_with (with_reducible refine wpList_storeRunY hst rfl _ _ rfl rfl rfl ?_)
      clear hst hen b0
      have zz : (w1.alloc (.cells y.toArray 161)).heap.size = w1.heap.size + 1 := by simp
      generalize w1.alloc (.cells y.toArray 161) = w2 at *
      have t2 := S2.out.room hn
      have hu := Tryz.underlying161
      have q2 : (w2.drew.setCells bs (ob + n * 256) y).cell? ⟨d, od, none⟩ = some (.slice (some ⟨bs, ob, none⟩) N cap) := by
        rw [World.cell?_setCells_out _ _ _ _ _ (fun hb => absurd hb HDB.out)]
        exact c2
      have q3 := World.rangeAt_setCells_apart (w := w2.drew) n2 bs (ob + n * 256) y (.inl (by omega))
      have q4 := World.there_setCells (w := w2.drew) t2 bs (ob + n * 256) y
      go_region_held3 (fun w' => w'.cell? ⟨d, od, none⟩ = some (.slice (some ⟨bs, ob, none⟩) N cap) ∧ w'.rangeAt w1.heap.size 0 y ∧ w'.there bs (ob + n * 256) 256)
        (first | exact ⟨c2, n2, t2⟩ | exact ⟨q2, q3, q4⟩ | go_keep_ranges)
        (fail)
      go_wp2_with fail
      have k4 : Kept (fun j => j = bs) w2 (w2.drew.setCells bs (ob + n * 256) y) := (Kept.refl (fun j => j = bs) w2).drew.setCellsY (fun _ => rfl) _ _
      have r4 := R2.out.kept k4 HMB.out (by omega)
      go_roundw
      case rel =>
        refine ⟨_, cnt1, r4, ?_, K2.out.trans k4⟩
        have hsf := (show RowsY w2.drew bs ob N ty fz sz (midY ob hs e left) from S2.out.kept (Kept.refl (fun _ => False) w2).drew (fun h => h)).put hn hy256
        refine hsf.congr (fun j => ?_)
        rw [← midY_step HY.out j]
      case measure => rw [r4.left_eq, LM.out]; exact LT.out
end Go.Proofs.YtlkgdpdnhnakoaaGreatDoor
namespace Go.Proofs.YtlkgdpdnhnakoaaGreatDoor
namespace Ev
variable {X : Type} {E : Xs X} {G : Nat}
/-- No entry at this key, nor of this birth. -/
def freshE (n b : Nat) : List (Ce × A0 × Nat) → Bool
  | [] => true
  | (.I _ (.ofNat m), _, c) :: l => match Nat.beq n m, Nat.beq b c with
    | false, false => freshE n b l
    | _, _ => false
  | _ => false
/-- Entries keyed by sectors' numbers, each with a sector. -/
def waitsE (N clock : Nat) : List (Ce × A0 × Nat) → Bool
  | [] => true
  | (.I .i64 (.ofNat n), .G cs, b) :: l => match Nat.ble (Nat.succ n) N, Nat.beq cs.length (nat_lit 256), Nat.ble (Nat.succ b) clock, freshE n b l with
    | true, true, true, true => waitsE N clock l
    | _, _, _, _ => false
  | _ => false
noncomputable def layE (o : Nat) : List (Ce × A0 × Nat) → T Ce → T Ce
  | [], t => t
  | (.I _ (.ofNat n), .G cs, _) :: l, t => (T.putL cs t (Nat.add o (Nat.mul n (nat_lit 256)))).seq fun t => tick (layE o l t)
  | _ :: l, t => tick (layE o l t)
noncomputable def settleO (args : List AV) (h : Hp X) : Option (AV × Hp X) := match args with
  | [.V (.C (.P (some (d, o))))] => match h.t.get d with
    | some (.cells td nd _) => match Nat.ble (Nat.add o (nat_lit 2)) nd, td.get o, td.get (Nat.succ o) with
      | true, some (.L (some (b, ob)) N (.k _)), some (.M (some m)) => match h.t.get b, h.t.get m with
        | some (.cells tb nb eb), some (.map es c) => match Nat.ble (Nat.add ob (Nat.mul N (nat_lit 256))) nb, Nat.beq d b, waitsE N c es with
          | true, false, true => some (.U [], ⟨(h.t.put b (.cells (layE ob es tb) nb eb)).put m (.map [] c), h.next⟩)
          | _, _, _ => none
        | _, _ => none
      | _, _, _ => none
    | _ => none
  | _ => none
/-- What waits, by the model's entries. -/
def aggL : Value → Option (List Value)
  | .agg a => some a.toList
  | _ => none
open Classical in
noncomputable def hsM : List MapEntry → Nat → Option (List Value)
  | [], _ => none
  | e :: l, n => if e.key = .int .i64 (n : Nat) then aggL e.val else hsM l n
open Classical in
theorem hsM_at (e : MapEntry) (l : List MapEntry) (n : Nat) : hsM (e :: l) n = if e.key = .int .i64 (n : Nat) then aggL e.val else hsM l n := rfl
theorem hsM_cons {e : MapEntry} {l : List MapEntry} {m : Nat} {vs : List Value} (hk : e.key = .int .i64 (m : Nat)) (hv : e.val = .agg vs.toArray) (n : Nat) : hsM (e :: l) n = if n = m then some vs else hsM l n := by
  rw [hsM_at, hk, hv]
  by_cases h : n = m
  · subst h; rw [if_pos rfl, if_pos rfl]; simp [aggL]
  · rw [if_neg h, if_neg]
    intro e
    simp at e
    omega
theorem waitsE_cons {N clock : Nat} {e : Ce × A0 × Nat} {l : List (Ce × A0 × Nat)} (h : waitsE N clock (e :: l) = true) :
    ∃ n cs b, e = (.I .i64 (.ofNat n), .G cs, b) ∧ n < N ∧ cs.length = 256 ∧ b < clock ∧ freshE n b l = true ∧ waitsE N clock l = true := by
  unfold waitsE at h
  split at h
  · cases ‹_ = []›
  · rename_i n cs b l' he
    injection he with h1 h2
    subst h1; subst h2
    split at h
    · rename_i q1 q2 q3 q4
      exact ⟨n, cs, b, rfl, Nat.le_of_ble_eq_true q1, Nat.eq_of_beq_eq_true q2, Nat.le_of_ble_eq_true q3, q4, h⟩
    · cases h
  · cases h
theorem mR_at {V : Vn} {n b : Nat} {cs : List Ce} {e : MapEntry} (h : mR V (.I .i64 (.ofNat n), .G cs, b) e) : e.key = .int .i64 (n : Nat) ∧ e.born = b ∧ ∃ vs : List Value, All2 (Ce.rel V) cs vs ∧ e.val = .agg vs.toArray := by
  obtain ⟨h1, h2, h3⟩ := h
  exact ⟨h1, h3, h2⟩
theorem fresh_spec {V : Vn} {n b : Nat} : ∀ {es : List (Ce × A0 × Nat)} {ms : List MapEntry}, freshE n b es = true → All2 (mR V) es ms → (∀ e ∈ ms, e.key ≠ .int .i64 (n : Nat) ∧ e.born ≠ b)
  | [], [], _, _, e, he => by cases he
  | x :: es, y :: ms, h, hr, e, he => by
    unfold freshE at h
    split at h
    · cases ‹_ = []›
    · rename_i k m v c l' hx
      injection hx with h1 h2
      subst h1; subst h2
      split at h
      · rename_i q1 q2
        rcases List.mem_cons.1 he with rfl | he
        · obtain ⟨r1, _, r3⟩ := hr.1
          have r1 : e.key = .int k (m : Nat) := r1
          have r3 : e.born = c := r3
          refine ⟨fun q => ?_, fun q => ?_⟩
          · rw [r1] at q
            injection q with _ q
            have : m = n := by omega
            subst this
            simp at q1
          · rw [r3] at q; subst q; simp at q2
        · exact fresh_spec h hr.2 e he
      · cases h
    · cases h
theorem hsM_none {ms : List MapEntry} {n : Nat} (h : ∀ e ∈ ms, e.key ≠ .int .i64 (n : Nat)) : hsM ms n = none := by
  induction ms with
  | nil => rfl
  | cons e l ih =>
    rw [hsM_at, if_neg (h e (by simp))]
    exact ih fun x hx => h x (by simp [hx])
theorem waits_spec {V : Vn} {N clock : Nat} : ∀ {es : List (Ce × A0 × Nat)} {ms : List MapEntry}, waitsE N clock es = true → All2 (mR V) es ms →
    EntsI ms.toArray clock (waitY (hsM ms)) ∧ (∀ n y, hsM ms n = some y → n < N ∧ y.length = 256 ∧ ∀ v ∈ y, v.oneCell' = true)
  | [], [], _, _ => ⟨EntsI.empty clock, fun n y h => by cases h⟩
  | x :: es, e :: ms, h, hr => by
    obtain ⟨n, cs, b, rfl, h1, h2, h3, h4, h5⟩ := waitsE_cons h
    obtain ⟨hk, hb, vs, hv1, hv2⟩ := mR_at hr.1
    obtain ⟨⟨s1, s2, s3⟩, g⟩ := waits_spec h5 hr.2
    have hf := fresh_spec h4 hr.2
    have hc := hsM_cons (l := ms) hk hv2
    have hn := hsM_none fun e he => (hf e he).1
    refine ⟨⟨?_, ?_, ?_⟩, ?_⟩
    · obtain ⟨t1, t2, t3⟩ := s1
      refine ⟨?_, ?_, ?_⟩
      · intro y hy
        rcases List.mem_cons.1 hy with rfl | hy
        · rw [hb]; exact h3
        · exact t1 y hy
      · simp only [List.map_cons, List.nodup_cons]
        refine ⟨fun hm => ?_, t2⟩
        obtain ⟨y, hy, e2⟩ := List.mem_map.1 hm
        exact (hf y hy).2 (e2.trans hb)
      · simp only [List.map_cons, List.nodup_cons]
        refine ⟨fun hm => ?_, t3⟩
        obtain ⟨y, hy, e2⟩ := List.mem_map.1 hm
        exact (hf y hy).1 (e2.trans hk)
    · intro y hy
      rcases List.mem_cons.1 hy with rfl | hy
      · refine ⟨n, hk, ?_⟩
        unfold waitY
        rw [hc, if_pos rfl, hv2]; rfl
      · obtain ⟨j, q1, q2⟩ := s2 y hy
        refine ⟨j, q1, ?_⟩
        unfold waitY at q2 ⊢
        rw [hc]
        by_cases hj : j = n
        · subst hj; exact absurd q1 (hf y hy).1
        · rw [if_neg hj]; exact q2
    · intro j v hj
      unfold waitY at hj
      rw [hc] at hj
      by_cases hjn : j = n
      · rw [if_pos hjn] at hj
        subst hjn
        refine ⟨e, by simp, hk, ?_⟩
        rw [hv2]; simpa using hj
      · rw [if_neg hjn] at hj
        obtain ⟨y, hy, q⟩ := s3 j v hj
        exact ⟨y, by simp [hy], q⟩
    · intro j y hj
      rw [hc] at hj
      by_cases hjn : j = n
      · rw [if_pos hjn] at hj
        injection hj with hj
        subst hj; subst hjn
        refine ⟨h1, by rw [← hv1.length]; exact h2, fun v hv => ?_⟩
        obtain ⟨i, hi⟩ := List.getElem?_of_mem hv
        obtain ⟨a, ha⟩ : ∃ a, cs[i]? = some a := by
          have := (List.getElem?_eq_some_iff.1 hi).1
          rw [← hv1.length] at this
          exact ⟨_, List.getElem?_eq_getElem this⟩
        obtain ⟨v', q1, q2⟩ := hv1.get ha
        rw [hi] at q1; cases q1
        have := q2.one
        cases v <;> first | rfl | cases this
      · rw [if_neg hjn] at hj; exact g j y hj
theorem lay_spec {V : Vn} {N clock o : Nat} : ∀ {es : List (Ce × A0 × Nat)} {ms : List MapEntry} {t : T Ce}, waitsE N clock es = true → All2 (mR V) es ms → ∀ {k : Nat} {x : Ce}, (layE o es t).get k = some x →
    (o ≤ k ∧ ∃ y v, hsM ms ((k - o) / 256) = some y ∧ y[(k - o) % 256]? = some v ∧ x.rel V v) ∨ ((k < o ∨ hsM ms ((k - o) / 256) = none) ∧ t.get k = some x)
  | [], [], t, _, _, k, x, hx => .inr ⟨.inr rfl, hx⟩
  | z :: es, e :: ms, t, h, hr, k, x, hx => by
    obtain ⟨n, cs, b, rfl, h1, h2, h3, h4, h5⟩ := waitsE_cons h
    obtain ⟨hk, hb, vs, hv1, hv2⟩ := mR_at hr.1
    have hf := fresh_spec h4 hr.2
    have hc := hsM_cons (l := ms) hk hv2
    have hn := hsM_none fun e he => (hf e he).1
    have hx : (layE o es (T.putL cs t (o + n * 256))).get k = some x := by
      unfold layE at hx
      rw [T.seq_eq] at hx
      exact hx
    rcases lay_spec h5 hr.2 hx with ⟨q0, y, v, q1, q2, q3⟩ | ⟨q1, q2⟩
    · refine .inl ⟨q0, y, v, ?_, q2, q3⟩
      rw [hc, if_neg (fun e => by rw [e, hn] at q1; cases q1)]
      exact q1
    · rcases T.get_putL q2 with ⟨r1, r2⟩ | ⟨r1, r2⟩
      · have hi := (List.getElem?_eq_some_iff.1 r2).1
        obtain ⟨v, s1, s2⟩ := hv1.get r2
        have e1 : (k - o) / 256 = n := by omega
        refine .inl ⟨by omega, vs, v, by rw [hc, if_pos e1], ?_, s2⟩
        rw [show (k - o) % 256 = k - (o + n * 256) by omega]; exact s1
      · refine .inr ⟨?_, r2⟩
        rcases q1 with q1 | q1
        · exact .inl q1
        · by_cases hko : k < o
          · exact .inl hko
          · refine .inr ?_
            rw [hc, if_neg (by omega)]; exact q1
theorem settle_run {args : List AV} {h h' : Hp X} {z : AV} (q : settleO args h = some (z, h')) {V : Vn} {w : World} {xs : List Value} (s : Sim E G V h w) (hr : All2 (AV.rel V) args xs) :
    Calls Tryz.prog 84 xs.toArray w fun e w' => ∃ u, e = .returned u ∧ Post E G V h w z h' u w' := by
  unfold settleO at q
  split at q
  case h_2 => cases q
  rename_i d o
  split at q
  case h_2 => cases q
  rename_i td nd ed hgd
  split at q
  case h_2 => cases q
  rename_i b ob N cap m q1 q2 q3
  split at q
  case h_2 => cases q
  rename_i tb nb eb es c hgb hgm
  split at q
  case h_2 => cases q
  rename_i q4 q5 q6
  injection q with q; injection q with q7 q8; subst q7; subst q8
  match xs, hr with
  | [v], hr =>
    obtain ⟨a, ⟨pd, hpd, rfl⟩, rfl⟩ : ∃ a, pR V (d, o) a ∧ v = .pointer (some a) := hr.1
    have hpd : V d = some pd := hpd
    obtain ⟨_, hp', cd, tyd, fzd, hcd, hfzd, hcrd⟩ := s.ob _ _ hgd
    rw [hpd] at hp'; cases hp'
    obtain ⟨pb, hpb, cb, tyb, fzb, hcb, hfzb, hcrb⟩ := s.ob _ _ hgb
    obtain ⟨pm, hpm, ms, hcm, hms⟩ := s.ob _ _ hgm
    have q1 : o + 2 ≤ nd := Nat.le_of_ble_eq_true q1
    have q4 : ob + N * 256 ≤ nb := Nat.le_of_ble_eq_true q4
    obtain ⟨v0, r0, r1⟩ := hcrd.1 o _ (by omega) q2
    obtain ⟨v1, r2, r3⟩ := hcrd.1 (o + 1) _ (by omega) q3
    obtain ⟨x, ⟨pb', hpb', rfl⟩, rfl⟩ : ∃ x, pR V (b, ob) x ∧ v0 = .slice (some x) N cap := r1
    have hpb' : V b = some pb' := hpb'
    rw [hpb] at hpb'; cases hpb'
    obtain ⟨pm', hpm', rfl⟩ : ∃ p, V m = some p ∧ v1 = .map (some p.bl) := r3
    rw [hpm] at hpm'; cases hpm'
    have hbm : pm.bl ≠ pb.bl := fun e => by
      rw [e, hcb] at hcm; cases hcm
    have hdb : pd.bl ≠ pb.bl := fun e => by
      have := s.apart d _ pd b _ pb pd.bl hgd hgb hpd hpb (by simp [foot]) (by simp [foot, e])
      subst this
      simp at q5
    obtain ⟨w1, w2⟩ := waits_spec q6 hms
    have hsz := hcrb.2.1
    have hR : RowsY w pb.bl (pb.of + ob) N tyb fzb cb.size (fun k => cb[k]?) := ⟨⟨cb, hcb, rfl, fun _ => rfl⟩, by omega, hfzb⟩
    refine (sd_settleY (d := pd.bl) (od := pd.of + o) (by rw [cell_at hcd]; exact r0) (by rw [cell_at hcd]; exact r2) hR hcm w1 w2 hdb (Array.getElem?_eq_some_iff.1 hcd).1 hbm).mono ?_
    rintro e w' ⟨rfl, ⟨⟨c', hc', hz', hq'⟩, _, _⟩, hm', k⟩
    refine ⟨_, rfl, V, ⟨[], trivial, rfl⟩, ?_⟩
    -- first the sectors, then the map
    have hlb := (Array.getElem?_eq_some_iff.1 hcb).1
    have hlm := (Array.getElem?_eq_some_iff.1 hcm).1
    have hob : ObR E V (setBlk w pb.bl (.cells c' tyb fzb)) pb (.cells (layE ob es tb) nb eb) := by
      refine ⟨c', tyb, fzb, setBlk_self hcb, by rw [hz']; exact hfzb, fun i x hi hx => ?_, by rw [hz']; exact hsz, fun k hk => by rw [hz']; exact hcrb.2.2 k hk⟩
      rcases lay_spec q6 hms hx with ⟨u0, y, v, u1, u2, u3⟩ | ⟨u1, u2⟩
      · refine ⟨v, ?_, u3⟩
        rw [hq']
        unfold midY
        rw [if_pos (by omega), show pb.of + i - (pb.of + ob) = i - ob by omega, u1]
        exact u2
      · obtain ⟨v, t1, t2⟩ := hcrb.1 i x hi u2
        refine ⟨v, ?_, t2⟩
        rw [hq', ← t1]
        unfold midY
        rcases u1 with u1 | u1
        · rw [if_neg (by omega)]
        · split
          · rw [show pb.of + i - (pb.of + ob) = i - ob by omega, u1]
          · rfl
    obtain ⟨s1, x1⟩ := s.turn (w' := setBlk w pb.bl (.cells c' tyb fzb)) (ob := .cells (layE ob es tb) nb eb) hgb hpb rfl hob (fun j _ hj => setBlk_ne (by simpa [foot] using hj)) (by rw [setBlk_size]; exact Nat.le_refl _)
    have hne : m ≠ b := fun e => by subst e; rw [hgb] at hgm; cases hgm
    have hLb : Live E V h pb.bl := ⟨b, _, pb, hgb, hpb, by simp [foot]⟩
    have hLm : Live E V h pm.bl := ⟨m, _, pm, hgm, hpm, by simp [foot]⟩
    have hobm : ObR E V w' pm (.map [] c) := ⟨[], hm', trivial⟩
    refine ⟨s1.put (w' := w') hpm hobm (fun j hj hf => ?_) (show (setBlk w pb.bl (.cells c' tyb fzb)).heap.size ≤ w'.heap.size from by rw [setBlk_size]; exact k.size) (fun b' ob' p' j hg' hne' hp' hf' hf2 => ?_), ⟨.refl V, k.size, Nat.le_refl _, fun j hl hnl => ?_, fun _ _ => rfl, ⟨k.os, k.tape, k.output⟩⟩⟩
    · have hjm : j ≠ pm.bl := by simpa [foot] using hf
      rw [setBlk_size] at hj
      by_cases hjb : j = pb.bl
      · subst hjb; rw [hc', setBlk_self hcb]
      · rw [setBlk_ne hjb]
        exact k.block j hj (fun q => q.elim hjb hjm)
    · rcases T.get_put hg' with ⟨rfl, rfl⟩ | ⟨_, hg2⟩
      · exact hne' (s.apart b' _ p' m _ pm j hgb hgm hp' hpm (by simpa [foot] using hf') (by simpa [foot] using hf2))
      · exact hne' (s.apart b' _ p' m _ pm j hg2 hgm hp' hpm hf' (by simpa [foot] using hf2))
    · have hjb : j ≠ pb.bl := fun e => hnl (e ▸ hLb)
      have hjm : j ≠ pm.bl := fun e => hnl (e ▸ hLm)
      refine ⟨k.block j hl (fun q => q.elim hjb hjm), fun l => ?_⟩
      rcases Live.put (h := ⟨h.t.put b (Ob.cells (layE ob es tb) nb eb), h.next⟩) hpm l with l | l
      · rcases Live.put (h := h) hpb l with l | l
        · exact hnl l
        · exact hjb (by simpa [foot] using l)
      · exact hjm (by simpa [foot] using l)
end Ev
end Go.Proofs.YtlkgdpdnhnakoaaGreatDoor
