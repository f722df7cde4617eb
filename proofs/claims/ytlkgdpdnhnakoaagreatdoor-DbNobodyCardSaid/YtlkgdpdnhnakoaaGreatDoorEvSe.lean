/- EvSe: what waits on a disk is made safe, whatever the order: by cells alone. -/
import Derived.Test.YtlkgdpdnhnakoaaGreatDoorMapI
import Derived.Test.YtlkgdpdnhnakoaaGreatDoorAuto
import Derived.Test.YtlkgdpdnhnakoaaGreatDoorGEvA
import Derived.Deep.MidRow
import Derived.Test.YtlkgdpdnhnakoaaGreatDoorProg
import Derived.Deep.RegionHeld3
import Derived.Shelf.Abstract
import Derived.Deep.WholeRow
namespace Go.Proofs.YtlkgdpdnhnakoaaGreatDoor
open Go.RowKit

/-- Block b has so many cells, as e says; rows of 256 of them, from o on. -/
structure RowsY (w : World) (b o N : Nat) (ty : TypeId) (fz : Nat × Nat) (sz : Nat) (e : Nat → Option Value) : Prop where
  is : ∃ c, w.heap[b]? = some (.cells c ty fz) ∧ c.size = sz ∧ ∀ k, c[k]? = e k
  fits : o + N * 256 ≤ sz
  free : fz.1 = fz.2 ∨ sz ≤ fz.1
theorem RowsY.lt {w : World} {b o N : Nat} {ty : TypeId} {fz : Nat × Nat} {sz : Nat} {e : Nat → Option Value} (h : RowsY w b o N ty fz sz e) : b < w.heap.size := by
  obtain ⟨c, hc, _⟩ := h.is
  exact lt_of_block hc
theorem RowsY.kept {w w' : World} {fp : Nat → Prop} {b o N : Nat} {ty : TypeId} {fz : Nat × Nat} {sz : Nat} {e : Nat → Option Value} (h : RowsY w b o N ty fz sz e) (k : Kept fp w w') (hn : ¬ fp b) : RowsY w' b o N ty fz sz e := by
  obtain ⟨c, hc, q⟩ := h.is
  exact ⟨⟨c, k.obj hc hn, q⟩, h.fits, h.free⟩
theorem RowsY.congr {w : World} {b o N : Nat} {ty : TypeId} {fz : Nat × Nat} {sz : Nat} {e e' : Nat → Option Value} (h : RowsY w b o N ty fz sz e) (q : ∀ k, e k = e' k) : RowsY w b o N ty fz sz e' := by
  have : e = e' := funext q
  subst this; exact h
theorem RowsY.room {w : World} {b o N : Nat} {ty : TypeId} {fz : Nat × Nat} {sz : Nat} {e : Nat → Option Value} (h : RowsY w b o N ty fz sz e) {n : Nat} (hn : n < N) : w.there b (o + n * 256) 256 := fun j hj => by
  obtain ⟨c, hc, hz, _⟩ := h.is
  have h1 := h.fits
  have h2 := h.free
  have : (n + 1) * 256 ≤ N * 256 := Nat.mul_le_mul_right _ hn
  refine ⟨?_, ?_⟩
  · simp only [World.cell?, hc]
    rw [Array.getElem?_eq_getElem (by omega)]; rfl
  · have : ¬(fz.1 ≤ o + n * 256 + j ∧ o + n * 256 + j < fz.2) := by omega
    simp only [World.frozen?, hc]
    simpa using this
theorem setCells_blkY {b : Nat} {ty : TypeId} {fz : Nat × Nat} : ∀ (vs : List Value) (w : World) (c : Array Value) (o : Nat), w.heap[b]? = some (.cells c ty fz) → (w.setCells b o vs).heap[b]? = some (.cells (Ev.setRun c o vs) ty fz)
  | [], w, c, o, h => h
  | v :: vs, w, c, o, h => by
    refine setCells_blkY vs _ _ _ ?_
    rw [Ev.setCell_blk h]
    exact Ev.setBlk_self h
theorem RowsY.put {w : World} {b o N : Nat} {ty : TypeId} {fz : Nat × Nat} {sz : Nat} {e : Nat → Option Value} (h : RowsY w b o N ty fz sz e) {n : Nat} (hn : n < N) {y : List Value} (hy : y.length = 256) :
    RowsY (w.setCells b (o + n * 256) y) b o N ty fz sz (fun k => if o + n * 256 ≤ k ∧ k < o + n * 256 + 256 then y[k - (o + n * 256)]? else e k) := by
  obtain ⟨c, hc, hz, hq⟩ := h.is
  have h1 := h.fits
  have : (n + 1) * 256 ≤ N * 256 := Nat.mul_le_mul_right _ hn
  refine ⟨⟨_, setCells_blkY y w c _ hc, by rw [Ev.setRun_size]; exact hz, fun k => ?_⟩, h.fits, h.free⟩
  rw [Ev.setRun_get _ _ _ _ (by omega), hy, hq]
theorem Kept.setCellsY {fp : Nat → Prop} {a w : World} (h : Kept fp a w) {b : Nat} (hb : b < a.heap.size → fp b) (vs : List Value) : ∀ o, Kept fp a (w.setCells b o vs) := by
  induction vs generalizing w with
  | nil => intro o; exact h
  | cons v vs ih => intro o; exact ih (h.setCell (p := ⟨b, o, none⟩) hb v) (o + 1)

/-- What lies there while the entries that are left are still to come. -/
def midY (o : Nat) (hs : Nat → Option (List Value)) (e : Nat → Option Value) (left : Nat → Bool) (k : Nat) : Option Value :=
  if o ≤ k then (match hs ((k - o) / 256), left ((k - o) / 256) with
    | some y, false => y[(k - o) % 256]?
    | _, _ => e k) else e k
def waitY (hs : Nat → Option (List Value)) (n : Nat) : Option Value := (hs n).map fun l => .agg l.toArray
theorem midY_start (o : Nat) (hs : Nat → Option (List Value)) (e : Nat → Option Value) (k : Nat) : e k = midY o hs e (fun n => (waitY hs n).isSome) k := by
  unfold midY waitY
  split
  · cases h : hs ((k - o) / 256) <;> simp [h]
  · rfl
theorem midY_step {o : Nat} {hs : Nat → Option (List Value)} {e : Nat → Option Value} {left : Nat → Bool} {n : Nat} {y : List Value} (h : hs n = some y) (k : Nat) :
    (if o + n * 256 ≤ k ∧ k < o + n * 256 + 256 then y[k - (o + n * 256)]? else midY o hs e left k) = midY o hs e (fun j => left j && !decide (j = n)) k := by
  unfold midY
  by_cases hk : o ≤ k
  · rw [if_pos hk, if_pos hk]
    by_cases hn : (k - o) / 256 = n
    · rw [if_pos (by omega)]
      subst hn
      rw [h]
      simp only [decide_true, Bool.not_true, Bool.and_false]
      rw [show k - (o + (k - o) / 256 * 256) = (k - o) % 256 by omega]
    · rw [if_neg (by omega)]
      simp [hn]
  · rw [if_neg hk, if_neg hk, if_neg (by omega)]
theorem midY_end {o : Nat} {hs : Nat → Option (List Value)} {e : Nat → Option Value} {left : Nat → Bool} (hl : ∀ n, left n = false) (k : Nat) : midY o hs e left k = midY o hs e (fun _ => false) k := by
  unfold midY
  simp only [hl]

section
variable {P : Program} {w : World} {ops : Array Oper} {rest : List Oper} {o : Oper} {a : Act} {Q : Exit → Act → World → Prop}
/-- A store, as it runs. -/
theorem wpList_storeRunY {ty : TypeId} {p v : Value} {w' : World} (hrun : (Instr.storeAt ty p v).run P w = .ok () w') (hg : o.guard = none) (x y : Operand) (hop : o.op = .store ty x y) (hx : a.eval x = p) (hy : a.eval y = v)
    (hK : wpList P ops Q rest (a.put o.dst undef) w') : wpList P ops Q (o :: rest) a w :=
  wpList_plain hg fun _ hk => by
    unfold Oper.wp execOp
    simp only [hop, hx, hy, hrun, Sem.run_bind, Sem.run_pure, Result.andThen_ok]
    exact hk _ _ hK
end
theorem zeroY_size : Tryz.zeroCells161.size = 256 := by kernel_rfl
theorem secY_size (w : World) {C : List Value} (h : C.length = 256) (h1 : ∀ v ∈ C, v.oneCell' = true) : (Instr.storeAt 161 (.pointer (some ⟨w.heap.size, 0, none⟩)) (.agg C.toArray)).run Tryz.prog (w.alloc (.cells Tryz.zeroCells161 161)) = .ok () (w.alloc (.cells C.toArray 161)) :=
  run_storeAt_new w _ _ _ (by rw [List.size_toArray, h]; kernel_rfl) (zeroY_size.trans (by rw [List.size_toArray, h])) (all_oneCell_toArray h1)

set_option maxRecDepth 100000 in
set_option maxHeartbeats 1000000 in
theorem sd_settleY {w : World} {d od bs ob N cap m c0 : Nat} {es0 : Array MapEntry} {ty : TypeId} {fz : Nat × Nat} {sz : Nat} {e : Nat → Option Value} {hs : Nat → Option (List Value)}
    (h0 : w.cell? ⟨d, od, none⟩ = some (.slice (some ⟨bs, ob, none⟩) N cap)) (h1 : w.cell? ⟨d, od + 1, none⟩ = some (.map (some m))) (hR : RowsY w bs ob N ty fz sz e) (hm : w.heap[m]? = some (.map es0 c0)) (hE : EntsI es0 c0 (waitY hs))
    (hh : ∀ n y, hs n = some y → n < N ∧ y.length = 256 ∧ ∀ v ∈ y, v.oneCell' = true) (hdb : d ≠ bs) (hdl : d < w.heap.size) (hmb : m ≠ bs) :
    Calls Tryz.prog 84 #[.pointer (some ⟨d, od, none⟩)] w fun e' w' => e' = .returned (.tuple #[]) ∧ RowsY w' bs ob N ty fz sz (midY ob hs e (fun _ => false)) ∧ w'.heap[m]? = some (.map #[] c0) ∧ Kept (fun j => j = bs ∨ j = m) w w' := by
  have hM : MapI w m (waitY hs) := ⟨es0, c0, hm, hE⟩
  have l1 := hM.ne_cell h0
  have l2 := hR.lt
  have l3 := hM.lt
  have HM := Lib.hid hM; have HR := Lib.hid hR; have HO := Lib.hid hm; have HH := Lib.hid hh; have H0 := Lib.hid h0; have H1 := Lib.hid h1; have HDB := Lib.hid hdb; have HMB := Lib.hid hmb; have L1 := Lib.hid l1
  clear hM hR hm hh hE hdb hmb l1
  go_enter Tryz.func84, Tryz.ntmps84
  go_wp2_with (at_range; refine wpList_rangeI _ rfl _ _ rfl Tryz.underlying86 rfl HM.out ?_; intro w0 cnt0 hrg0 hk0 hz0)
  go_frame
  go_loopw [9] (fun _ wr => ∃ (left : Nat → Bool) (cnt : Nat), RangesI wr m w.heap.size (waitY hs) left cnt ∧ RowsY wr bs ob N ty fz sz (midY ob hs e left) ∧ Kept (fun j => j = bs) w wr) (fun _ wr => wr.rangeLeft m w.heap.size)
  case atStart => exact ⟨_, _, hrg0, (HR.out.kept hk0 (fun h => h)).congr (fun k => midY_start _ _ _ _), hk0.mono (fun _ _ h => h.elim)⟩
  case round =>
    clear h0 h1 hrg0 hk0
    obtain ⟨left, cnt, hrg, hsf, hk⟩ := hrel
    have p0 : wr.cell? ⟨d, od, none⟩ = some (.slice (some ⟨bs, ob, none⟩) N cap) := by rw [hk.cell (p := ⟨d, od, none⟩) hdl HDB.out]; exact H0.out
    have p1 : wr.cell? ⟨d, od + 1, none⟩ = some (.map (some m)) := by rw [hk.cell (p := ⟨d, od + 1, none⟩) hdl HDB.out]; exact H1.out
    have RG := Lib.hid hrg; have SF := Lib.hid hsf; have K := Lib.hid hk
    clear hrg hsf hk
    go_wp2_with (at_next; refine wpList_nextI _ rfl _ rfl rfl RG.out ?_ ?_)
    · intro hl0
      have hb := (K.out.obj HO.out (by exact HMB.out))
      have hcl : (Builtin.clear_ #[86] 0 #[.map (some m)]).run Tryz.prog wr = .ok (.tuple #[]) (Go.ChangeMaps.setBlock wr m (.map #[] c0)) := by
        simp [Builtin.clear_, run_underlying Tryz.underlying86, Go.MapKept.run_getObj_map hb, Go.MapKept.run_setObj_map _ hb, Result.andThen]
        rfl
      have HK := Lib.hid (Kept.setBlock hb (.map #[] c0)); have HB := Lib.hid (Go.ChangeMaps.heap_setBlock_same hb (.map #[] c0))
      clear hb
      go_wp2_with fail
      go_end0
      refine ⟨rfl, ?_, HB.out, (K.out.mono (fun _ _ q => .inl q)).trans (HK.out.mono (fun _ _ q => .inr q))⟩
      refine (SF.out.congr (fun n => midY_end hl0 n)).kept HK.out (fun q => HMB.out q.symm)
    · intro n v w1 cnt1 hf hlf hrg1 hlt hz1 hk1 hen
      obtain ⟨y, hsn⟩ : ∃ y, hs n = some y := by
        cases hq : hs n with
        | none => simp [waitY, hq] at hf
        | some y => exact ⟨y, rfl⟩
      obtain ⟨hn, hy256, hy1⟩ := HH.out n y hsn
      have hv : v = .agg y.toArray := by
        have := hf
        unfold waitY at this
        rw [hsn] at this
        exact (Option.some.inj this).symm
      subst hv
      have z9 := RG.out.lt
      have l9 := K.out.size
      have s1 := SF.out.kept hk1 (by omega)
      have k1 := K.out.step hk1 (fq := fun j => j = w.heap.size) (fun i hi q => by omega)
      have b0 : w1.cell? ⟨d, od, none⟩ = some (.slice (some ⟨bs, ob, none⟩) N cap) := by rw [hk1.cell (p := ⟨d, od, none⟩) (by dsimp only; omega) (by dsimp only; omega)]; exact p0
      have hst := secY_size w1 hy256 hy1
      have hi : (Tryz.prog.info? 161).map (·.size) = some y.length := by rw [hy256]; kernel_rfl
      have hn0 : (0 : Int) ≤ (n : Int) := by omega
      have hn1 : (n : Int) < (N : Int) := by omega
      have k2 : Kept (fun _ => False) w1 (w1.alloc (.cells y.toArray 161)) := (Kept.refl _ w1).alloc _
      have s2 := s1.kept k2 (fun h => h)
      have r2 := hrg1.kept k2 (fun h => h) (fun h => h)
      have c2 : (w1.alloc (.cells y.toArray 161)).cell? ⟨d, od, none⟩ = some (.slice (some ⟨bs, ob, none⟩) N cap) := by rw [k2.cell (p := ⟨d, od, none⟩) (by dsimp only; omega) (fun h => h)]; exact b0
      have n2 : (w1.alloc (.cells y.toArray 161)).rangeAt w1.heap.size 0 y := by
        intro j u hu
        rw [Nat.zero_add, cell_blk (Blk.new w1 _ _)]
        simpa using hu
      have z3 : w.heap.size < w1.heap.size := by have := RG.out.lt; omega
      have lm := RG.out.left_eq
      have HY := Lib.hid hsn; have R2 := Lib.hid r2; have S2 := Lib.hid s2; have K2 := Lib.hid (k1.trans (k2.mono (fun _ _ h => h.elim))); have LM := Lib.hid lm; have LT := Lib.hid hlt
      clear hz1 hf hlf hrg1 hk1 hsn s1 k1 s2 r2 lm hlt RG SF K p0 p1 z9 l9
      go_wp2_with (with_reducible refine wpList_storeRunY hst rfl _ _ rfl rfl rfl ?_)
      clear hst hen b0
      have zz : (w1.alloc (.cells y.toArray 161)).heap.size = w1.heap.size + 1 := by simp
      generalize w1.alloc (.cells y.toArray 161) = w2 at *
      have t2 := S2.out.room hn
      have hu := Tryz.underlying161
      have q2 : (w2.drew.setCells bs (ob + n * 256) y).cell? ⟨d, od, none⟩ = some (.slice (some ⟨bs, ob, none⟩) N cap) := by
        rw [World.cell?_setCells_out _ _ _ _ _ (fun hb => absurd hb HDB.out)]
        exact c2
      have q3 := World.rangeAt_setCells_apart (w := w2.drew) n2 bs (ob + n * 256) y (.inl (by omega))
      have q4 := World.there_setCells (w := w2.drew) t2 bs (ob + n * 256) y
      go_region_held3 (fun w' => w'.cell? ⟨d, od, none⟩ = some (.slice (some ⟨bs, ob, none⟩) N cap) ∧ w'.rangeAt w1.heap.size 0 y ∧ w'.there bs (ob + n * 256) 256)
        (first | exact ⟨c2, n2, t2⟩ | exact ⟨q2, q3, q4⟩ | go_keep_ranges)
        (fail)
      go_wp2_with fail
      have k4 : Kept (fun j => j = bs) w2 (w2.drew.setCells bs (ob + n * 256) y) := (Kept.refl (fun j => j = bs) w2).drew.setCellsY (fun _ => rfl) _ _
      have r4 := R2.out.kept k4 HMB.out (by omega)
      go_roundw
      case rel =>
        refine ⟨_, cnt1, r4, ?_, K2.out.trans k4⟩
        have hsf := (show RowsY w2.drew bs ob N ty fz sz (midY ob hs e left) from S2.out.kept (Kept.refl (fun _ => False) w2).drew (fun h => h)).put hn hy256
        refine hsf.congr (fun j => ?_)
        rw [← midY_step HY.out j]
      case measure => rw [r4.left_eq, LM.out]; exact LT.out
end Go.Proofs.YtlkgdpdnhnakoaaGreatDoor
