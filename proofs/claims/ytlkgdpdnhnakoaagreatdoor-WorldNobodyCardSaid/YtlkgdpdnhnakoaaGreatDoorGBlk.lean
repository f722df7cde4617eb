/- GBlk: BlkP, Blk1, Blk2, Blk3, Blk4, Aw4. -/
import Derived.Test.YtlkgdpdnhnakoaaGreatDoorGCrc
import Derived.Test.YtlkgdpdnhnakoaaGreatDoorGSecB
import Derived.Test.YtlkgdpdnhnakoaaGreatDoorGRef
import Derived.Lib.SlBytesConst
namespace Go.Proofs.YtlkgdpdnhnakoaaGreatDoor
open Go.RowKit

def mayB (f k : Int) : Bool := decide (0 ≤ f) && decide (f ≤ 4096) && decide (0 ≤ k) && decide (k ≤ 512)
def hasB (k n : Int) : Bool := decide (0 ≤ n) && decide (n < k)
theorem mayB_iff {f k : Int} : mayB f k = true ↔ 0 ≤ f ∧ f ≤ 4096 ∧ 0 ≤ k ∧ k ≤ 512 := by simp [mayB, and_assoc]
theorem hasB_iff {k n : Int} : hasB k n = true ↔ 0 ≤ n ∧ n < k := by simp [hasB]
/-- Errors of an area, and of a block's number. -/
def errA (N : Nat) (f k : Int) : Nat := if mayB f k = true ∧ f + 4 * k ≤ (N : Int) then 0 else 2
def atA (N : Nat) (f k n : Int) : Nat := if errA N f k = 0 then (if hasB k n = true then 0 else 9) else errA N f k
def secsA (f k n : Int) : List Nat := if mayB f k = true ∧ hasB k n = true then (List.range 4).map fun i => (f + 4 * n).toNat + i else []
/-- What is known where there is no error. -/
theorem atA_zero {N : Nat} {f k n : Int} (h : atA N f k n = 0) : 0 ≤ f ∧ f ≤ 4096 ∧ 0 ≤ k ∧ k ≤ 512 ∧ f + 4 * k ≤ (N : Int) ∧ 0 ≤ n ∧ n < k := by
  unfold atA at h
  split at h
  · rename_i he
    split at h
    · rename_i hh
      unfold errA at he
      split at he
      · rename_i hm
        have h1 := mayB_iff.1 hm.1
        have h2 := hasB_iff.1 hh
        omega
      · cases he
    · cases h
  · rename_i he; exact absurd h he
theorem secsA_eq {N : Nat} {f k n : Int} (h : atA N f k n = 0) : ∃ F : Nat, secsA f k n = [F, F + 1, F + 2, F + 3] ∧ (F : Int) = f + 4 * n ∧ F + 4 ≤ N := by
  have h1 := atA_zero h
  refine ⟨(f + 4 * n).toNat, ?_, by omega, by omega⟩
  unfold secsA
  rw [if_pos ⟨mayB_iff.2 (by omega), hasB_iff.2 (by omega)⟩]
  rfl
/-- Sectors written, side by side, up to the first error. -/
def wrs (D : Dsk) (F : Nat) : List (List Nat) → Dsk × Nat
  | [] => (D, 0)
  | c :: cs => if (writeD D (F : Nat) c).2 = 0 then wrs (writeD D (F : Nat) c).1 (F + 1) cs else writeD D (F : Nat) c
def chunk (l : List Nat) (i : Nat) : List Nat := (l.drop (i * 256)).take 256
def chunks (l : List Nat) : List (List Nat) := [chunk l 0, chunk l 1, chunk l 2, chunk l 3]
def writeB (D : Dsk) (f k n : Int) (body : List Nat) : Dsk × Nat :=
  if atA D.s.length f k n = 0 then (if body.length ≤ 1016 then wrs D (f + 4 * n).toNat (chunks (sealC body)) else (D, 5)) else (D, atA D.s.length f k n)
def hasAt (D : Dsk) (F : Nat) : List Nat := (D.s.getD F sec0).has
def readB (D : Dsk) (f k n : Int) : List Nat × Nat :=
  if atA D.s.length f k n = 0 then (if D.off then ([], 8) else openP (hasAt D (f + 4 * n).toNat ++ hasAt D ((f + 4 * n).toNat + 1) ++ hasAt D ((f + 4 * n).toNat + 2) ++ hasAt D ((f + 4 * n).toNat + 3))) else ([], atA D.s.length f k n)
theorem chunk_len {l : List Nat} (h : l.length = 1024) {i : Nat} (hi : i < 4) : (chunk l i).length = 256 := by unfold chunk; rw [List.length_take, List.length_drop]; omega
theorem chunk_bts {l : List Nat} (h : Bts l) (i : Nat) : Bts (chunk l i) := (h.drop _).take _
end Go.Proofs.YtlkgdpdnhnakoaaGreatDoor

namespace Go.Proofs.YtlkgdpdnhnakoaaGreatDoor
open Go.RowKit Go.Sort

theorem Calls.quiet_sameS {P : Program} {f : FuncId} {args : Array Value} {w : World} {d : Nat} {os : Array Obj} {v : Value}
    (h : Calls P f args (grow (redrawn w d) os) fun e w' => e = .returned v ∧ Same (grow (redrawn w d) os) w') : Calls P f args (grow (redrawn w d) os) fun e w'' => e = .returned v ∧ ∃ p : Regrown, w'' = grow (redrawn w p.d) p.os :=
  Calls.regrown_of (h.mono fun _ _ ⟨h1, h2⟩ => ⟨h1, h2.below (Nat.le_refl _) (fun _ _ h => h)⟩)
def areaV (f k : Int) : Value := .agg #[.int .i64 f, .int .i64 k]
theorem bl_may (f k : Int) (w : World) : Calls Tryz.prog 454 #[areaV f k] w fun e w' => e = .returned (.bool (mayB f k)) ∧ Same w w' := by
  unfold areaV
  obtain ⟨q, hq⟩ : ∃ q, mayB f k = q := ⟨_, rfl⟩
  rw [hq]
  have hbb := hq
  unfold mayB at hbb
  clear hq
  by_cases h1 : 0 ≤ f
  · by_cases h2 : f ≤ 4096
    · by_cases h3 : 0 ≤ k
      · by_cases h4 : k ≤ 512
        · have hb : q = true := by rw [← hbb]; simp [h1, h2, h3, h4]
          clear hbb
          subst hb
          go_enter Tryz.func454, Tryz.ntmps454
          go_wp2_with fail
          go_ret
          exact ⟨rfl, (Kept.refl _ w).alloc _⟩
        · have hb : q = false := by rw [← hbb]; simp [h4]
          clear hbb
          subst hb
          go_enter Tryz.func454, Tryz.ntmps454
          go_wp2_with fail
          go_ret
          exact ⟨rfl, (Kept.refl _ w).alloc _⟩
      · have hb : q = false := by rw [← hbb]; simp [h3]
        clear hbb
        subst hb
        go_enter Tryz.func454, Tryz.ntmps454
        go_wp2_with fail
        go_ret
        exact ⟨rfl, (Kept.refl _ w).alloc _⟩
    · have hb : q = false := by rw [← hbb]; simp [h2]
      clear hbb
      subst hb
      go_enter Tryz.func454, Tryz.ntmps454
      go_wp2_with fail
      go_ret
      exact ⟨rfl, (Kept.refl _ w).alloc _⟩
  · have hb : q = false := by rw [← hbb]; simp [h1]
    clear hbb
    subst hb
    go_enter Tryz.func454, Tryz.ntmps454
    go_wp2_with fail
    go_ret
    exact ⟨rfl, (Kept.refl _ w).alloc _⟩
theorem bl_has (f k n : Int) (w : World) : Calls Tryz.prog 417 #[areaV f k, .int .i64 n] w fun e w' => e = .returned (.bool (hasB k n)) ∧ Same w w' := by
  unfold areaV
  obtain ⟨q, hq⟩ : ∃ q, hasB k n = q := ⟨_, rfl⟩
  rw [hq]
  have hbb := hq
  unfold hasB at hbb
  clear hq
  by_cases h1 : 0 ≤ n
  · by_cases h2 : n < k
    · have hb : q = true := by rw [← hbb]; simp [h1, h2]
      clear hbb
      subst hb
      go_enter Tryz.func417, Tryz.ntmps417
      go_wp2_with fail
      go_ret
      exact ⟨rfl, (Kept.refl _ w).alloc _⟩
    · have hb : q = false := by rw [← hbb]; simp [h2]
      clear hbb
      subst hb
      go_enter Tryz.func417, Tryz.ntmps417
      go_wp2_with fail
      go_ret
      exact ⟨rfl, (Kept.refl _ w).alloc _⟩
  · have hb : q = false := by rw [← hbb]; simp [h1]
    clear hbb
    subst hb
    go_enter Tryz.func417, Tryz.ntmps417
    go_wp2_with fail
    go_ret
    exact ⟨rfl, (Kept.refl _ w).alloc _⟩
set_option maxRecDepth 100000 in
set_option maxHeartbeats 800000 in
theorem bl_check {w : World} {d bs cap m : Nat} {D : Dsk} (h : DiskIn w d bs cap m D) (f k : Int) :
    Calls Tryz.prog 416 #[.pointer (some ⟨d, 0, none⟩), areaV f k] w fun e w' => e = .returned (.int .i64 (errA D.s.length f k : Nat)) ∧ Same w w' := by
  have H := Lib.hid h
  have hfew := h.ok.few
  have MA := Lib.hid fun w' => bl_may f k w'
  have SZ := Lib.hid fun w' (kk : Same w w') => sd_size (h.same kk)
  have hm := @mayB_iff f k
  obtain ⟨N, hN⟩ : ∃ N, D.s.length = N := ⟨_, rfl⟩
  rw [hN] at SZ hfew
  rw [hN]
  have K0 : Same w (w.alloc (.cells #[.int .i64 f, .int .i64 k] 407)) := (Kept.refl _ w).alloc _
  have F0 : Fr (w.alloc (.cells #[.int .i64 f, .int .i64 k] 407)) [(w.heap.size, #[.int .i64 f, .int .i64 k], 407)] := ⟨Blk.new w _ _, trivial⟩
  have K := Lib.hid K0; have F := Lib.hid F0
  obtain ⟨E, hE⟩ : ∃ E, errA N f k = E := ⟨_, rfl⟩
  rw [hE]
  unfold errA at hE
  unfold areaV at MA ⊢
  obtain ⟨q, hq⟩ : ∃ q, mayB f k = q := ⟨_, rfl⟩
  rw [hq] at MA hm hE
  clear h hN hq K0 F0
  have C1 : Hid (∀ dq os, Calls Tryz.prog 454 #[.agg #[.int .i64 f, .int .i64 k]] (grow (redrawn (w.alloc (.cells #[.int .i64 f, .int .i64 k] 407)) dq) os) fun e w'' => e = .returned (.bool q) ∧ ∃ p : Regrown, w'' = grow (redrawn (w.alloc (.cells #[.int .i64 f, .int .i64 k] 407)) p.d) p.os) := fun dq os => Calls.quiet_sameS (MA.out _)
  have C2 : Hid (∀ dq os, Calls Tryz.prog 93 #[.pointer (some ⟨d, 0, none⟩)] (grow (redrawn (w.alloc (.cells #[.int .i64 f, .int .i64 k] 407)) dq) os) fun e w'' => e = .returned (.int .i64 (N : Nat)) ∧ ∃ p : Regrown, w'' = grow (redrawn (w.alloc (.cells #[.int .i64 f, .int .i64 k] 407)) p.d) p.os) := fun dq os => Calls.quiet_same3 (SZ.out _ (K.out.trans (Kept.of_below (below_regrown _ dq os))))
  have G0 := fun d os i => cell_blk (F.out.1.kept (Kept.of_below (below_regrown _ d os)) (fun h => h)) i
  clear MA SZ H
  cases q
  · have hE2 : E = 2 := by rw [← hE]; simp
    subst hE2
    clear hE hm
    go_enter Tryz.func416, Tryz.ntmps416
    go_wp2_with fail
    refine wp_region_quiet_below (by kernel_rfl) (by kernel_rfl) ?_
    repeat (first | go_big_quiet_step (first | exact C1.out _ _ | exact C2.out _ _) | quiet_step (first | exact C1.out _ _ | exact C2.out _ _))
    refine wpQuiet_nil ?_
    intro _ hw'
    obtain ⟨⟨dq, osq⟩, hw''⟩ := hw'
    subst hw''
    have kq := Lib.hid (show Same (w.alloc (.cells #[.int .i64 f, .int .i64 k] 407)) _ from Kept.of_below (below_regrown (w.alloc (.cells #[.int .i64 f, .int .i64 k] 407)) dq osq))
    go_wp2_with fail
    go_ret
    exact ⟨rfl, K.out.trans kq.out⟩
  · replace hm := hm.1 rfl
    have ex1 : IntKind.i64.wrap (4 * k) = 4 * k := IntWalk.i64_in _ (by omega)
    have ex2 : IntKind.i64.wrap (f + 4 * k) = f + 4 * k := IntWalk.i64_in _ (by omega)
    by_cases hle : f + 4 * k ≤ (N : Int)
    · have hE2 : E = 0 := by rw [← hE]; simp [hle]
      subst hE2
      have gd : decide ((N : Int) < f + 4 * k) = false := decide_eq_false (by omega)
      clear hE hle hm
      go_enter Tryz.func416, Tryz.ntmps416
      go_wp2_with fail
      refine wp_region_quiet_below (by kernel_rfl) (by kernel_rfl) ?_
      repeat (quiet_step (first | exact C1.out _ _ | exact C2.out _ _))
      refine wpQuiet_nil ?_
      intro _ hw'
      obtain ⟨⟨dq, osq⟩, hw''⟩ := hw'
      subst hw''
      have kq := Lib.hid (show Same (w.alloc (.cells #[.int .i64 f, .int .i64 k] 407)) _ from Kept.of_below (below_regrown (w.alloc (.cells #[.int .i64 f, .int .i64 k] 407)) dq osq))
      go_wp2_with fail
      go_ret
      exact ⟨rfl, K.out.trans kq.out⟩
    · have hE2 : E = 2 := by rw [← hE]; simp [hle]
      subst hE2
      have gd : decide ((N : Int) < f + 4 * k) = true := decide_eq_true (by omega)
      clear hE hle hm
      go_enter Tryz.func416, Tryz.ntmps416
      go_wp2_with fail
      refine wp_region_quiet_below (by kernel_rfl) (by kernel_rfl) ?_
      repeat (quiet_step (first | exact C1.out _ _ | exact C2.out _ _))
      refine wpQuiet_nil ?_
      intro _ hw'
      obtain ⟨⟨dq, osq⟩, hw''⟩ := hw'
      subst hw''
      have kq := Lib.hid (show Same (w.alloc (.cells #[.int .i64 f, .int .i64 k] 407)) _ from Kept.of_below (below_regrown (w.alloc (.cells #[.int .i64 f, .int .i64 k] 407)) dq osq))
      go_wp2_with fail
      go_ret
      exact ⟨rfl, K.out.trans kq.out⟩
def partG (G i : Nat) : List Nat := ((List.range i).map fun j => G + j) ++ List.replicate (4 - i) 0
theorem partG_len (G : Nat) {i : Nat} (h : i ≤ 4) : (partG G i).length = 4 := by simp [partG]; omega
theorem partG_set (G : Nat) {i : Nat} (h : i < 4) : (partG G i).set i (G + i) = partG G (i + 1) := by
  unfold partG
  rw [List.set_append_right _ _ (by simp), List.length_map, List.length_range, Nat.sub_self]
  rw [show 4 - i = (4 - (i + 1)) + 1 from by omega, List.replicate_succ, List.set_cons_zero, List.range_succ, List.map_append]
  simp
set_option maxRecDepth 100000 in
set_option maxHeartbeats 800000 in
/-- A block's sectors. -/
theorem bl_sectors (f k n : Int) (w : World) :
    Calls Tryz.prog 418 #[areaV f k, .int .i64 n] w fun e w' => ∃ a c, e = .returned (.slice a (secsA f k n).length c) ∧ NatsAt w' .i64 a (secsA f k n) ∧ ((a = none → c = 0) ∧ Far w a) ∧ Same w w' := by
  have MA := Lib.hid fun w' => bl_may f k w'
  have HA := Lib.hid fun w' => bl_has f k n w'
  have hm := @mayB_iff f k
  have hh := @hasB_iff k n
  obtain ⟨L, hL⟩ : ∃ L, secsA f k n = L := ⟨_, rfl⟩
  rw [hL]
  unfold secsA at hL
  have K0 : Same w (w.alloc (.cells #[.int .i64 f, .int .i64 k] 407)) := (Kept.refl _ w).alloc _
  have F0 : Fr (w.alloc (.cells #[.int .i64 f, .int .i64 k] 407)) [(w.heap.size, #[.int .i64 f, .int .i64 k], 407)] := ⟨Blk.new w _ _, trivial⟩
  have K := Lib.hid K0; have F := Lib.hid F0
  unfold areaV at MA HA ⊢
  obtain ⟨q, hq⟩ : ∃ q, mayB f k = q := ⟨_, rfl⟩
  obtain ⟨r, hr⟩ : ∃ r, hasB k n = r := ⟨_, rfl⟩
  rw [hq] at MA hm hL
  rw [hr] at HA hh hL
  clear hq hr K0 F0
  cases q
  · have hL2 : L = [] := by rw [← hL]; simp
    subst hL2
    clear hL hm hh
    go_enter Tryz.func418, Tryz.ntmps418
    go_wp2_with fail
    refine (MA.out _).mono ?_
    rintro e w2 ⟨rfl, k2⟩
    have K2 := Lib.hid (K.out.trans k2)
    go_wp2_with fail
    go_ret
    exact ⟨none, 0, rfl, .inl rfl, ⟨fun _ => rfl, fun x hx => by cases hx⟩, K2.out⟩
  · replace hm := hm.1 rfl
    cases r
    · have hL2 : L = [] := by rw [← hL]; simp
      subst hL2
      clear hL hh
      go_enter Tryz.func418, Tryz.ntmps418
      go_wp2_with fail
      refine (MA.out _).mono ?_
      rintro e w2 ⟨rfl, k2⟩
      have K2 := Lib.hid (K.out.trans k2)
      obtain ⟨p0, f0, -⟩ := (F.out.same k2).rules
      have z0 := (F.out.same k2).1.lt
      clear k2
      go_wp2_with fail
      refine (HA.out _).mono ?_
      rintro e w3 ⟨rfl, k3⟩
      have K3 := Lib.hid (K2.out.trans k3)
      clear p0 f0 z0
      go_wp2_with fail
      go_ret
      exact ⟨none, 0, rfl, .inl rfl, ⟨fun _ => rfl, fun x hx => by cases hx⟩, K3.out⟩
    · replace hh := hh.1 rfl
      obtain ⟨G, hG⟩ : ∃ G : Nat, f + 4 * n = (G : Int) := ⟨(f + 4 * n).toNat, by omega⟩
      have hL2 : L = [G, G + 1, G + 2, G + 3] := by rw [← hL, hG]; simp [List.range, List.range.loop]
      subst hL2
      have HG := Lib.hid hG
      have gb : (G : Int) < 10000 := by omega
      have gb2 : (0 : Int) ≤ 4 * n := by omega
      have gb3 : 4 * n ≤ 4096 := by omega
      clear hL hG
      obtain ⟨hm0, hm1, hm2, hm3⟩ := hm
      obtain ⟨hh0, hh1⟩ := hh
      go_enter Tryz.func418, Tryz.ntmps418
      go_wp2_with fail
      refine (MA.out _).mono ?_
      rintro e w2 ⟨rfl, k2⟩
      have K2 := Lib.hid (K.out.trans k2)
      have F2 := Lib.hid (F.out.same k2)
      obtain ⟨p0, f0, -⟩ := F2.out.rules
      have z0 := F2.out.1.lt
      clear k2
      go_wp2_with fail
      refine (HA.out _).mono ?_
      rintro e w3 ⟨rfl, k3⟩
      have K3 := Lib.hid (K2.out.trans k3)
      have F3 := Lib.hid (F2.out.same k3)
      clear p0 f0 z0 k3
      obtain ⟨p0, f0, -⟩ := F3.out.rules
      have z0 := F3.out.1.lt
      obtain ⟨i0, hi, hz0, hz1, hz2⟩ := info_parts (show (Tryz.prog.info? 3).map (fun i => (i.zero, i.size, i.bytes)) = some (some (.int .i64 0), 1, 8) by kernel_rfl)
      obtain ⟨w1, hrun, hown, hgr⟩ := run_make_full (P := Tryz.prog) w3 w3.heap.size 47 3 i0 (.int .i64 0) 1 Tryz.underlying47 hi hz0 hz1 .i64 .i64 4 (by rw [hz2]; decide) (by decide) (Nat.le_refl _)
      have ho := OwnN.made hown
      have hmk : (Instr.makeSlice 47 (.int .i64 4) (.int .i64 4)).run Tryz.prog w3 = .ok (.slice (some ⟨w3.heap.size, 0, none⟩) 4 4) w1 := hrun
      have k1 : Same w3 w1 := ⟨hgr.os, hgr.tape, hgr.output, hgr.size, fun k hk _ => hgr.block k hk (by simp)⟩
      have K1 := Lib.hid (K3.out.trans k1)
      have F1 := Lib.hid (F3.out.same k1)
      have O1 := Lib.hid (show OwnN w1 w3.heap.size 3 .i64 (.slice (some ⟨w3.heap.size, 0, none⟩) 4 4) (partG G 0) from ho)
      have hsz : w.heap.size < w3.heap.size := z0
      have K3s := K3.out.size
      clear hi hz0 hz1 hz2 hgr hown ho hrun k1 K F K2 F2 K3 F3
      have gh := HG.out
      go_wp2_with fail
      clear p0 f0 z0 hmk
      go_loopw [19] (fun t wr => ∃ i : Nat, t = .int .i64 i ∧ i ≤ 4 ∧ OwnN wr w3.heap.size 3 .i64 (.slice (some ⟨w3.heap.size, 0, none⟩) 4 4) (partG G i) ∧ Fr wr [(w.heap.size, #[.int .i64 f, .int .i64 k], 407)] ∧ Same w wr) (fun t _ => 4 - (intOf t).toNat)
      case atStart => exact ⟨0, rfl, by omega, O1.out, F1.out, K1.out⟩
      case round =>
        clear O1 F1 K1
        obtain ⟨i, rfl, hi, ho, hf, hk⟩ := hrel
        have O2 := Lib.hid ho; have F2 := Lib.hid hf; have K2 := Lib.hid hk
        obtain ⟨p0, f0, -⟩ := hf.rules
        have z0 := hf.1.lt
        have zg := ho.lt.2
        clear ho hf hk
        by_cases hgo : i < 4
        · have h1 : (i : Int) < 4 := by omega
          have h0 : (0 : Int) ≤ (i : Int) := by omega
          obtain ⟨y, hy⟩ : ∃ y, (partG G i)[i]? = some y := ⟨_, List.getElem?_eq_getElem (by rw [partG_len G hi]; exact hgo)⟩
          have cc := O2.out.cell (partG_len G hi) hy
          have ff := fun j => O2.out.free (partG_len G hi) j
          have O3 : Hid (OwnN (wr.setCell ⟨w3.heap.size, i, none⟩ (.int .i64 ((G : Int) + (i : Int)))) w3.heap.size 3 .i64 (.slice (some ⟨w3.heap.size, 0, none⟩) 4 4) (partG G (i + 1))) := by
            show OwnN _ _ _ _ _ _
            rw [← Int.natCast_add, ← partG_set G hgo]
            exact O2.out.set (partG_len G hi) i (G + i)
          have kk : Hid (Kept (fun j => j = w3.heap.size) wr (wr.setCell ⟨w3.heap.size, i, none⟩ (.int .i64 ((G : Int) + (i : Int))))) := (Kept.refl _ _).setG _ _
          clear hy
          go_wp2_with fail
          go_roundw
          case rel => exact ⟨i + 1, by go_num, by omega, O3.out, F2.out.kept kk.out (by intro x hx; simp at hx; subst hx; dsimp only; omega), K2.out.step kk.out (fun i hi q => by omega)⟩
          case measure => simp [intOf]; omega
        · have e : i = 4 := by omega
          subst e
          go_wp2_with fail
          go_ret
          exact ⟨_, 4, rfl, O2.out.nats, ⟨fun h => (by cases h), fun x hx => by cases hx; exact Nat.le_of_lt hsz⟩, K2.out⟩
end Go.Proofs.YtlkgdpdnhnakoaaGreatDoor

namespace Go.Proofs.YtlkgdpdnhnakoaaGreatDoor
open Go.RowKit Go.Sort

set_option maxHeartbeats 800000 in
/-- A block's sectors, or why there are none. -/
theorem bl_asked {w : World} {d bs cap m : Nat} {D : Dsk} (h : DiskIn w d bs cap m D) (f k n : Int) :
    Calls Tryz.prog 354 #[.pointer (some ⟨d, 0, none⟩), areaV f k, .int .i64 n] w fun e w' => ∃ a c, e = .returned (.tuple #[.slice a (if atA D.s.length f k n = 0 then secsA f k n else []).length c, .int .i64 (atA D.s.length f k n : Nat)]) ∧ (NatsAt w' .i64 a (if atA D.s.length f k n = 0 then secsA f k n else []) ∧ Far w a) ∧ Same w w' := by
  have CH := Lib.hid fun w' (kk : Same w w') => bl_check (h.same kk) f k
  have HA := Lib.hid fun w' => bl_has f k n w'
  have SE := Lib.hid fun w' => bl_sectors f k n w'
  obtain ⟨E, hE⟩ : ∃ E, errA D.s.length f k = E := ⟨_, rfl⟩
  obtain ⟨r, hr⟩ : ∃ r, hasB k n = r := ⟨_, rfl⟩
  have hat : atA D.s.length f k n = if E = 0 then (if r = true then 0 else 9) else E := by unfold atA; rw [hE, hr]
  rw [hat]
  simp only [hE] at CH
  rw [hr] at HA
  obtain ⟨L, hL⟩ : ∃ L, secsA f k n = L := ⟨_, rfl⟩
  rw [hL] at SE ⊢
  unfold areaV at CH HA SE ⊢
  clear hE hr hat h hL
  by_cases h0 : E = 0
  · subst h0
    rw [if_pos rfl]
    cases r
    · rw [if_neg (by decide), if_neg (by decide)]
      go_enter Tryz.func354, Tryz.ntmps354
      go_wp2_with fail
      have K0 : Same w (w.alloc (.cells #[.int .i64 f, .int .i64 k] 407)) := (Kept.refl _ w).alloc _
      have F0 : Fr (w.alloc (.cells #[.int .i64 f, .int .i64 k] 407)) [(w.heap.size, #[.int .i64 f, .int .i64 k], 407)] := ⟨Blk.new w _ _, trivial⟩
      have K := Lib.hid K0
      have F := Lib.hid F0
      clear K0 F0
      refine (CH.out _ K.out).mono ?_
      rintro e w2 ⟨rfl, k2⟩
      have hkk := k2
      have KN := Lib.hid (K.out.trans hkk)
      have FN := Lib.hid (F.out.same hkk)
      clear K F hkk
      have K := KN
      have F := FN
      clear KN FN
      obtain ⟨p0, f0, -⟩ := F.out.rules
      have z0 := F.out.1.lt
      clear k2
      go_wp2_with fail
      refine (HA.out _).mono ?_
      rintro e w3 ⟨rfl, k3⟩
      have KN := Lib.hid (K.out.trans k3)
      have FN := Lib.hid (F.out.same k3)
      clear K F k3
      have K := KN
      have F := FN
      clear KN FN
      clear p0 f0 z0
      go_wp2_with fail
      go_ret2
      exact ⟨none, 0, rfl, ⟨.inl rfl, fun x hx => by cases hx⟩, K.out⟩
    · rw [if_pos rfl, if_pos rfl]
      go_enter Tryz.func354, Tryz.ntmps354
      go_wp2_with fail
      have K0 : Same w (w.alloc (.cells #[.int .i64 f, .int .i64 k] 407)) := (Kept.refl _ w).alloc _
      have F0 : Fr (w.alloc (.cells #[.int .i64 f, .int .i64 k] 407)) [(w.heap.size, #[.int .i64 f, .int .i64 k], 407)] := ⟨Blk.new w _ _, trivial⟩
      have K := Lib.hid K0
      have F := Lib.hid F0
      clear K0 F0
      refine (CH.out _ K.out).mono ?_
      rintro e w2 ⟨rfl, k2⟩
      have KN := Lib.hid (K.out.trans k2)
      have FN := Lib.hid (F.out.same k2)
      clear K F k2
      have K := KN
      have F := FN
      clear KN FN
      obtain ⟨p0, f0, -⟩ := F.out.rules
      have z0 := F.out.1.lt
      go_wp2_with fail
      refine (HA.out _).mono ?_
      rintro e w3 ⟨rfl, k3⟩
      have KN := Lib.hid (K.out.trans k3)
      have FN := Lib.hid (F.out.same k3)
      clear K F k3
      have K := KN
      have F := FN
      clear KN FN
      clear p0 f0 z0
      obtain ⟨p0, f0, -⟩ := F.out.rules
      have z0 := F.out.1.lt
      go_wp2_with fail
      refine (SE.out _).mono ?_
      rintro e w4 ⟨a, c, rfl, hn4, ⟨-, hf4⟩, k4⟩
      have HF4 := Lib.hid (show Far w a from hf4.mono K.out.size)
      clear hf4
      have N4 := Lib.hid hn4
      have K4 := Lib.hid (K.out.trans k4)
      clear hn4 k4 p0 f0 z0
      go_wp2_with fail
      go_ret2
      exact ⟨a, c, rfl, ⟨N4.out, HF4.out⟩, K4.out⟩
  · rw [if_neg h0, if_neg h0]
    have g0 : ¬ (E : Int) = 0 := by omega
    go_enter Tryz.func354, Tryz.ntmps354
    go_wp2_with fail
    have K0 : Same w (w.alloc (.cells #[.int .i64 f, .int .i64 k] 407)) := (Kept.refl _ w).alloc _
    have F0 : Fr (w.alloc (.cells #[.int .i64 f, .int .i64 k] 407)) [(w.heap.size, #[.int .i64 f, .int .i64 k], 407)] := ⟨Blk.new w _ _, trivial⟩
    have K := Lib.hid K0
    have F := Lib.hid F0
    clear K0 F0
    refine (CH.out _ K.out).mono ?_
    rintro e w2 ⟨rfl, k2⟩
    have KN := Lib.hid (K.out.trans k2)
    have FN := Lib.hid (F.out.same k2)
    clear K F k2
    have K := KN
    have F := FN
    clear KN FN
    go_wp2_with fail
    go_ret2
    exact ⟨none, 0, rfl, ⟨.inl rfl, fun x hx => by cases hx⟩, K.out⟩

theorem wrs_snoc_ok (D : Dsk) (F : Nat) (cs : List (List Nat)) (c : List Nat) (h : (wrs D F cs).2 = 0) : wrs D F (cs ++ [c]) = writeD (wrs D F cs).1 ((F + cs.length : Nat) : Int) c := by
  induction cs generalizing D F with
  | nil =>
    simp only [List.nil_append, wrs, List.length_nil, Nat.add_zero]
    split
    · rename_i he; rw [Prod.ext_iff]; exact ⟨rfl, he.symm⟩
    · rfl
  | cons x cs ih =>
    simp only [List.cons_append, wrs] at h ⊢
    split at h
    · rename_i he
      rw [if_pos he, if_pos he, ih _ _ h, List.length_cons, show F + 1 + cs.length = F + (cs.length + 1) from by omega]
    · rename_i he; exact absurd h he
theorem wrs_err (D : Dsk) (F : Nat) (cs ds : List (List Nat)) (h : (wrs D F cs).2 ≠ 0) : wrs D F (cs ++ ds) = wrs D F cs := by
  induction cs generalizing D F with
  | nil => exact absurd rfl h
  | cons x cs ih =>
    simp only [List.cons_append, wrs] at h ⊢
    split
    · rename_i he
      rw [if_pos he] at h
      exact ih _ _ h
    · rfl
theorem take_chunks (L : List Nat) {i : Nat} (hi : i < 4) : (chunks L).take (i + 1) = (chunks L).take i ++ [chunk L i] := by
  rcases i with _ | _ | _ | _ | i
  · rfl
  · rfl
  · rfl
  · rfl
  · omega
theorem natsAt_chunk {w : World} {g o : Nat} {L : List Nat} (h : NatsAt w .u8 (some ⟨g, o, none⟩) L) (i : Nat) : NatsAt w .u8 (some ⟨g, o + i * 256, none⟩) (chunk L i) := (h.drop (i * 256)).take 256
set_option maxRecDepth 100000 in
set_option maxHeartbeats 1600000 in
theorem bl_write {w : World} {d bs cap m : Nat} {D : Dsk} (h : DiskIn w d bs cap m D) (f k n : Int) (a : Option Addr) (l c : Nat) (body : List Nat) (hl : l = body.length) (hb : Bts body) (hc : l ≤ c) (hat : NatsAt w .u8 a body) :
    Calls Tryz.prog 392 #[.pointer (some ⟨d, 0, none⟩), areaV f k, .int .i64 n, .slice a l c] w fun e w' => e = .returned (.int .i64 ((writeB D f k n body).2 : Nat)) ∧ DiskIn w' d bs cap m (writeB D f k n body).1 ∧ Kept (dod d bs m) w w' := by
  have H := Lib.hid h
  have l1 := h.box.lt; have l2 := h.safe.lt; have l3 := h.map.lt
  have AS := Lib.hid fun w' (kk : Same w w') => bl_asked (h.same kk) f k n
  have SL := Lib.hid fun w' (kk : Same w w') => cr_seal a l c body hl hb hc w' (hat.same kk)
  obtain ⟨E, hE⟩ : ∃ E, atA D.s.length f k n = E := ⟨_, rfl⟩
  obtain ⟨R, hR⟩ : ∃ R, writeB D f k n body = R := ⟨_, rfl⟩
  have hw : R = if E = 0 then (if body.length ≤ 1016 then wrs D (f + 4 * n).toNat (chunks (sealC body)) else (D, 5)) else (D, E) := by rw [← hR, ← hE]; rfl
  rw [hR]
  simp only [hE] at AS
  unfold areaV at AS ⊢
  clear hR h hat
  by_cases h0 : E = 0
  · subst h0
    rw [if_pos rfl] at hw
    obtain ⟨G, hG, hG1, hG2⟩ := secsA_eq hE
    rw [show (f + 4 * n).toNat = G from by omega] at hw
    simp only [if_true, hG] at AS
    clear hG hG1 hE
    by_cases hbig : body.length ≤ 1016
    · rw [if_pos hbig] at hw
      have hs : sealP body = (sealC body, 0) := if_pos hbig
      rw [hs] at SL
      have SC := Lib.hid (sealC_len hbig)
      have SB := Lib.hid (sealC_bts hbig hb)
      obtain ⟨L, hL⟩ : ∃ L, sealC body = L := ⟨_, rfl⟩
      rw [hL] at SL SC SB hw
      simp only [Int.natCast_zero] at SL AS
      have HW := Lib.hid hw
      clear hs hL hw hl hc
      go_enter Tryz.func392, Tryz.ntmps392
      go_wp2_with fail
      have K0 : Same w (w.alloc (.cells #[.int .i64 f, .int .i64 k] 407)) := (Kept.refl _ w).alloc _
      have F0 : Fr (w.alloc (.cells #[.int .i64 f, .int .i64 k] 407)) [(w.heap.size, #[.int .i64 f, .int .i64 k], 407)] := ⟨Blk.new w _ _, trivial⟩
      have K := Lib.hid K0
      have F := Lib.hid F0
      clear K0 F0
      refine (AS.out _ K.out).mono ?_
      rintro e w2 ⟨a2, c2, rfl, ⟨n2, f2⟩, k2⟩
      have N2 := Lib.hid n2
      have F2 := Lib.hid (show Far w a2 from f2.mono K.out.size)
      have KN := Lib.hid (K.out.trans k2)
      have FN := Lib.hid (F.out.same k2)
      clear K F k2
      have K := KN
      have F := FN
      clear KN FN
      clear n2 f2
      go_wp2_with fail
      refine (SL.out _ K.out).mono ?_
      rintro e w3 ⟨a3, c3, rfl, n3, hc3, f3, k3⟩
      have N3 := Lib.hid n3
      have hc4 : 1024 ≤ c3 := by have := SC.out; omega
      have F3 := Lib.hid (show ∀ x, a3 = some x → w.heap.size ≤ x.block from fun x hx => Nat.le_trans K.out.size (f3 x hx))
      have N2' := Lib.hid (N2.out.same k3)
      have KN := Lib.hid (K.out.trans k3)
      have FN := Lib.hid (F.out.same k3)
      clear K F k3
      have K := KN
      have F := FN
      clear KN FN
      clear n3 f3 N2 hc3
      dsimp only at N3 ⊢
      obtain ⟨gb, ob, rfl, hgb⟩ : ∃ gb ob, a3 = some ⟨gb, ob, none⟩ ∧ gb < w3.heap.size := by
        rcases N3.out with q | ⟨gb, ob, q, hlt, _⟩
        · have := SC.out; rw [q] at this; cases this
        · exact ⟨gb, ob, q, hlt⟩
      obtain ⟨gs, os, rfl, hgs⟩ : ∃ gs os, a2 = some ⟨gs, os, none⟩ ∧ gs < w3.heap.size := by
        rcases N2'.out with q | ⟨gs, os, q, hlt, _⟩
        · cases q
        · exact ⟨gs, os, q, hlt⟩
      have hgb1 := F3.out _ rfl
      have hgs1 := F2.out _ rfl
      dsimp only at hgb1 hgs1
      have hdb : ¬ dod d bs m gb := by rintro (q | q | q) <;> omega
      have hds : ¬ dod d bs m gs := by rintro (q | q | q) <;> omega
      have hLl : L.length = 1024 := SC.out
      rw [hLl]
      clear hLl
      have D0 : Hid (DiskIn w3 d bs cap m D) := H.out.same K.out
      have K0 : Hid (Kept (dod d bs m) w w3) := K.out.mono (fun _ _ q => q.elim)
      go_wp2_with fail
      go_loopw [35] (fun t wr => ∃ (i : Nat) (D' : Dsk), t = .int .i64 i ∧ i ≤ 4 ∧ wrs D G ((chunks L).take i) = (D', 0) ∧ DiskIn wr d bs cap m D' ∧ Kept (dod d bs m) w wr ∧ Kept (dod d bs m) w3 wr) (fun t _ => 4 - (intOf t).toNat)
      case atStart => exact ⟨0, D, rfl, by omega, rfl, D0.out, K0.out, Kept.refl _ _⟩
      case round =>
        clear D0 K0 F K
        obtain ⟨i, D', rfl, hi, hwr, hd, hk, hk3⟩ := hrel
        have DI := Lib.hid hd; have HK := Lib.hid hk; have HK3 := Lib.hid hk3; have HWR := Lib.hid hwr
        have NB := Lib.hid (N3.out.kept hk3 (fun x hx => by cases hx; exact hdb))
        have NS := Lib.hid (N2'.out.kept hk3 (fun x hx => by cases hx; exact hds))
        clear hd hk hk3 hwr
        by_cases hgo : i < 4
        · have h1 : (i : Int) < 4 := by omega
          have h0 : (0 : Int) ≤ (i : Int) := by omega
          have hci := nats_get NS.out (i := i) hgo
          have hgi : ([G, G + 1, G + 2, G + 3] : List Nat).getD i 0 = G + i := by
            rcases i with _ | _ | _ | _ | i
            · rfl
            · rfl
            · rfl
            · rfl
            · omega
          rw [hgi] at hci
          have hst := wrs_snoc_ok D G ((chunks L).take i) (chunk L i) (by rw [HWR.out])
          rw [← take_chunks L hgo, HWR.out, List.length_take, show min i (chunks L).length = i from by show min i 4 = i; omega] at hst
          have HST := Lib.hid hst
          have CL := Lib.hid (chunk_len SC.out hgo)
          have CB := Lib.hid (chunk_bts SB.out i)
          have NC := Lib.hid (natsAt_chunk NB.out i)
          have hsp : chunks L = (chunks L).take (i + 1) ++ (chunks L).drop (i + 1) := (List.take_append_drop _ _).symm
          obtain ⟨W, hW⟩ : ∃ W, writeD D' ((G + i : Nat) : Int) (chunk L i) = W := ⟨_, rfl⟩
          rw [hW] at hst
          have SW := Lib.hid (sd_write DI.out ((G + i : Nat) : Int) (some ⟨gb, ob + i * 256, none⟩) ((i + 1) * 256 - i * 256) (c3 - i * 256) (chunk L i) (by rw [CL.out]; omega) CB.out NC.out)
          rw [hW] at SW
          rw [Int.natCast_add] at SW
          by_cases hw0 : W.2 = 0
          · rw [hw0] at SW
            have HN : Hid (wrs D G ((chunks L).take (i + 1)) = (W.1, 0)) := by show _ = _; rw [hst, ← hw0]
            clear hgi hst hsp hW hw0 CL CB NC HST
            go_wp2_with fail
            refine SW.out.mono ?_
            rintro e w5 ⟨rfl, h5, k5⟩
            have D5 := Lib.hid h5
            have K5 := Lib.hid (HK.out.trans k5)
            have K6 := Lib.hid (HK3.out.trans k5)
            clear h5 k5 DI HK HK3
            go_wp2_with fail
            go_roundw
            case rel => exact ⟨i + 1, W.1, by go_num, by omega, HN.out, D5.out, K5.out, K6.out⟩
            case measure => simp [intOf]; omega
          · have HN : Hid (R = W) := by
              refine HW.out.trans ?_
              rw [hsp, wrs_err _ _ _ _ (by rw [hst]; exact hw0), hst]
            have gw : ¬ ((W.2 : Nat) : Int) = 0 := by omega
            clear hgi hst hsp hW CL CB NC HST
            go_wp2_with fail
            refine SW.out.mono ?_
            rintro e w5 ⟨rfl, h5, k5⟩
            have D5 := Lib.hid h5
            have K5 := Lib.hid (HK.out.trans k5)
            clear h5 k5 DI HK HK3
            go_wp2_with fail
            go_ret
            rw [HN.out]
            exact ⟨rfl, D5.out, K5.out⟩
        · have e : i = 4 := by omega
          subst e
          have HRR : Hid (R = (D', 0)) := HW.out.trans HWR.out
          go_wp2_with fail
          go_ret
          rw [HRR.out]
          exact ⟨rfl, DI.out, HK.out⟩
    · rw [if_neg hbig] at hw
      have hs : sealP body = ([], 5) := if_neg hbig
      rw [hs] at SL
      subst hw
      clear hs hl hc
      go_enter Tryz.func392, Tryz.ntmps392
      go_wp2_with fail
      have K0 : Same w (w.alloc (.cells #[.int .i64 f, .int .i64 k] 407)) := (Kept.refl _ w).alloc _
      have F0 : Fr (w.alloc (.cells #[.int .i64 f, .int .i64 k] 407)) [(w.heap.size, #[.int .i64 f, .int .i64 k], 407)] := ⟨Blk.new w _ _, trivial⟩
      have K := Lib.hid K0
      have F := Lib.hid F0
      clear K0 F0
      refine (AS.out _ K.out).mono ?_
      rintro e w2 ⟨a2, c2, rfl, ⟨-, -⟩, k2⟩
      have KN := Lib.hid (K.out.trans k2)
      have FN := Lib.hid (F.out.same k2)
      clear K F k2
      have K := KN
      have F := FN
      clear KN FN
      go_wp2_with fail
      refine (SL.out _ K.out).mono ?_
      rintro e w3 ⟨a3, c3, rfl, -, -, -, k3⟩
      have KN := Lib.hid (K.out.trans k3)
      have FN := Lib.hid (F.out.same k3)
      clear K F k3
      have K := KN
      have F := FN
      clear KN FN
      go_wp2_with fail
      go_ret
      exact ⟨rfl, H.out.same K.out, K.out.mono (fun _ _ q => q.elim)⟩
  · rw [if_neg h0] at hw
    have g0 : ¬ (E : Int) = 0 := by omega
    subst hw
    simp only [if_neg h0] at AS
    clear hl hc hE
    go_enter Tryz.func392, Tryz.ntmps392
    go_wp2_with fail
    have K0 : Same w (w.alloc (.cells #[.int .i64 f, .int .i64 k] 407)) := (Kept.refl _ w).alloc _
    have F0 : Fr (w.alloc (.cells #[.int .i64 f, .int .i64 k] 407)) [(w.heap.size, #[.int .i64 f, .int .i64 k], 407)] := ⟨Blk.new w _ _, trivial⟩
    have K := Lib.hid K0
    have F := Lib.hid F0
    clear K0 F0
    refine (AS.out _ K.out).mono ?_
    rintro e w2 ⟨a2, c2, rfl, ⟨-, -⟩, k2⟩
    have KN := Lib.hid (K.out.trans k2)
    have FN := Lib.hid (F.out.same k2)
    clear K F k2
    have K := KN
    have F := FN
    clear KN FN
    go_wp2_with fail
    go_ret
    exact ⟨rfl, H.out.same K.out, K.out.mono (fun _ _ q => q.elim)⟩
end Go.Proofs.YtlkgdpdnhnakoaaGreatDoor

namespace Go.Proofs.YtlkgdpdnhnakoaaGreatDoor
open Go.RowKit Go.Sort

section
attribute [local go_sem ↓] exec_cpy semAt_cpy
attribute [local go_sem] isCpy_lit appA appX
end
end Go.Proofs.YtlkgdpdnhnakoaaGreatDoor

namespace Go.Proofs.YtlkgdpdnhnakoaaGreatDoor
open Go.RowKit Go.Sort

section
attribute [local go_sem ↓] exec_app semAt_app
attribute [local go_sem] isApp_lit appA appX
end
end Go.Proofs.YtlkgdpdnhnakoaaGreatDoor

namespace Go.Proofs.YtlkgdpdnhnakoaaGreatDoor
open Go.RowKit Go.Sort

end Go.Proofs.YtlkgdpdnhnakoaaGreatDoor
