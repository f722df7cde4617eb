/- An area's plain calls: may, has, Check, Sectors, asked. -/
import Derived.Test.YtlmpkonfclnceaaBlkP
import Derived.Test.YtlmpkonfclnceaaSame3
import Derived.Test.YtlmpkonfclnceaaDo3
namespace Go.Proofs.Ytlmpkonfclnceaa
open Go.RowKit Go.Sort

theorem Calls.quiet_sameS {P : Program} {f : FuncId} {args : Array Value} {w : World} {d : Nat} {os : Array Obj} {v : Value}
    (h : Calls P f args (grow (redrawn w d) os) fun e w' => e = .returned v ∧ Same (grow (redrawn w d) os) w') : Calls P f args (grow (redrawn w d) os) fun e w'' => e = .returned v ∧ ∃ p : Regrown, w'' = grow (redrawn w p.d) p.os :=
  Calls.regrown_of (h.mono fun _ _ ⟨h1, h2⟩ => ⟨h1, h2.below (Nat.le_refl _) (fun _ _ h => h)⟩)
def areaV (f k : Int) : Value := .agg #[.int .i64 f, .int .i64 k]
theorem bl_may (f k : Int) (w : World) : Calls Try.prog 73 #[areaV f k] w fun e w' => e = .returned (.bool (mayB f k)) ∧ Same w w' := by
  unfold areaV
  obtain ⟨q, hq⟩ : ∃ q, mayB f k = q := ⟨_, rfl⟩
  rw [hq]
  have hbb := hq
  unfold mayB at hbb
  clear hq
  by_cases h1 : 0 ≤ f
  · by_cases h2 : f ≤ 4096
    · by_cases h3 : 0 ≤ k
      · by_cases h4 : k ≤ 512
        · have hb : q = true := by rw [← hbb]; simp [h1, h2, h3, h4]
          clear hbb
          subst hb
          go_enter Try.func73, Try.ntmps73
          go_wp2_with fail
          go_ret
          exact ⟨rfl, (Kept.refl _ w).alloc _⟩
        · have hb : q = false := by rw [← hbb]; simp [h4]
          clear hbb
          subst hb
          go_enter Try.func73, Try.ntmps73
          go_wp2_with fail
          go_ret
          exact ⟨rfl, (Kept.refl _ w).alloc _⟩
      · have hb : q = false := by rw [← hbb]; simp [h3]
        clear hbb
        subst hb
        go_enter Try.func73, Try.ntmps73
        go_wp2_with fail
        go_ret
        exact ⟨rfl, (Kept.refl _ w).alloc _⟩
    · have hb : q = false := by rw [← hbb]; simp [h2]
      clear hbb
      subst hb
      go_enter Try.func73, Try.ntmps73
      go_wp2_with fail
      go_ret
      exact ⟨rfl, (Kept.refl _ w).alloc _⟩
  · have hb : q = false := by rw [← hbb]; simp [h1]
    clear hbb
    subst hb
    go_enter Try.func73, Try.ntmps73
    go_wp2_with fail
    go_ret
    exact ⟨rfl, (Kept.refl _ w).alloc _⟩
theorem bl_has (f k n : Int) (w : World) : Calls Try.prog 74 #[areaV f k, .int .i64 n] w fun e w' => e = .returned (.bool (hasB k n)) ∧ Same w w' := by
  unfold areaV
  obtain ⟨q, hq⟩ : ∃ q, hasB k n = q := ⟨_, rfl⟩
  rw [hq]
  have hbb := hq
  unfold hasB at hbb
  clear hq
  by_cases h1 : 0 ≤ n
  · by_cases h2 : n < k
    · have hb : q = true := by rw [← hbb]; simp [h1, h2]
      clear hbb
      subst hb
      go_enter Try.func74, Try.ntmps74
      go_wp2_with fail
      go_ret
      exact ⟨rfl, (Kept.refl _ w).alloc _⟩
    · have hb : q = false := by rw [← hbb]; simp [h2]
      clear hbb
      subst hb
      go_enter Try.func74, Try.ntmps74
      go_wp2_with fail
      go_ret
      exact ⟨rfl, (Kept.refl _ w).alloc _⟩
  · have hb : q = false := by rw [← hbb]; simp [h1]
    clear hbb
    subst hb
    go_enter Try.func74, Try.ntmps74
    go_wp2_with fail
    go_ret
    exact ⟨rfl, (Kept.refl _ w).alloc _⟩
theorem bl_check_nil (f k : Int) (w : World) : Calls Try.prog 33 #[.pointer none, areaV f k] w fun e w' => e = .returned (.int .i64 1) ∧ Same w w' := by
  unfold areaV
  go_enter Try.func33, Try.ntmps33
  go_wp2_with fail
  go_ret
  exact ⟨rfl, (Kept.refl _ w).alloc _⟩
set_option maxRecDepth 100000 in
set_option maxHeartbeats 800000 in
theorem bl_check {w : World} {d bs cap m : Nat} {D : Dsk} (h : DiskIn w d bs cap m D) (f k : Int) :
    Calls Try.prog 33 #[.pointer (some ⟨d, 0, none⟩), areaV f k] w fun e w' => e = .returned (.int .i64 (errA D.s.length f k : Nat)) ∧ Same w w' := by
  have H := Lib.hid h
  have hfew := h.ok.few
  have MA := Lib.hid fun w' => bl_may f k w'
  have SZ := Lib.hid fun w' (kk : Same w w') => sd_size (h.same kk)
  have hm := @mayB_iff f k
  obtain ⟨N, hN⟩ : ∃ N, D.s.length = N := ⟨_, rfl⟩
  rw [hN] at SZ hfew
  rw [hN]
  have K0 : Same w (w.alloc (.cells #[.int .i64 f, .int .i64 k] 57)) := (Kept.refl _ w).alloc _
  have F0 : Fr (w.alloc (.cells #[.int .i64 f, .int .i64 k] 57)) [(w.heap.size, #[.int .i64 f, .int .i64 k], 57)] := ⟨Blk.new w _ _, trivial⟩
  have K := Lib.hid K0; have F := Lib.hid F0
  obtain ⟨E, hE⟩ : ∃ E, errA N f k = E := ⟨_, rfl⟩
  rw [hE]
  unfold errA at hE
  unfold areaV at MA ⊢
  obtain ⟨q, hq⟩ : ∃ q, mayB f k = q := ⟨_, rfl⟩
  rw [hq] at MA hm hE
  clear h hN hq K0 F0
  have C1 : Hid (∀ dq os, Calls Try.prog 73 #[.agg #[.int .i64 f, .int .i64 k]] (grow (redrawn (w.alloc (.cells #[.int .i64 f, .int .i64 k] 57)) dq) os) fun e w'' => e = .returned (.bool q) ∧ ∃ p : Regrown, w'' = grow (redrawn (w.alloc (.cells #[.int .i64 f, .int .i64 k] 57)) p.d) p.os) := fun dq os => Calls.quiet_sameS (MA.out _)
  have C2 : Hid (∀ dq os, Calls Try.prog 23 #[.pointer (some ⟨d, 0, none⟩)] (grow (redrawn (w.alloc (.cells #[.int .i64 f, .int .i64 k] 57)) dq) os) fun e w'' => e = .returned (.int .i64 (N : Nat)) ∧ ∃ p : Regrown, w'' = grow (redrawn (w.alloc (.cells #[.int .i64 f, .int .i64 k] 57)) p.d) p.os) := fun dq os => Calls.quiet_same3 (SZ.out _ (K.out.trans (Kept.of_below (below_regrown _ dq os))))
  have G0 := fun d os i => cell_blk (F.out.1.kept (Kept.of_below (below_regrown _ d os)) (fun h => h)) i
  clear MA SZ H
  cases q
  · have hE2 : E = 2 := by rw [← hE]; simp
    subst hE2
    clear hE hm
    go_enter Try.func33, Try.ntmps33
    go_wp2_with fail
    refine wp_region_quiet_below (by kernel_rfl) (by kernel_rfl) ?_
    repeat (first | go_big_quiet_step (first | exact C1.out _ _ | exact C2.out _ _) | quiet_step (first | exact C1.out _ _ | exact C2.out _ _))
    refine wpQuiet_nil ?_
    intro _ hw'
    obtain ⟨⟨dq, osq⟩, hw''⟩ := hw'
    subst hw''
    have kq := Lib.hid (show Same (w.alloc (.cells #[.int .i64 f, .int .i64 k] 57)) _ from Kept.of_below (below_regrown (w.alloc (.cells #[.int .i64 f, .int .i64 k] 57)) dq osq))
    go_wp2_with fail
    go_ret
    exact ⟨rfl, K.out.trans kq.out⟩
  · replace hm := hm.1 rfl
    have ex1 : IntKind.i64.wrap (4 * k) = 4 * k := IntWalk.i64_in _ (by omega)
    have ex2 : IntKind.i64.wrap (f + 4 * k) = f + 4 * k := IntWalk.i64_in _ (by omega)
    by_cases hle : f + 4 * k ≤ (N : Int)
    · have hE2 : E = 0 := by rw [← hE]; simp [hle]
      subst hE2
      have gd : decide ((N : Int) < f + 4 * k) = false := decide_eq_false (by omega)
      clear hE hle hm
      go_enter Try.func33, Try.ntmps33
      go_wp2_with fail
      refine wp_region_quiet_below (by kernel_rfl) (by kernel_rfl) ?_
      repeat (quiet_step (first | exact C1.out _ _ | exact C2.out _ _))
      refine wpQuiet_nil ?_
      intro _ hw'
      obtain ⟨⟨dq, osq⟩, hw''⟩ := hw'
      subst hw''
      have kq := Lib.hid (show Same (w.alloc (.cells #[.int .i64 f, .int .i64 k] 57)) _ from Kept.of_below (below_regrown (w.alloc (.cells #[.int .i64 f, .int .i64 k] 57)) dq osq))
      go_wp2_with fail
      go_ret
      exact ⟨rfl, K.out.trans kq.out⟩
    · have hE2 : E = 2 := by rw [← hE]; simp [hle]
      subst hE2
      have gd : decide ((N : Int) < f + 4 * k) = true := decide_eq_true (by omega)
      clear hE hle hm
      go_enter Try.func33, Try.ntmps33
      go_wp2_with fail
      refine wp_region_quiet_below (by kernel_rfl) (by kernel_rfl) ?_
      repeat (quiet_step (first | exact C1.out _ _ | exact C2.out _ _))
      refine wpQuiet_nil ?_
      intro _ hw'
      obtain ⟨⟨dq, osq⟩, hw''⟩ := hw'
      subst hw''
      have kq := Lib.hid (show Same (w.alloc (.cells #[.int .i64 f, .int .i64 k] 57)) _ from Kept.of_below (below_regrown (w.alloc (.cells #[.int .i64 f, .int .i64 k] 57)) dq osq))
      go_wp2_with fail
      go_ret
      exact ⟨rfl, K.out.trans kq.out⟩
def partG (G i : Nat) : List Nat := ((List.range i).map fun j => G + j) ++ List.replicate (4 - i) 0
theorem partG_len (G : Nat) {i : Nat} (h : i ≤ 4) : (partG G i).length = 4 := by simp [partG]; omega
theorem partG_set (G : Nat) {i : Nat} (h : i < 4) : (partG G i).set i (G + i) = partG G (i + 1) := by
  unfold partG
  rw [List.set_append_right _ _ (by simp), List.length_map, List.length_range, Nat.sub_self]
  rw [show 4 - i = (4 - (i + 1)) + 1 from by omega, List.replicate_succ, List.set_cons_zero, List.range_succ, List.map_append]
  simp
set_option maxRecDepth 100000 in
set_option maxHeartbeats 800000 in
/-- A block's sectors. -/
theorem bl_sectors (f k n : Int) (w : World) :
    Calls Try.prog 32 #[areaV f k, .int .i64 n] w fun e w' => ∃ a c, e = .returned (.slice a (secsA f k n).length c) ∧ NatsAt w' .i64 a (secsA f k n) ∧ ((a = none → c = 0) ∧ Far w a) ∧ Same w w' := by
  have MA := Lib.hid fun w' => bl_may f k w'
  have HA := Lib.hid fun w' => bl_has f k n w'
  have hm := @mayB_iff f k
  have hh := @hasB_iff k n
  obtain ⟨L, hL⟩ : ∃ L, secsA f k n = L := ⟨_, rfl⟩
  rw [hL]
  unfold secsA at hL
  have K0 : Same w (w.alloc (.cells #[.int .i64 f, .int .i64 k] 57)) := (Kept.refl _ w).alloc _
  have F0 : Fr (w.alloc (.cells #[.int .i64 f, .int .i64 k] 57)) [(w.heap.size, #[.int .i64 f, .int .i64 k], 57)] := ⟨Blk.new w _ _, trivial⟩
  have K := Lib.hid K0; have F := Lib.hid F0
  unfold areaV at MA HA ⊢
  obtain ⟨q, hq⟩ : ∃ q, mayB f k = q := ⟨_, rfl⟩
  obtain ⟨r, hr⟩ : ∃ r, hasB k n = r := ⟨_, rfl⟩
  rw [hq] at MA hm hL
  rw [hr] at HA hh hL
  clear hq hr K0 F0
  cases q
  · have hL2 : L = [] := by rw [← hL]; simp
    subst hL2
    clear hL hm hh
    go_enter Try.func32, Try.ntmps32
    go_wp2_with fail
    refine (MA.out _).mono ?_
    rintro e w2 ⟨rfl, k2⟩
    have K2 := Lib.hid (K.out.trans k2)
    go_wp2_with fail
    go_ret
    exact ⟨none, 0, rfl, .inl rfl, ⟨fun _ => rfl, fun x hx => by cases hx⟩, K2.out⟩
  · replace hm := hm.1 rfl
    cases r
    · have hL2 : L = [] := by rw [← hL]; simp
      subst hL2
      clear hL hh
      go_enter Try.func32, Try.ntmps32
      go_wp2_with fail
      refine (MA.out _).mono ?_
      rintro e w2 ⟨rfl, k2⟩
      have K2 := Lib.hid (K.out.trans k2)
      obtain ⟨p0, f0, -⟩ := (F.out.same k2).rules
      have z0 := (F.out.same k2).1.lt
      clear k2
      go_wp2_with fail
      refine (HA.out _).mono ?_
      rintro e w3 ⟨rfl, k3⟩
      have K3 := Lib.hid (K2.out.trans k3)
      clear p0 f0 z0
      go_wp2_with fail
      go_ret
      exact ⟨none, 0, rfl, .inl rfl, ⟨fun _ => rfl, fun x hx => by cases hx⟩, K3.out⟩
    · replace hh := hh.1 rfl
      obtain ⟨G, hG⟩ : ∃ G : Nat, f + 4 * n = (G : Int) := ⟨(f + 4 * n).toNat, by omega⟩
      have hL2 : L = [G, G + 1, G + 2, G + 3] := by rw [← hL, hG]; simp [List.range, List.range.loop]
      subst hL2
      have HG := Lib.hid hG
      have gb : (G : Int) < 10000 := by omega
      have gb2 : (0 : Int) ≤ 4 * n := by omega
      have gb3 : 4 * n ≤ 4096 := by omega
      clear hL hG
      obtain ⟨hm0, hm1, hm2, hm3⟩ := hm
      obtain ⟨hh0, hh1⟩ := hh
      go_enter Try.func32, Try.ntmps32
      go_wp2_with fail
      refine (MA.out _).mono ?_
      rintro e w2 ⟨rfl, k2⟩
      have K2 := Lib.hid (K.out.trans k2)
      have F2 := Lib.hid (F.out.same k2)
      obtain ⟨p0, f0, -⟩ := F2.out.rules
      have z0 := F2.out.1.lt
      clear k2
      go_wp2_with fail
      refine (HA.out _).mono ?_
      rintro e w3 ⟨rfl, k3⟩
      have K3 := Lib.hid (K2.out.trans k3)
      have F3 := Lib.hid (F2.out.same k3)
      clear p0 f0 z0 k3
      obtain ⟨p0, f0, -⟩ := F3.out.rules
      have z0 := F3.out.1.lt
      obtain ⟨i0, hi, hz0, hz1, hz2⟩ := info_parts (show (Try.prog.info? 3).map (fun i => (i.zero, i.size, i.bytes)) = some (some (.int .i64 0), 1, 8) by kernel_rfl)
      obtain ⟨w1, hrun, hown, hgr⟩ := run_make_full (P := Try.prog) w3 w3.heap.size 38 3 i0 (.int .i64 0) 1 Try.underlying38 hi hz0 hz1 .i64 .i64 4 (by rw [hz2]; decide) (by decide) (Nat.le_refl _)
      have ho := OwnN.made hown
      have hmk : (Instr.makeSlice 38 (.int .i64 4) (.int .i64 4)).run Try.prog w3 = .ok (.slice (some ⟨w3.heap.size, 0, none⟩) 4 4) w1 := hrun
      have k1 : Same w3 w1 := ⟨hgr.os, hgr.tape, hgr.output, hgr.size, fun k hk _ => hgr.block k hk (by simp)⟩
      have K1 := Lib.hid (K3.out.trans k1)
      have F1 := Lib.hid (F3.out.same k1)
      have O1 := Lib.hid (show OwnN w1 w3.heap.size 3 .i64 (.slice (some ⟨w3.heap.size, 0, none⟩) 4 4) (partG G 0) from ho)
      have hsz : w.heap.size < w3.heap.size := z0
      have K3s := K3.out.size
      clear hi hz0 hz1 hz2 hgr hown ho hrun k1 K F K2 F2 K3 F3
      have gh := HG.out
      go_wp2_with fail
      clear p0 f0 z0 hmk
      go_loopw [19] (fun t wr => ∃ i : Nat, t = .int .i64 i ∧ i ≤ 4 ∧ OwnN wr w3.heap.size 3 .i64 (.slice (some ⟨w3.heap.size, 0, none⟩) 4 4) (partG G i) ∧ Fr wr [(w.heap.size, #[.int .i64 f, .int .i64 k], 57)] ∧ Same w wr) (fun t _ => 4 - (intOf t).toNat)
      case atStart => exact ⟨0, rfl, by omega, O1.out, F1.out, K1.out⟩
      case round =>
        clear O1 F1 K1
        obtain ⟨i, rfl, hi, ho, hf, hk⟩ := hrel
        have O2 := Lib.hid ho; have F2 := Lib.hid hf; have K2 := Lib.hid hk
        obtain ⟨p0, f0, -⟩ := hf.rules
        have z0 := hf.1.lt
        have zg := ho.lt.2
        clear ho hf hk
        by_cases hgo : i < 4
        · have h1 : (i : Int) < 4 := by omega
          have h0 : (0 : Int) ≤ (i : Int) := by omega
          obtain ⟨y, hy⟩ : ∃ y, (partG G i)[i]? = some y := ⟨_, List.getElem?_eq_getElem (by rw [partG_len G hi]; exact hgo)⟩
          have cc := O2.out.cell (partG_len G hi) hy
          have ff := fun j => O2.out.free (partG_len G hi) j
          have O3 : Hid (OwnN (wr.setCell ⟨w3.heap.size, i, none⟩ (.int .i64 ((G : Int) + (i : Int)))) w3.heap.size 3 .i64 (.slice (some ⟨w3.heap.size, 0, none⟩) 4 4) (partG G (i + 1))) := by
            show OwnN _ _ _ _ _ _
            rw [← Int.natCast_add, ← partG_set G hgo]
            exact O2.out.set (partG_len G hi) i (G + i)
          have kk : Hid (Kept (fun j => j = w3.heap.size) wr (wr.setCell ⟨w3.heap.size, i, none⟩ (.int .i64 ((G : Int) + (i : Int))))) := (Kept.refl _ _).setG _ _
          clear hy
          go_wp2_with fail
          go_roundw
          case rel => exact ⟨i + 1, by go_num, by omega, O3.out, F2.out.kept kk.out (by intro x hx; simp at hx; subst hx; dsimp only; omega), K2.out.step kk.out (fun i hi q => by omega)⟩
          case measure => simp [intOf]; omega
        · have e : i = 4 := by omega
          subst e
          go_wp2_with fail
          go_ret
          exact ⟨_, 4, rfl, O2.out.nats, ⟨fun h => (by cases h), fun x hx => by cases hx; exact Nat.le_of_lt hsz⟩, K2.out⟩
end Go.Proofs.Ytlmpkonfclnceaa
