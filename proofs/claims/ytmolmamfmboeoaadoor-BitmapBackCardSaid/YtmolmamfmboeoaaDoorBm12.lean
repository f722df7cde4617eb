/- Walks over package bitmap: Put. -/
import Derived.Test.YtmolmamfmboeoaaDoorBm11
import Derived.RangeFuncBox
import Derived.Maps.AppendAt
import Derived.Stop.RegionWithIn
namespace Go.Proofs.YtmolmamfmboeoaaDoor
open Go.RowKit Go.Shelf
attribute [local go_sem] Oper.semAt_some
attribute [local go_sem ↓] exec_app semAt_app
attribute [local go_sem] isApp_lit appA appX

theorem NatsAt.home {w : World} {k : IntKind} {a : Option Addr} {xs : List Nat} (h : NatsAt w k a xs) : xs = [] ∨ ∀ x, a = some x → x.block < w.heap.size := by
  rcases h with h | ⟨b, off, rfl, hlt, _⟩
  · exact .inl h
  · exact .inr fun x hx => by cases hx; exact hlt
theorem TabOK.home {w : World} (h : TabOK w) : 0 < w.heap.size := World.block_lt_of_cell? w ⟨0, 0, none⟩ (h 0 (by decide))
theorem TabOK.below {w w' : World} {n0 : Nat} (h : TabOK w) (hb : Below n0 w w') (hg : 0 < n0) : TabOK w' := fun i hi => (hb.cell (p := ⟨0, i, none⟩) hg).trans (h i hi)

theorem bm_runs (s : Nat) (a : Option Addr) (L cap : Nat) (w : World) :
    Calls Tryd.prog 49 #[mapV s a L cap] w fun e w' => e = .returned (.func (.func 59) #[] #[.pointer (some ⟨w.heap.size, 0, none⟩)]) ∧ w' = w.alloc (.cells #[.int .i64 (s : Nat), .slice a L cap] 27) := by
  go_enter Tryd.func49, Tryd.ntmps49
  go_wp2
  go_ret
  exact ⟨rfl, rfl⟩

theorem runs_stops (n : Nat) (hn : 1 ≤ n) (B n0 : Nat) (s : Nat) (a : Option Addr) (cap : Nat) (ws : List Nat) (w : World) (hw : Words ws) (hm : mapOK s ws = true) (hn0 : n0 ≤ w.heap.size) (ha : ws = [] ∨ ∀ x, a = some x → x.block < n0) (hg : 0 < n0) (hs : s ≤ 4096)
    (hB : Blk w B #[.int .i64 (s : Nat), .slice a ws.length cap] 27) (hat : NatsAt w .u64 a ws) (hT : TabOK w) :
    SeqStopsK Fence.wide n Tryd.prog 59 #[.pointer (some ⟨B, 0, none⟩)] (fun x : Int => #[Value.int .i64 x]) (KeptBox n0 B) (fun ys => ys = (runsL s ws).map (fun x : Nat => (x : Int))) (fun pre => pre <+: (runsL s ws).map (fun x : Nat => (x : Int))) (runsL s ws).length w :=
  fun l J Jx W hW hJ _ hY h0 => runs_in n hn l B n0 s a cap ws J Jx hw hm ha hg hs (fun pre W W' h g => hJ pre W W' none h g (fun r e => by cases e)) hY W
    (by show W.heap[B]? = _; rw [hW.block B hB.lt]; exact hB) (hat.below (hW.mono hn0) ha) (hT.below (hW.mono hn0) hg) h0

theorem keptBox_t {n0 B : Nat} {X Y Z : World} (h : KeptBox n0 B X Y) (k : KeptBox n0 B Y Z) : KeptBox n0 B X Z := ⟨h.1.trans k.1, k.2.trans h.2⟩
theorem keptBox_b {n0 B : Nat} {w : World} (hn : n0 ≤ w.heap.size) (hB : B < w.heap.size) (W : World) (l : Nat) (o o' : Obj) (hl : w.heap.size ≤ l) (h : W.heap[l]? = some o) (h1 : o.isCells = false) (h2 : o.isWalk = false) : KeptBox n0 B W (W.putObj l o') :=
  ⟨belowK_b hn W l o o' hl h h1 h2, World.putObj_heap_other (by omega)⟩

/-- A number as Go turns it into bytes. -/
def toU (x : Int) : Nat := (IntKind.u64.wrap x).toNat
def outL (s : Nat) (pre : List Int) : List Nat := putSmall s ++ putRuns (pre.map toU)
theorem outL_snoc (s : Nat) (pre : List Int) (x : Int) : outL s (pre ++ [x]) = outL s pre ++ putSmall (toU x) := by
  simp [outL, putRuns]
theorem outL_len (s : Nat) (pre : List Int) : (outL s pre).length ≤ 9 + 9 * pre.length := by
  have h1 := putSmall_len s
  have h2 := putRuns_len (pre.map toU)
  simp only [outL, List.length_append, List.length_map] at h2 ⊢
  omega
theorem toU_lt (x : Int) : toU x < 18446744073709551616 := by
  have := IntKind.wrap_u64 x
  unfold toU
  rw [this]
  omega
theorem toU_cast (x : Int) : IntKind.u64.wrap x = ((toU x : Nat) : Int) := by
  have := IntKind.wrap_u64 x
  unfold toU
  rw [this]
  omega
theorem toU_nat (x : Nat) (h : x < 18446744073709551616) : toU (x : Int) = x := by
  unfold toU
  rw [u64_wrap _ (by omega) (by omega)]
  simp
theorem outL_runs (s : Nat) (ws : List Nat) (hs : s ≤ 4096) : outL s ((runsL s ws).map (fun x : Nat => (x : Int))) = putMap s ws := by
  unfold outL putMap
  congr 2
  rw [List.map_map]
  have : ∀ x ∈ runsL s ws, (toU ∘ fun x : Nat => (x : Int)) x = x := fun x hx => toU_nat x (by have := runsL_le s ws x hx; omega)
  rw [List.map_congr_left this]
  simp

theorem Same.keeps {w w' : World} (h : Same w w') : KeepsOthers w w' := ⟨h.size, fun k _ hk _ => (h.block k (lt_of_block hk) (fun h => h)).trans hk⟩
/-- What a round of Put does: an append to the box's slice. -/
theorem put_body {W w6 w7 : World} {n0 B B2 : Nat} {t1 t2 : TypeId} {v v7 : Value} {ys xs : List Nat} {cs : Array Value} (hv : Boxed W B t1 v) (ht1 : t1 ≠ 5) (hb : Blk W B2 cs t2) (ht2 : t2 ≠ 5) (hne : ¬ B2 = B) (hn0 : n0 ≤ W.heap.size) (hB : n0 ≤ B)
    (k6 : Same W w6) (ho : OwnN w6 n0 5 .u8 v ys) (h2 : OwnN w7 n0 5 .u8 v7 xs) (h3 : w6.grownBy w7 v.ownBlock) (h5 : v7.ownBlock = v.ownBlock ∨ v7.ownBlock = some w6.heap.size) :
    (w7.cell? ⟨B, 0, none⟩ = some v ∧ w7.frozen? ⟨B, 0, none⟩ = false) ∧ KeepsOthers W (w7.setCell ⟨B, 0, none⟩ v7) ∧ KeptBox n0 B2 W (w7.setCell ⟨B, 0, none⟩ v7) ∧ Boxed (w7.setCell ⟨B, 0, none⟩ v7) B t1 v7 ∧ OwnN (w7.setCell ⟨B, 0, none⟩ v7) n0 5 .u8 v7 xs ∧ Below n0 W (w7.setCell ⟨B, 0, none⟩ v7) ∧ Blk (w7.setCell ⟨B, 0, none⟩ v7) B2 cs t2 := by
  have hv6 : Blk w6 B #[v] t1 := Blk.kept (show Blk W B #[v] t1 from hv) k6 (fun h => h)
  have hb6 : Blk w6 B2 cs t2 := hb.kept k6 (fun h => h)
  have n1 := hv6.not_row ht1 ho
  have n2 := hb6.not_row ht2 ho
  have hv7 : Blk w7 B #[v] t1 := (h3.block B hv6.lt (fun e => n1 e.symm)).trans hv6
  have hb7 : Blk w7 B2 cs t2 := (h3.block B2 hb6.lt (fun e => n2 e.symm)).trans hb6
  have K7 : Kept (fun j => n0 ≤ j) W w7 := (k6.mono (fun _ _ h => h.elim)).grown h3 (fun k hk _ => (World.ownsRow.lt ho k hk).1)
  have n3 : ¬ v7.ownBlock = some B := by
    rcases h5 with h | h
    · rw [h]; exact n1
    · rw [h]; intro e; have := hv6.lt; cases e; omega
  have KW : Kept (fun j => j = B) w7 (w7.setCell ⟨B, 0, none⟩ v7) := (Kept.refl _ w7).setG 0 v7
  have b7 : Below n0 W (w7.setCell ⟨B, 0, none⟩ v7) := ((K7.below hn0 (fun k hk h => by omega))).setCell (p := ⟨B, 0, none⟩) hB _
  have hb8 : Blk (w7.setCell ⟨B, 0, none⟩ v7) B2 cs t2 := hb7.other hne _
  refine ⟨⟨hv7.cell 0 rfl, hv7.free 0⟩, ?_, ⟨b7, hb8.trans hb.symm⟩, Boxed.set v7 hv7, h2.kept KW (fun g hg e => n3 (by rw [hg, e])), b7, hb8⟩
  refine (k6.keeps.trans (KeepsOthers.of_grownBy h3 ?_)).trans (KeepsOthers.setCell _ _ _)
  intro j o hj hjo
  rcases ho.2 with ⟨rfl, _⟩ | ⟨g, cap, cur, rfl, _, hgb, _⟩
  · simp [Value.ownBlock] at hj
  · obtain rfl : g = j := by simpa [Value.ownBlock] using hj
    have h' := hgb.symm.trans hjo
    cases h'; rfl

set_option maxRecDepth 100000 in
set_option maxHeartbeats 2000000 in
theorem bm_put_in (s : Nat) (a : Option Addr) (cap : Nat) (ws : List Nat) (w : World) (hw : Words ws) (hm : mapOK s ws = true) (hT : TabOK w) (hat : NatsAt w .u64 a ws) :
    CallsIn Fence.wide 4 Tryd.prog 31 #[mapV s a ws.length cap] w fun e w' => ∃ v, e = .returned (.tuple #[v, .int .i64 0]) ∧ OwnN w' w.heap.size 5 .u8 v (putMap s ws) ∧ Below w.heap.size w w' := by
  have hs : s ≤ 4096 := by have := mapOK_pos hm; omega
  have CK := Lib.hid fun w' (h : NatsAt w' .u64 a ws) => (bm_check s a cap ws w' h).mono (R' := fun e w'' => e = .returned (.int .i64 0) ∧ Same w' w'') fun _ _ h => by rw [hm] at h; exact h
  have HW := Lib.hid hw; have HM := Lib.hid hm; have AT := Lib.hid hat; have TT := Lib.hid hT
  have PS := Lib.hid fun (n : Nat) w' h => ord_putSmall n w' h
  obtain ⟨i0, hi, hz0, hz1, hz2⟩ := info_parts info8
  have HI := Lib.hid hi; have HZ0 := Lib.hid hz0; have HZ1 := Lib.hid hz1; have HZ2 := Lib.hid hz2
  clear hi hz0 hz1 hz2 hw hm hat hT
  generalize hl : ws.length = L at *
  have HL := Lib.hid hl; clear hl
  refine callsIn_of_wp_marks Tryd.func31 rfl trivial ?_ rfl
  simp only [Tryd.ntmps31, List.size_toArray, List.length_cons, List.length_nil, Nat.reduceAdd, Nat.reduceSub, Array.replicate_succ, Array.replicate_zero, List.push_toArray, List.append_toArray, List.nil_append, List.cons_append]
  gi_wp2_with fail
  refine ⟨trivial, callsIn_wide.2 ?_⟩
  refine Calls.fr1 ?_; intro W F' K' hz'; have F := Lib.hid F'; have K := Lib.hid K'; have hz := Lib.hid hz'; clear F' K' hz'; obtain ⟨p0, f0, -⟩ := F.out.rules; have z0 := F.out.1.lt
  refine (CK.out _ (AT.out.same K.out)).mono ?_
  rintro e w2 ⟨rfl, k⟩
  have K' := Lib.hid (K.out.trans k); have F' := Lib.hid (F.out.same k); clear K F p0 f0 z0 k; have K := K'; have F := F'; clear K' F'; obtain ⟨p0, f0, -⟩ := F.out.rules; have z0 := F.out.1.lt
  gi_wp2_with fail
  refine ⟨trivial, callsIn_wide.2 ?_⟩
  refine (PS.out s _ (by omega)).mono ?_
  rintro e w3 ⟨v, rfl, ho, k⟩
  have O := Lib.hid (ho.base K.out.size)
  obtain ⟨V, C, rfl, -⟩ := ho.read
  clear ho
  have K' := Lib.hid (K.out.trans k); have F' := Lib.hid (F.out.same k); clear K F p0 f0 z0 k; have K := K'; have F := F'; clear K' F'; obtain ⟨p0, f0, -⟩ := F.out.rules; have z0 := F.out.1.lt
  gi_wp2_with fail
  refine ⟨trivial, callsIn_wide.2 ?_⟩
  have KB := Lib.hid (K.out.below (Nat.le_refl _) (fun _ _ h => h))
  have BO := Lib.hid (Boxed.new w3 52 (.slice V (putSmall s).length C))
  have O2 := Lib.hid (O.out.same ((Kept.refl (fun _ => False) w3).alloc (.cells #[.slice V (putSmall s).length C] 52)))
  have K2 := Lib.hid (K.out.alloc (.cells #[.slice V (putSmall s).length C] 52))
  have zs : Hid ((w3.alloc (.cells #[.slice V (putSmall s).length C] 52)).heap.size = w3.heap.size + 1) := World.size_alloc _ _
  clear p0 f0 K O
  generalize w3.alloc (.cells #[.slice V (putSmall s).length C] 52) = w4 at *
  refine (bm_runs s a L cap w4).mono ?_
  rintro e w5 ⟨rfl, rfl⟩
  have F4 := Lib.hid (show Fr (w4.alloc (.cells #[.int .i64 (s : Nat), .slice a L cap] 27)) [(w4.heap.size, #[.int .i64 (s : Nat), .slice a L cap], 27)] from ⟨Blk.new w4 _ _, trivial⟩)
  have K5 := Lib.hid (K2.out.alloc (.cells #[.int .i64 (s : Nat), .slice a L cap] 27))
  have BO5 := Lib.hid (BO.out.alloc (.cells #[.int .i64 (s : Nat), .slice a L cap] 27))
  have O5 := Lib.hid (O2.out.same ((Kept.refl (fun _ => False) w4).alloc (.cells #[.int .i64 (s : Nat), .slice a L cap] 27)))
  have zs5 : Hid ((w4.alloc (.cells #[.int .i64 (s : Nat), .slice a L cap] 27)).heap.size = w4.heap.size + 1) := World.size_alloc _ _
  generalize w4.alloc (.cells #[.int .i64 (s : Nat), .slice a L cap] 27) = w5 at *
  gi_wp2_with fail
  have FB : Hid (Blk w5 w4.heap.size #[.int .i64 (s : Nat), .slice a ws.length cap] 27) := by rw [HL.out]; exact F4.out.1
  have hlt5 : w.heap.size ≤ w5.heap.size := K5.out.size
  have hz5 : w4.heap.size < w5.heap.size := by rw [zs5.out]; omega
  have hz4 : w3.heap.size < w4.heap.size := by rw [zs.out]; omega
  have B5 := Lib.hid (K5.out.below (Nat.le_refl _) (fun _ _ h => h))
  refine' wpIn_rangeFunc_ownF rfl (by omega) (gf := 59) (lb := #[.pointer (some ⟨w4.heap.size, 0, none⟩)]) rfl trivial (enters_of Tryd.func59 (by kernel_rfl) rfl)
    (runs_stops 3 (by omega) w4.heap.size w.heap.size s a cap ws w5 HW.out HM.out hlt5 AT.out.home TT.out.home hs FB.out (AT.out.same K5.out) (TT.out.same K5.out)) keptBox_t (keptBox_b hlt5 (by omega)) (Below.refl _ _) (fun _ => rfl)
    (fun pre W => (∃ v, Boxed W w3.heap.size 52 v ∧ W.ownsRow w.heap.size 5 1 v (outL s pre).length ((outL s pre).map fun x : Nat => Value.int .u8 ((x : Nat) : Int)) ∧ True) ∧ (Below w.heap.size w W ∧ Blk W w4.heap.size #[.int .i64 (s : Nat), .slice a L cap] 27))
    (fun _ _ _ => False)
    (OwnFrom.and (Own.from (holdsRow_own w.heap.size w3.heap.size 52 5 1 (fun pre => (outL s pre).length) (fun pre => (outL s pre).map fun x : Nat => Value.int .u8 ((x : Nat) : Int)) (fun _ _ => True)) _) (OwnFrom.and (ownFrom_below (Nat.le_refl _) hlt5) (fun s A A' row hs hg hr => (hg.block _ (Blk.lt hs) (fun e => by obtain ⟨_, o, ho, hc⟩ := hr _ e.symm; rw [show A.heap[_]? = _ from hs] at ho; cases ho; cases hc)).trans hs)))
    (fun _ _ _ _ _ hs _ _ => hs) ?start _ ?assign ?body ?done ?stop
  case start =>
    refine ⟨⟨_, BO5.out, ?_, trivial⟩, B5.out, F4.out.1⟩
    have := O5.out
    simp only [outL, putRuns, List.map_nil, List.flatMap_nil, List.append_nil]
    exact this
  case assign =>
    intro l x W K hK
    gi_wp2
    exact hK
  case body =>
    rintro l pre x W ⟨⟨v, hv, hrow, -⟩, hB, hb2⟩ hlt
    have hrl := runsL_len s ws
    have hol := outL_len s pre
    have hc := hv.cell
    have hfz := hv.frozen
    have hwl := hB.size
    have O : Hid (OwnN W w.heap.size 5 .u8 v (outL s pre)) := hrow
    have BX := Lib.hid hv; have BB := Lib.hid hB; have B2 := Lib.hid hb2
    have hpl := putSmall_len (toU x)
    obtain ⟨V', C', rfl, -⟩ := O.out.read
    clear hv hrow hB hb2
    gi_wp2_with fail
    have ex := toU_cast x
    gi_region_with (first

      | (refine ⟨trivial, ?_⟩; gi_at_call 48; refine (CallsIn.inRound l (callsIn_wide.2 (PS.out (toU x) _ (toU_lt x)))).mono ?_; rintro e w6 ⟨v6, rfl, ho6, k6⟩; have K6 := Lib.hid (show Same W w6 from ⟨k6.os, k6.tape, k6.output, k6.size, k6.block⟩); have O6 := Lib.hid (O.out.same K6.out); obtain ⟨V6, C6, rfl, _, _, hn6, hat6, _⟩ := ho6.read; have N6 := Lib.hid hn6; have A6 := Lib.hid hat6; have hc6 : w6.cell? ⟨w3.heap.size, 0, none⟩ = some (.slice V' (outL s pre).length C') := (K6.out.cell (p := ⟨w3.heap.size, 0, none⟩) (Boxed.lt BX.out) (fun h => h)).trans BX.out.cell; have hsz6 := K6.out.size; clear ho6 k6 hn6 hat6; obtain ⟨v7, w7, hrun, h2, h3, h5⟩ := run_appendN (P := Tryd.prog) w6 52 52 w.heap.size 5 .u8 1 Tryd.underlying52 info8 (by omega) _ (outL s pre) O6.out V6 _ C6 (putSmall (toU x)) rfl A6.out N6.out (by omega) (by omega); obtain ⟨⟨hc7, hf7⟩, E1, E2, E3, E4, E5, E6⟩ := put_body BX.out (by decide) B2.out (by decide) (by omega) (by omega) (by omega) K6.out O6.out h2 h3 h5; obtain ⟨V7, C7, rfl, -⟩ := h2.read; obtain ⟨aok, aV, aW⟩ := app_of hrun; clear hrun; have EE := Lib.hid (And.intro E1 (And.intro E2 (And.intro E3 (And.intro E4 (And.intro E5 E6))))); clear h2 h3 h5 E1 E2 E3 E4 E5 E6))
    all_goals
      gi_wp2
      have E := EE.out
      rw [show (outL s pre ++ putSmall (toU x)).length = (outL s pre).length + (putSmall (toU x)).length from List.length_append] at E
      obtain ⟨E1, E2, E3, E4, E5, E6⟩ := E
      exact ⟨E1, E2, ⟨⟨_, E3, by rw [outL_snoc]; exact E4, trivial⟩, BB.out.trans E5, E6⟩⟩
  case done =>
    rintro D ys W hD rfl ⟨⟨v, hv, hrow, -⟩, hB, hb2⟩ hK
    have hc := hv.cell
    gi_wp2
    refine ⟨by simp, .inl ⟨_, _, rfl, run_takeDeferred hK, ?_⟩⟩
    refine ⟨_, results_tmp2 rfl _ _ _, v, rfl, ?_, hB.trans (belowK_b (w := w) (Nat.le_refl _) W D _ _ (by omega) hK rfl rfl)⟩
    rw [← outL_runs s ws hs]
    exact ownsRow_putObj hrow _ hK rfl
  case stop =>
    rintro D c pre W _ _ h _
    exact h.elim

theorem bm_put_bad (s : Int) (a : Option Addr) (cap : Nat) (ws : List Nat) (w : World) (hm : mapOK s ws = false) (hat : NatsAt w .u64 a ws) :
    Calls Tryd.prog 31 #[mapV s a ws.length cap] w fun e w' => e = .returned (.tuple #[.slice none 0 0, .int .i64 4]) ∧ Same w w' := by
  have CK := Lib.hid fun w' (h : NatsAt w' .u64 a ws) => (bm_check s a cap ws w' h).mono (R' := fun e w'' => e = .returned (.int .i64 4) ∧ Same w' w'') fun _ _ h => by rw [hm] at h; exact h
  have AT := Lib.hid hat
  clear hm hat
  generalize ws.length = L at *
  refine (callsIn_wide (n := 4)).1 ?_
  refine callsIn_of_wp_marks Tryd.func31 rfl trivial ?_ rfl
  simp only [Tryd.ntmps31, List.size_toArray, List.length_cons, List.length_nil, Nat.reduceAdd, Nat.reduceSub, Array.replicate_succ, Array.replicate_zero, List.push_toArray, List.append_toArray, List.nil_append, List.cons_append]
  gi_wp2_with fail
  refine ⟨trivial, callsIn_wide.2 ?_⟩
  refine Calls.fr1 ?_; intro W F' K' hz'; have F := Lib.hid F'; have K := Lib.hid K'; have hz := Lib.hid hz'; clear F' K' hz'; obtain ⟨p0, f0, -⟩ := F.out.rules; have z0 := F.out.1.lt
  refine (CK.out _ (AT.out.same K.out)).mono ?_
  rintro e w2 ⟨rfl, k⟩
  have K' := Lib.hid (K.out.trans k); have F' := Lib.hid (F.out.same k); clear K F p0 f0 z0 k; have K := K'; have F := F'; clear K' F'; obtain ⟨p0, f0, -⟩ := F.out.rules; have z0 := F.out.1.lt
  gi_wp2_with fail
  exact ⟨_, results_tmp2 rfl _ _ _, rfl, K.out⟩

theorem bm_put (s : Int) (a : Option Addr) (cap : Nat) (ws : List Nat) (w : World) (hw : Words ws) (hT : TabOK w) (hat : NatsAt w .u64 a ws) :
    Calls Tryd.prog 31 #[mapV s a ws.length cap] w fun e w' => ∃ v, e = .returned (.tuple #[v, .int .i64 (if mapOK s ws then 0 else 4)]) ∧ OwnN w' w.heap.size 5 .u8 v (if mapOK s ws then putMap s.toNat ws else []) ∧ Same w w' := by
  cases hm : mapOK s ws
  · refine (bm_put_bad s a cap ws w hm hat).mono ?_
    rintro e w' ⟨rfl, k⟩
    exact ⟨_, rfl, World.ownsRow_nil _ _ _ _, k⟩
  · obtain ⟨S, rfl⟩ := Int.eq_ofNat_of_zero_le (mapOK_pos hm).1
    refine (callsIn_wide.1 (bm_put_in S a cap ws w hw hm hT hat)).mono ?_
    rintro e w' ⟨v, rfl, h1, h2⟩
    exact ⟨v, rfl, h1, Kept.of_below h2⟩

end Go.Proofs.YtmolmamfmboeoaaDoor
