/- InsB: slices.Insert at stacks: grown; at the end; of a slice of one's own. -/
import Derived.Test.YtlocjamhdddbcaaGreatDoorIns
namespace Go.Proofs.YtlocjamhdddbcaaGreatDoor
open Go.RowKit

def stkZ : Value := .agg #[.string ByteArray.empty, .slice none 0 0]
set_option maxHeartbeats 4000000 in
set_option maxRecDepth 100000 in
/-- No room: a new row. -/
theorem ins_grow (b n c i vb : Nat) (cur : Array Value) (os vs : List Value) (w : World) (hi : i < n) (hnc : n ≤ c) (hroom : c < n + 1) (hm : c ≤ 100000) (hblk : Blk w b cur 108) (_hsz : cur.size = c * 2) (hos : cur.toList.take (n * 2) = os) (hol : os.length = n * 2)
    (hvb : Blk w vb vs.toArray 108) (hvl : vs.length = 2) (_hne : vb ≠ b) (h1c : ∀ v ∈ os, v.oneCell' = true) (h1v : ∀ v ∈ vs, v.oneCell' = true) :
    Calls Tryz.prog 201 #[.slice (some ⟨b, 0, none⟩) n c, .int .i64 (i : Nat), .slice (some ⟨vb, 0, none⟩) 1 1] w fun e w' =>
      e = .returned (.slice (some ⟨w.heap.size, 0, none⟩) (n + 1) (grownCap w (n + 1) c 108)) ∧
      w' = (((w.alloc (.cells ((os.take (i * 2)).toArray ++ Builtin.zeroCells stkZ.cells (n + 1 - i) ++ Builtin.zeroCells stkZ.cells (grownCap w (n + 1) c 108 - (n + 1))) 108)).drew.setCells w.heap.size (i * 2) vs).drew).setCells w.heap.size ((i + 1) * 2) (os.drop (i * 2)) := by
  obtain ⟨i0, hi0, hz0, hzs, hzb⟩ := info_parts (P := Tryz.prog) (e := 108) (z := stkZ) (size := 2) (bytes := 40) (by kernel_rfl)
  have hszT : (Tryz.prog.info? 108).map (·.size) = some 2 := by kernel_rfl
  have mixed : Tryz.prog.follows Departure.mixedOrders = true := by kernel_rfl
  have hb9 : (i : Int) ≤ (n : Int) + 1 := by omega
  have hz2 : ¬ ((i : Int) = (n : Int)) := by omega
  have hz3 : (c : Int) < (n : Int) + 1 := by omega
  have hbw : b < w.heap.size := hblk.lt
  have hvw : vb < w.heap.size := hvb.lt
  have hkk : (n : Int) + 1 - (i : Int) = ((n + 1 - i : Nat) : Int) := by omega
  have hik : i + (n + 1 - i) = n + 1 := by omega
  have hget : ∀ j u, os[j]? = some u → cur[j]? = some u := fun j u hj => by
    have hl : j < n * 2 := by rw [← hol]; exact (List.getElem?_eq_some_iff.1 hj).1
    rw [← hos, List.getElem?_take, if_pos hl, Array.getElem?_toList] at hj
    exact hj
  have hold : (Builtin.firstCells i0.size i (.slice (some ⟨b, 0, none⟩) i c)).run Tryz.prog w.drew = .ok (os.take (i * 2)).toArray w.drew := by
    rw [hzs]
    exact run_firstCells_some w.drew 2 i ⟨b, 0, none⟩ i c (os.take (i * 2)) (by rw [List.length_take]; omega) (fun j v hj => by
      rw [Addr.add_lit]
      rw [List.getElem?_take] at hj
      split at hj
      · rw [Nat.zero_add]; exact hblk.drew.cell _ (hget j v hj)
      · cases hj)
  have hrz : ∀ ty, (Builtin.append_ #[62, 3] ty #[.slice (some ⟨b, 0, none⟩) i c, .int .i64 ((n : Int) + 1 - (i : Int))]).run Tryz.prog w =
      .ok (.slice (some ⟨w.heap.size, 0, none⟩) (n + 1) (grownCap w (n + 1) c 108)) (w.drew.alloc (.cells ((os.take (i * 2)).toArray ++ Builtin.zeroCells stkZ.cells (n + 1 - i) ++ Builtin.zeroCells stkZ.cells (grownCap w (n + 1) c 108 - (n + 1))) 108)) := fun ty => by
    have h := Lib.run_append_grow_zeros w 62 3 ty 108 i0 _ .i64 .i64 Tryz.underlying62 Tryz.underlying3 hi0 hz0 (some ⟨b, 0, none⟩) i c (os.take (i * 2)) hold (n + 1 - i) (by omega) (by omega) (by omega) (by omega) (by rw [hzb]; omega) (by rw [hzb, hik]; exact growslice_fits hroom (by omega))
    rw [hik] at h
    rw [hkk]
    exact h
  obtain ⟨G, hG⟩ : ∃ G, G = grownCap w (n + 1) c 108 := ⟨_, rfl⟩
  obtain ⟨ROW, hROW⟩ : ∃ ROW : Array Value, ROW = (os.take (i * 2)).toArray ++ Builtin.zeroCells stkZ.cells (n + 1 - i) ++ Builtin.zeroCells stkZ.cells (G - (n + 1)) := ⟨_, rfl⟩
  rw [← hG] at hrz ⊢
  rw [← hROW] at hrz ⊢
  have hRl : (n + 1) * 2 ≤ ROW.size := by
    have h1 : stkZ.cells.size = 2 := rfl
    rw [hROW]
    simp only [Array.size_append, size_zeroCells, h1, List.size_toArray, List.length_take]
    omega
  obtain ⟨W1, hW1⟩ : ∃ W1, W1 = w.drew.alloc (.cells ROW 108) := ⟨_, rfl⟩
  rw [← hW1] at hrz
  have hN : Blk W1 w.heap.size ROW 108 := by rw [hW1]; exact Blk.new' _ _ _ rfl
  have hOb : Blk W1 b cur 108 := by rw [hW1]; exact hblk.drew.alloc _
  have hOv : Blk W1 vb vs.toArray 108 := by rw [hW1]; exact hvb.drew.alloc _
  have hcpA : ∀ (W : World), W.heap = W1.heap → ∀ ty dc, (Builtin.copy_ #[62, 62] ty #[.slice (some ⟨w.heap.size, i * 2, none⟩) (n + 1 - i) dc, .slice (some ⟨vb, 0, none⟩) 1 1]).run Tryz.prog W = .ok (goInt (1 : Nat)) (W.setCells w.heap.size (i * 2) vs) := fun W hW ty dc => by
    have b1 : Blk W w.heap.size ROW 108 := by unfold Blk; rw [hW]; exact hN
    have b2 : Blk W vb vs.toArray 108 := by unfold Blk; rw [hW]; exact hOv
    have := run_copyC (P := Tryz.prog) W 62 62 ty 108 2 Tryz.underlying62 hszT w.heap.size (i * 2) (n + 1 - i) dc ⟨vb, 0, none⟩ 1 1 vs (by rw [hvl, show Nat.min 1 (n + 1 - i) = 1 by simp only [Nat.min_def]; split <;> omega])
      (fun j v hj => by
        rw [Addr.add_lit, Nat.zero_add]
        exact b2.cell _ (by simpa using hj))
      (fun j hj => b1.isSome (by omega)) (fun j hj => b1.free _) h1v
    rw [this]
    congr 2
    simp only [Nat.min_def]; split <;> omega
  have hGn : n + 1 ≤ G := by rw [hG]; exact grownCap_ge w _ _ _
  have hG63 : G ≤ 9223372036854775807 := by
    have := grownCap_le_maxLen w (n + 1) c 108 (by unfold maxLen; omega)
    rw [← hG] at this
    unfold maxLen at this
    omega
  have hGi : ¬ (G = i) := by omega
  have hGim : ¬ (G = i + 1) := by omega
  have hci : ¬ (c = i) := by omega
  have hbN : b ≠ w.heap.size := by omega
  have hdl : (os.drop (i * 2)).length = (n - i) * 2 := by rw [List.length_drop, hol]; omega
  have hcpB : ∀ (W : World), W.heap = (W1.setCells w.heap.size (i * 2) vs).heap → ∀ ty dc sc, (Builtin.copy_ #[62, 62] ty #[.slice (some ⟨w.heap.size, (i + 1) * 2, none⟩) (n - i) dc, .slice (some ⟨b, i * 2, none⟩) (n - i) sc]).run Tryz.prog W = .ok (goInt (n - i : Nat)) (W.setCells w.heap.size ((i + 1) * 2) (os.drop (i * 2))) := fun W hW ty dc sc => by
    have b1 : Blk W w.heap.size (putC ROW (i * 2) vs) 108 := by unfold Blk; rw [hW]; exact Blk.putC vs hN _
    have b2 : Blk W b cur 108 := by unfold Blk; rw [hW]; exact hOb.kept (kept_cells (fp := fun j => j = w.heap.size) vs (Kept.refl _ _) (fun _ => rfl) _) hbN
    have := run_copyC (P := Tryz.prog) W 62 62 ty 108 2 Tryz.underlying62 hszT w.heap.size ((i + 1) * 2) (n - i) dc ⟨b, i * 2, none⟩ (n - i) sc (os.drop (i * 2)) (by rw [hdl]; congr 1; simp only [Nat.min_def]; split <;> omega)
      (fun j v hj => by
        rw [Addr.add_lit]
        rw [List.getElem?_drop] at hj
        exact b2.cell _ (hget _ _ hj))
      (fun j hj => b1.isSome (by rw [putC_size]; omega)) (fun j hj => b1.free _) (fun v hv => h1c v (List.mem_of_mem_drop hv))
    rw [this]
    congr 2
    simp only [Nat.min_def]; split <;> omega
  subst hW1
  have hw1 : IntKind.i64.wrap ((i : Int) + 1) = (i : Int) + 1 := by rw [IntKind.wrap_i64]; omega
  have hw2 : IntKind.i64.wrap ((n : Int) + 1) = (n : Int) + 1 := by rw [IntKind.wrap_i64]; omega
  have hw3 : IntKind.i64.wrap ((n : Int) + 1 - (i : Int)) = (n : Int) + 1 - (i : Int) := by rw [IntKind.wrap_i64]; omega
  have hb1 : (0 : Int) ≤ (i : Int) + 1 := by omega
  have hin : i ≤ n := by omega
  have htn : ((i : Int) + 1).toNat = i + 1 := by omega
  clear hkk hik hold hROW hG hRl
  go_enter Tryz.func201, Tryz.ntmps201
  go_wp2_with (at_builtin; refine Lib.wpList_append_run _ rfl _ _ _ _ rfl _ _ rfl rfl _ _ (hrz _) ?_)
  rw [hcpA ((w.alloc (.cells ROW 108)).drew) rfl 3 (G - i)]
  go_wp2
  go_region_law_o (refine step_copy_runI rfl _ _ 62 62 rfl (.slice (some ⟨w.heap.size, (i + 1) * 2, none⟩) (n - i) (G - (i + 1))) (.slice (some ⟨b, i * 2, none⟩) (n - i) (c - i)) (by simp [Act.eval, Act.put]) (by simp [Act.eval, Act.put]) (hcpB (((w.alloc (.cells ROW 108)).drew.setCells w.heap.size (i * 2) vs).drew) rfl 3 (G - (i + 1)) (c - i)) ?_)
  go_wp2
  go_ret
  exact ⟨rfl, rfl⟩
end Go.Proofs.YtlocjamhdddbcaaGreatDoor
