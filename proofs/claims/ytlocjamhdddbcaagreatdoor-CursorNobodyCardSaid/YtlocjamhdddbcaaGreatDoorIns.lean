/- Ins: slices.Insert of one element into a slice of one's own: in place, or grown. Stacks as they lie in memory (a key, and a slice). -/
import Derived.Test.YtlocjamhdddbcaaGreatDoorEl
import Derived.Test.YtlocjamhdddbcaaGreatDoorChecked
import Derived.Shelf.Spec.SlicesInsertGrow
namespace Go.Proofs.YtlocjamhdddbcaaGreatDoor
open Go.RowKit

/-- A stack as it lies: its key, and where its versions are. -/
structure Rk where
  key : List UInt8
  a : Option Addr
  n : Nat
  c : Nat
def rkE : Enc Rk := ⟨2, fun x => [.string ⟨x.key.toArray⟩, .slice x.a x.n x.c], fun _ => rfl, by decide, fun x v hv => by simp only [List.mem_cons, List.not_mem_nil, or_false] at hv; rcases hv with rfl | rfl <;> rfl⟩

/-- copy, of elements of any size. -/
theorem run_copyC {P : Program} (w : World) (dT sT ty elem : TypeId) (k : Nat) (hu : P.underlying dT = some (.slice elem)) (hs : (P.info? elem).map (·.size) = some k) (b o dLen dCap : Nat) (a : Addr) (sLen sCap : Nat) (cs : List Value) (hn : cs.length = Nat.min sLen dLen * k)
    (hsrc : ∀ j v, cs[j]? = some v → w.cell? (a.add j) = some v) (hc : ∀ j, j < cs.length → (w.cell? ⟨b, o + j, none⟩).isSome = true) (hf : ∀ j, j < cs.length → w.frozen? ⟨b, o + j, none⟩ = false) (h1 : ∀ v ∈ cs, v.oneCell' = true) :
    (Builtin.copy_ #[dT, sT] ty #[.slice (some ⟨b, o, none⟩) dLen dCap, .slice (some a) sLen sCap]).run P w = .ok (goInt (Nat.min sLen dLen)) (w.setCells b o cs) := by
  have hl := run_loadCells_list (P := P) w a cs hsrc
  have hst := run_storeCells_cells (P := P) b o cs 0 w (by simpa using hc) (by simpa using hf) h1
  cases hq : P.info? elem with
  | none => simp [hq] at hs
  | some i =>
    have hi : i.size = k := by simpa [hq] using hs
    simp [Builtin.copy_, run_underlying hu, Builtin.lenOf, Builtin.firstCells, sizeOf, typeInfo, hq, hi, ← hn, hl, hst]
theorem Blk.isSome {w : World} {b : Nat} {cs : Array Value} {t : TypeId} (h : Blk w b cs t) {i : Nat} (hi : i < cs.size) : (w.cell? ⟨b, i, none⟩).isSome = true := by
  rw [h.cell i (Array.getElem?_eq_getElem hi)]; rfl
theorem kept_cells {fp : Nat → Prop} {b : Nat} (vs : List Value) : ∀ {a w : World} (_ : Kept fp a w) (_ : b < a.heap.size → fp b) (o : Nat), Kept fp a (w.setCells b o vs) := by
  induction vs with
  | nil => intro a w h _ o; exact h
  | cons v vs ih => intro a w h hg o; exact ih (h.setCell hg v) hg (o + 1)

theorem over_st (w : World) {vb b : Nat} (hne : vb ≠ b) {cv cb : Array Value} (h1 : Blk w vb cv 108) (h2 : Blk w b cb 108) (h0 : cb.size ≠ 0) (bo la ca lb cc : Nat) :
    (callFunc 280 #[.slice (some ⟨vb, 0, none⟩) la ca, .slice (some ⟨b, bo, none⟩) lb cc]).run Tryz.prog w = .ok (.value (.bool false)) w := by
  have e1 : w.shape? vb = some (108, cv.size) := by
    have := h1; unfold Blk at this; simp [World.shape?, this]
  have e2 : w.shape? b = some (108, cb.size) := by
    have := h2; unfold Blk at this; simp [World.shape?, this]
  rw [run_callFunc_extern Tryz.func280 (by kernel_rfl) (by kernel_rfl) (by kernel_rfl) (e := Extern.SlicesOverlaps.overlaps #[62, 62] #[4]) (by kernel_rfl),
    Lib.run_overlaps_apart w 62 4 108 Tryz.underlying62 2 (fun w => Tryz.sizeOf108 w) ⟨vb, 0, none⟩ ⟨b, bo, none⟩ la ca lb cc hne 108 108 cv.size cb.size e1 e2 h0 (h1.free _) (h1.free _)]
  rfl
set_option maxHeartbeats 4000000 in
set_option maxRecDepth 100000 in
/-- There is room: in place. -/
theorem ins_shift (b n c i vb : Nat) (cur : Array Value) (os vs : List Value) (w : World) (hi : i < n) (hroom : n + 1 ≤ c) (hm : c ≤ maxLen) (hblk : Blk w b cur 108) (hsz : cur.size = c * 2) (hos : cur.toList.take (n * 2) = os) (hol : os.length = n * 2)
    (hvb : Blk w vb vs.toArray 108) (hvl : vs.length = 2) (hne : vb ≠ b) (h1c : ∀ v ∈ os, v.oneCell' = true) (h1v : ∀ v ∈ vs, v.oneCell' = true) :
    Calls Tryz.prog 201 #[.slice (some ⟨b, 0, none⟩) n c, .int .i64 (i : Nat), .slice (some ⟨vb, 0, none⟩) 1 1] w fun e w' =>
      e = .returned (.slice (some ⟨b, 0, none⟩) (n + 1) c) ∧ w' = (w.drew.setCells b ((i + 1) * 2) (os.drop (i * 2))).setCells b (i * 2) vs := by
  have hc63 : c ≤ 9223372036854775807 := by unfold maxLen at hm; omega
  have hz2 : ¬ ((i : Int) = (n : Int)) := by omega
  have hszT : (Tryz.prog.info? 108).map (·.size) = some 2 := by kernel_rfl
  have mixed : Tryz.prog.follows Departure.mixedOrders = true := by kernel_rfl
  have hb9 : (i : Int) ≤ (n : Int) + 1 := by omega
  have hov : ∀ lb cc, (callFunc 280 #[.slice (some ⟨vb, 0, none⟩) 1 1, .slice (some ⟨b, (i + 1) * 2, none⟩) lb cc]).run Tryz.prog w = .ok (.value (.bool false)) w := fun lb cc => over_st w hne hvb hblk (by omega) _ _ _ _ _
  have hdl : (os.drop (i * 2)).length = (n - i) * 2 := by rw [List.length_drop, hol]; omega
  have hw1 : IntKind.i64.wrap ((i : Int) + 1) = (i : Int) + 1 := by rw [IntKind.wrap_i64]; omega
  have hw2 : IntKind.i64.wrap ((n : Int) + 1) = (n : Int) + 1 := by rw [IntKind.wrap_i64]; omega
  have hget : ∀ j u, os[j]? = some u → cur[j]? = some u := fun j u hj => by
    have hl : j < n * 2 := by rw [← hol]; exact (List.getElem?_eq_some_iff.1 hj).1
    rw [← hos, List.getElem?_take, if_pos hl, Array.getElem?_toList] at hj
    exact hj
  have hcp1 : ∀ ty dc sc, (Builtin.copy_ #[62, 62] ty #[.slice (some ⟨b, (i + 1) * 2, none⟩) (n - i) dc, .slice (some ⟨b, i * 2, none⟩) (n + 1 - i) sc]).run Tryz.prog w.drew = .ok (goInt (n - i : Nat)) (w.drew.setCells b ((i + 1) * 2) (os.drop (i * 2))) := fun ty dc sc => by
    have := run_copyC (P := Tryz.prog) w.drew _ 62 ty 108 2 Tryz.underlying62 hszT b ((i + 1) * 2) (n - i) dc ⟨b, i * 2, none⟩ (n + 1 - i) sc (os.drop (i * 2)) (by rw [hdl]; congr 1; simp only [Nat.min_def]; split <;> omega)
      (fun j v hj => by
        rw [Addr.add_lit]
        rw [List.getElem?_drop] at hj
        exact hblk.drew.cell _ (hget _ _ hj))
      (fun j hj => hblk.drew.isSome (by omega)) (fun j hj => hblk.drew.free _) (fun v hv => h1c v (List.mem_of_mem_drop hv))
    rw [this]
    congr 2
    simp only [Nat.min_def]; split <;> omega
  obtain ⟨W1, hW1⟩ : ∃ W1, W1 = w.drew.setCells b ((i + 1) * 2) (os.drop (i * 2)) := ⟨_, rfl⟩
  have hb1 : Blk W1 b (putC cur ((i + 1) * 2) (os.drop (i * 2))) 108 := by rw [hW1]; exact Blk.putC _ hblk.drew _
  have hv1 : Blk W1 vb vs.toArray 108 := by rw [hW1]; exact hvb.drew.kept (kept_cells (fp := fun j => j = b) _ (Kept.refl _ _) (fun _ => rfl) _) hne
  have hcp2 : ∀ (W : World), W.heap = W1.heap → ∀ ty dc, (Builtin.copy_ #[62, 62] ty #[.slice (some ⟨b, i * 2, none⟩) (n + 1 - i) dc, .slice (some ⟨vb, 0, none⟩) 1 1]).run Tryz.prog W = .ok (goInt (1 : Nat)) (W.setCells b (i * 2) vs) := fun W hW ty dc => by
    have b1 : Blk W b (putC cur ((i + 1) * 2) (os.drop (i * 2))) 108 := by unfold Blk; rw [hW]; exact hb1
    have b2 : Blk W vb vs.toArray 108 := by unfold Blk; rw [hW]; exact hv1
    have := run_copyC (P := Tryz.prog) W _ 62 ty 108 2 Tryz.underlying62 hszT b (i * 2) (n + 1 - i) dc ⟨vb, 0, none⟩ 1 1 vs (by rw [hvl, show Nat.min 1 (n + 1 - i) = 1 by simp only [Nat.min_def]; split <;> omega])
      (fun j v hj => by
        rw [Addr.add_lit, Nat.zero_add]
        exact b2.cell _ (by simpa using hj))
      (fun j hj => b1.isSome (by rw [putC_size]; omega)) (fun j hj => b1.free _) h1v
    rw [this]
    congr 2
    simp only [Nat.min_def]; split <;> omega
  rw [← hW1] at hcp1
  have hA : i ≤ n := by omega
  have hB : ¬ (c = i + 1) := by omega
  have hC : ¬ (c = i) := by omega
  have hD : ((i : Int) + 1).toNat = i + 1 := by omega
  have hE : (0 : Int) ≤ (i : Int) + 1 := by omega
  go_enter Tryz.func201, Tryz.ntmps201
  go_wp2_with (simp only [hov])
  go_region_law_o (refine step_copy_runI rfl _ _ 62 62 rfl _ _ (by simp [Act.eval, Act.put]) (by simp [Act.eval, Act.put]) (hcp1 _ _ _) ?_)
  go_wp2_with (at_builtin; refine wpList_copy_runI _ rfl _ _ 62 62 rfl _ _ rfl rfl (hcp2 _ rfl _ _) ?_)
  go_ret
  first | exact ⟨rfl, rfl⟩ | exact ⟨rfl, by rw [hW1]⟩
end Go.Proofs.YtlocjamhdddbcaaGreatDoor
