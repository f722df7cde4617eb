/- A disk's Waits. -/
import Derived.Test.YtlmpkonfclnceaaSec5
import Derived.Test.YtlmpkonfclnceaaShelf
namespace Go.Proofs.Ytlmpkonfclnceaa
open Go.RowKit Go.Maps Go.Sort Go.Shelf

theorem sorts_i (m : Nat) : AnyZI.SortsIn Try.prog Try.sortedA_ren Fence.wide m :=
  ⟨fun blk off cap ss W hH hblk hsz => callsIn_wide.2 (AnyM.slices_Sort_int Try.sortA blk off cap ss W hH hblk hsz),
   fun p cap W => callsIn_wide.2 (AnyM.slices_Sort_int_none Try.sortA p cap W)⟩

theorem waits_keys (s : List Sec) : keysBelow (waitF s) s.length = waitsOf s := by
  unfold keysBelow waitsOf
  congr 1
  funext n
  exact waitF_some s n
theorem waits_sorted (s : List Sec) : ((waitsOf s).map fun n : Nat => (n : Int)).mergeSort (fun x y => decide (x ≤ y)) = (waitsOf s).map fun n : Nat => (n : Int) := by
  apply List.mergeSort_of_pairwise
  refine List.pairwise_map.2 ?_
  have : (waitsOf s).Pairwise (· < ·) := (List.pairwise_lt_range).filter _
  exact this.imp (fun h => by simp; omega)

set_option maxHeartbeats 1000000 in
theorem sd_waits {w : World} {d bs cap m : Nat} {D : Dsk} (h : DiskIn w d bs cap m D) :
    Calls Try.prog 19 #[.pointer (some ⟨d, 0, none⟩)] w fun e w' => ∃ v, e = .returned v ∧ OwnN w' w.heap.size 3 .i64 v (waitsOf D.s) ∧ Same w w' := by
  have few := h.ok.few
  obtain ⟨D0, hown, hperm⟩ := h.map.owns (P := Try.prog) Try.underlying3 D.s.length (by unfold maxLen; omega) (fun n hn => waitF_lt hn)
  have hbl := h.map.lt
  have hsz : Maps.size D0 ≤ D.s.length := by
    obtain ⟨es, clock, hb, F, hs, rfl⟩ := hown
    simp only [Maps.size, length_sorted]
    simpa using hs
  refine (callsIn_wide (n := 6)).1 ?_
  have hseq : SeqGives Fence.wide 2 Try.prog 92 #[.pointer (some ⟨w.heap.size, 0, none⟩)] encZ (fun ss => ss.Perm (intKeys D0)) (Maps.size D0) (w.alloc (.cells #[.map (some m)] 96)) :=
    AnyZI.keys_gives (ρ := Try.keysA_ren) { Try.keysA with } Fence.wide _ trivial rfl (by omega) w.heap.size m D.s.length D0 _ (by simp) (by simp) (by
      obtain ⟨es, clock, hb, Ft, hs, hD⟩ := hown
      exact ⟨es, clock, (Below.heap_alloc _ _ m hbl).trans hb, Ft, hs, hD⟩)
  have cK : ∀ mb W, CallsIn Fence.wide 5 Try.prog 61 #[.map mb] W fun e w' => e = .returned (.func (.func 92) #[] #[.pointer (some ⟨W.heap.size, 0, none⟩)]) ∧ w' = W.alloc (.cells #[.map mb] 96) := fun mb W => AnyZI.keys_in Try.keysA Fence.wide 5 trivial rfl mb W
  have cS := AnyZI.sorted_in Try.sortedA Fence.wide 5 trivial trivial trivial trivial rfl (by omega) (sorts_i _) (enters_of Try.func91 (by kernel_rfl) rfl) 92 #[.pointer (some ⟨w.heap.size, 0, none⟩)] trivial (enters_of Try.func92 (by kernel_rfl) rfl) _ _ (Nat.le_trans hsz (by unfold maxLen; omega)) (by omega) _ hseq
  change CallsIn _ _ Try.prog 60 _ _ _ at cS
  have hfK : Fence.wide.fn 61 := trivial
  have hfS : Fence.wide.fn 60 := trivial
  have p0 := h.ptr
  simp only [cellsD] at p0
  refine callsIn_of_wp Try.func19 rfl trivial ?_ rfl
  simp only [Try.ntmps19, List.size_toArray, List.length_cons, List.length_nil, Nat.reduceAdd, Nat.reduceSub, Array.replicate_succ, Array.replicate_zero, List.push_toArray, List.append_toArray, List.nil_append, List.cons_append]
  gi_wp2_with (first
    | (gi_at_call 61; refine (cK _ _).mono ?_; rintro e w' ⟨rfl, rfl⟩)
    | (gi_at_call 60; refine cS.mono ?_; rintro e w' ⟨v, ss, rfl, hS, hrow, hnil, hb⟩))
  go_ret
  have e1 : ss.mergeSort (fun x y => decide (x ≤ y)) = (waitsOf D.s).map fun n : Nat => (n : Int) := by
    rw [← waits_sorted, ← waits_keys]
    exact mergeSort_of_perm_i (hS.trans hperm)
  have e2 : ss.length = (waitsOf D.s).length := by
    have := congrArg List.length e1
    simpa using this
  refine ⟨v, rfl, ?_, ((Kept.refl _ w).alloc _).trans (Kept.of_below hb)⟩
  rw [e1, e2, List.map_map] at hrow
  exact ownsRow_base hrow (by simp)
end Go.Proofs.Ytlmpkonfclnceaa
