/- Walks over the document's maps: New. -/
import Derived.Test.YtmolmamfmboeoaaDoorBmR4
namespace Go.Proofs.YtmolmamfmboeoaaDoor
open Go.RowKit

set_option maxHeartbeats 800000 in
theorem rb_new_ok (s : Nat) (w : World) (h : s ≤ 4096) :
    Calls Tryd.prog 19 #[.int .i64 (s : Nat)] w fun e w' => ∃ g, e = .returned (.tuple #[mapV s (some ⟨g, 0, none⟩) ((s + 63) / 64) ((s + 63) / 64), .int .i64 0]) ∧
      OwnN w' w.heap.size 36 .u64 (.slice (some ⟨g, 0, none⟩) ((s + 63) / 64) ((s + 63) / 64)) (List.replicate ((s + 63) / 64) 0) ∧ Same w w' := by
  obtain ⟨i0, hi, hz0, hz1, hz2⟩ := info_parts info64
  have HI := Lib.hid hi; have HZ0 := Lib.hid hz0; have HZ1 := Lib.hid hz1; have HZ2 := Lib.hid hz2
  clear hi hz0 hz1 hz2
  go_enter Tryd.func19, Tryd.ntmps19
  go_wp2_with (first | (go_at_call 40; refine (rb_words s _ h).mono ?_; rintro e w1 ⟨rfl, rfl⟩) | (at_make; refine wpList_make_full _ rfl _ _ 22 rfl w.heap.size 36 i0 (.int .u64 0) 1 Tryd.underlying22 HI.out HZ0.out HZ1.out .i64 .i64 _ _ ((s + 63) / 64) rfl rfl rfl rfl (by rw [HZ2.out]; omega) (by unfold maxLen; omega) (by simp) ?_; intro w1 hown hgrow; have HO := Lib.hid (OwnN.made hown); have HK := Lib.hid (((Kept.refl (fun _ => False) w).alloc _).grownNew hgrow (by simp)); have KA := (Kept.refl (fun _ => False) (w.alloc (.cells #[.int .i64 0, .slice none 0 0] 24))).grownNew hgrow (by simp); have G := (Blk.new w _ _).kept KA (fun h => h); have q0 : w1.cell? ⟨w.heap.size, 0, none⟩ = some (.int .i64 0) := G.cell 0 rfl; have q1 : w1.cell? ⟨w.heap.size, 1, none⟩ = some (.slice none 0 0) := G.cell 1 rfl; have f0 : ∀ i, w1.frozen? ⟨w.heap.size, i, none⟩ = false := G.free; have GG := Lib.hid G; clear hown hgrow KA G))
  have p := (GG.out.set 0 (.int .i64 (s : Nat))).set 1 (.slice (some ⟨w.heap.size + 1, 0, none⟩) ((s + 63) / 64) ((s + 63) / 64))
  have p0 := p.cell 0 (v := .int .i64 (s : Nat)) rfl
  have p1 := p.cell 1 (v := .slice (some ⟨w.heap.size + 1, 0, none⟩) ((s + 63) / 64) ((s + 63) / 64)) rfl
  refine bodyPost_ret (v := .tuple #[mapV s (some ⟨w.heap.size + 1, 0, none⟩) ((s + 63) / 64) ((s + 63) / 64), .int .i64 0]) (by simp [results, Tryd.results19, go_sem, p0, p1]) rfl ?_
  have KK := (Kept.refl (fun k => k = w.heap.size) w1).setG 0 (.int .i64 (s : Nat)) |>.setG 1 (.slice (some ⟨w.heap.size + 1, 0, none⟩) ((s + 63) / 64) ((s + 63) / 64))
  refine ⟨w.heap.size + 1, rfl, ?_, (HK.out.setNew (Nat.le_refl _) _).setNew (Nat.le_refl _) _⟩
  have HO1 := HO.out
  rw [World.size_alloc] at HO1
  exact (HO1.base (by omega)).kept KK (fun g hg => by simp [Value.ownBlock] at hg; omega)

theorem rb_new_bad (s : Int) (w : World) (h : s < 0 ∨ 4096 < s) :
    Calls Tryd.prog 19 #[.int .i64 s] w fun e w' => e = .returned (.tuple #[mapV 0 none 0 0, .int .i64 2]) ∧ Same w w' := by
  rcases h with h | h
  · go_enter Tryd.func19, Tryd.ntmps19
    go_wp2
    exact bodyPost_ret (v := .tuple #[mapV 0 none 0 0, .int .i64 2]) (by simp [results, Tryd.results19, go_sem]) rfl ⟨rfl, (Kept.refl _ w).alloc _⟩
  · have h0 : ¬ s < 0 := by omega
    go_enter Tryd.func19, Tryd.ntmps19
    go_wp2
    exact bodyPost_ret (v := .tuple #[mapV 0 none 0 0, .int .i64 2]) (by simp [results, Tryd.results19, go_sem]) rfl ⟨rfl, (Kept.refl _ w).alloc _⟩

end Go.Proofs.YtmolmamfmboeoaaDoor
