/- The document's disk: New. -/
import Derived.Test.YtlmpkonfclnceaaRef3d
namespace Go.Proofs.Ytlmpkonfclnceaa
open Go.RowKit

section
attribute [local go_sem ↓] exec_app semAt_app
attribute [local go_sem] isApp_lit appA appX
set_option maxRecDepth 100000 in
set_option maxHeartbeats 800000 in
theorem rs_new (n : Int) (w : World) :
    Calls Try.prog 20 #[.int .i64 n] w fun e w' => RefD w w' e (newD n) := by
  obtain ⟨i0, hi, hz0, hz1, hz2⟩ := info_parts (show (Try.prog.info? 5).map (fun i => (i.zero, i.size, i.bytes)) = some (some (.int .u8 0), 1, 1) by kernel_rfl)
  have HI := Lib.hid hi; have HZ0 := Lib.hid hz0; have HZ1 := Lib.hid hz1; have HZ2 := Lib.hid hz2
  clear hi hz0 hz1 hz2
  obtain ⟨N, hN⟩ : ∃ N, secsOf n = N := ⟨_, rfl⟩
  have hN1 : N ≤ 4096 := by rw [← hN]; unfold secsOf; omega
  have hN2 : ∀ i : Nat, i < N → (i : Int) < n := by intro i h; rw [← hN] at h; unfold secsOf at h; omega
  have hN3 : (N : Int) < n → N = 4096 := by intro h; rw [← hN] at h ⊢; unfold secsOf at h ⊢; omega
  have hfin : newD n = ⟨List.replicate N sec0, false, 0, -1, false⟩ := by unfold newD; rw [hN]
  obtain ⟨D, hD⟩ : ∃ D, newD n = D := ⟨_, rfl⟩
  rw [hD] at hfin ⊢
  have HD : Hid (∀ i, i = N → D = ⟨List.replicate i sec0, false, 0, -1, false⟩) := fun i h => by rw [h]; exact hfin
  clear hfin hN hD
  go_enter Try.func20, Try.ntmps20
  go_wp2_with (at_make; refine wpList_make_full _ rfl _ _ 24 rfl w.heap.size 5 i0 (.int .u8 0) 1 Try.underlying24 HI.out HZ0.out HZ1.out .i64 .i64 _ _ 256 rfl rfl rfl rfl (by rw [HZ2.out]; omega) (by unfold maxLen; omega) (by simp; omega) ?_; intro w1 hown hgrow; have hcv := conv_str _ 256 256 zeros w1 rfl (OwnN.made hown).nats; simp only [World.size_alloc] at hcv; have F1 := Lib.hid (show Fr w1 [(w.heap.size, #[.slice none 0 0, .bool false, .int .i64 0, .int .i64 0, .bool false], 43), (w.heap.size + 1, #[.slice none 0 0, .bool false, .int .i64 0, .int .i64 (-1), .bool false], 43)] from Fr.same (w := (w.alloc _).alloc _) ⟨(Blk.new w _ _).alloc _, Blk.new' _ _ _ (by simp), trivial⟩ ((Kept.refl _ _).grownNew hgrow (by simp))); have K1 := Lib.hid (show Same w w1 from (((Kept.refl _ w).alloc _).alloc _).grownNew hgrow (by simp)); have Z1 := Lib.hid (Blk.lt F1.out.2.1); clear hown hgrow)
  clear hcv HI HZ0 HZ1 HZ2
  obtain ⟨Z, hZ⟩ : ∃ Z, strN zeros = Z := ⟨_, rfl⟩
  rw [hZ]
  have HZ := Lib.hid hZ
  clear hZ
  go_loopw [5] (fun iv wr => ∃ (i : Nat) (v : Value), iv = .int .i64 i ∧ i ≤ N ∧ OwnS wr (w.heap.size + 1 + 1) v (List.replicate i sec0) ∧ Fr wr [(w.heap.size, #[.slice none 0 0, .bool false, .int .i64 0, .int .i64 0, .bool false], 43), (w.heap.size + 1, #[v, .bool false, .int .i64 0, .int .i64 (-1), .bool false], 43)] ∧ Same w wr) (fun iv _ => N - (intOf iv).toNat)
  case atStart => exact ⟨0, .slice none 0 0, rfl, Nat.zero_le _, OwnS.nil _ _, F1.out, K1.out⟩
  case round =>
    clear F1 K1 Z1
    obtain ⟨i, v, rfl, hi, ho, hf, hk⟩ := hrel
    obtain ⟨a1, c1, rfl, -⟩ := ho.secs
    simp only [List.length_replicate] at *
    obtain ⟨p0, f0, p1, f1, -⟩ := hf.rules
    have z0 := hf.1.lt
    have z1 := hf.2.1.lt
    have HF := Lib.hid hf
    have HK := Lib.hid hk
    have HO := Lib.hid ho
    clear hf hk
    by_cases hgo : i < N
    · have h1 := hN2 i hgo
      have h2 : (i : Int) < 4096 := by omega
      have kB : Same wr (wr.alloc (.cells #[.string Z, .string Z, .bool false] 107)) := (Kept.refl _ wr).alloc _
      obtain ⟨v5, w5, hrun, h5, g5⟩ := app_secs (wr.alloc (.cells #[.string Z, .string Z, .bool false] 107)) (w.heap.size + 1 + 1) (.slice a1 i c1) (List.replicate i sec0) (ho.same kB) (some ⟨wr.heap.size, 0, none⟩) 1 1 [sec0] rfl (secsAt_new (x := sec0) (by rw [show strN sec0.has = Z from HZ.out, show strN sec0.safe = Z from HZ.out]; exact Blk.new wr _ _)) (fun h => by cases h) (by simp; omega) (Nat.le_trans (by omega) kB.size)
      obtain ⟨aok, aV, aW⟩ := app_of hrun
      have kg : Kept (fun j => (Value.slice a1 i c1).ownBlock = some j) (wr.alloc (.cells #[.string Z, .string Z, .bool false] 107)) w5 := (Kept.refl _ _).grown g5 (fun k hk _ => hk)
      have f5 := ((HF.out.same kB).kept kg (fun x hx q => by have := (ho.far _ q).1; simp at hx; rcases hx with rfl | rfl <;> simp at this <;> omega))
      have K5 := Lib.hid ((HK.out.trans kB).grownNew g5 (fun k hk => by have := (ho.far _ hk).1; omega))
      rw [← List.replicate_succ'] at h5
      obtain ⟨a5, c5, rfl, -⟩ := h5.secs
      simp only [List.length_replicate] at h5 aV
      have H5 := Lib.hid h5
      have F5 := Lib.hid f5
      obtain ⟨q0, e0, q1, e1, -⟩ := f5.rules
      have y0 := f5.1.lt
      have y1 := f5.2.1.lt
      clear hrun h5 g5 kg kB ho HF HK f5
      go_wp2_with fail
      go_roundw
      case rel =>
        refine ⟨i + 1, .slice a5 (i + 1) c5, by go_num, by omega, ?_, ⟨?_, ?_, trivial⟩, ?_⟩
        · refine (H5.out.kept (fp := fun j => j < w.heap.size + 1 + 1) ?_ (fun g hg q => by have := (H5.out.far g hg).1; omega))
          with_reducible refine Kept.setCell ?_ (fun _ => by dsimp only; omega) _
          with_reducible exact Kept.refl _ _
        · with_reducible refine Blk.other ?_ (by dsimp only; omega) _
          exact F5.out.1
        · exact F5.out.2.1.set 0 _
        · with_reducible refine Kept.setNew ?_ (by dsimp only; omega) _
          with_reducible exact K5.out
      case measure => simp [intOf]; omega
    · have e : i = N := by omega
      subst e
      clear ho
      by_cases hl : (i : Int) < n
      · have h4 := hN3 hl
        subst h4
        go_wp2_with fail
        refine bodyPost_ret (results_two rfl _ _ w.heap.size 43 #[.slice a1 (4096) c1, .bool false, .int .i64 0, .int .i64 (-1), .bool false] _ rfl ?_ Try.underlying43 rfl (by kernel_rfl)) rfl ?_
        · refine Blk.set5 (v0 := .slice none 0 0) (v1 := .bool false) (v2 := .int .i64 0) (v3 := .int .i64 0) (v4 := .bool false) ?_
          repeat (with_reducible refine Blk.other ?_ (by dsimp only; omega) _)
          exact HF.out.1
        · rw [HD.out (4096) rfl]
          refine ⟨a1, c1, by rw [List.length_replicate]; rfl, ⟨?_, fun x hx => by subst hx; have := (HO.out.far x.block rfl).1; omega⟩, ?_⟩
          · refine (HO.out.kept (fp := fun j => j < w.heap.size + 1 + 1) ?_ (fun g hg q => by have := (HO.out.far g hg).1; omega)).at
            repeat (first | with_reducible exact Kept.refl _ _ | with_reducible refine Kept.setCell ?_ (fun _ => by dsimp only; omega) _)
          · repeat (first | with_reducible exact HK.out | with_reducible refine Kept.setNew ?_ (by dsimp only; omega) _)
      · go_wp2_with fail
        refine bodyPost_ret (results_two rfl _ _ w.heap.size 43 #[.slice a1 (i) c1, .bool false, .int .i64 0, .int .i64 (-1), .bool false] _ rfl ?_ Try.underlying43 rfl (by kernel_rfl)) rfl ?_
        · refine Blk.set5 (v0 := .slice none 0 0) (v1 := .bool false) (v2 := .int .i64 0) (v3 := .int .i64 0) (v4 := .bool false) ?_
          repeat (with_reducible refine Blk.other ?_ (by dsimp only; omega) _)
          exact HF.out.1
        · rw [HD.out (i) rfl]
          refine ⟨a1, c1, by rw [List.length_replicate]; rfl, ⟨?_, fun x hx => by subst hx; have := (HO.out.far x.block rfl).1; omega⟩, ?_⟩
          · refine (HO.out.kept (fp := fun j => j < w.heap.size + 1 + 1) ?_ (fun g hg q => by have := (HO.out.far g hg).1; omega)).at
            repeat (first | with_reducible exact Kept.refl _ _ | with_reducible refine Kept.setCell ?_ (fun _ => by dsimp only; omega) _)
          · repeat (first | with_reducible exact HK.out | with_reducible refine Kept.setNew ?_ (by dsimp only; omega) _)
end
end Go.Proofs.Ytlmpkonfclnceaa
