/- SectorPlays, SectorForks: the walks. -/
import Derived.Test.YtlmpkonfclnceaaSame3
namespace Go.Proofs.Ytlmpkonfclnceaa
open Go.RowKit Go.Sort

def refC (a : Option Addr) (n c : Nat) (D : Dsk) : Array Value := #[.slice a n c, .bool D.off, .int .i64 D.calls, .int .i64 D.after, .bool D.done]
/-- Both disks, and the variable of the document's one. -/
structure Both3 (W wr : World) (d bs cap m x : Nat) (a : Option Addr) (c : Nat) (D : Dsk) : Prop where
  disk : DiskIn wr d bs cap m D
  secs : SecsAt wr a D.s
  off : ∀ y, a = some y → ¬ dod d bs m y.block
  box : Blk wr x (refC a D.s.length c D) 43
  same : Same W wr
theorem off_next {w w' : World} {d bs cap m : Nat} {a a' : Option Addr} {D : Dsk} (h : ∀ y, a = some y → ¬ dod d bs m y.block) (hd : DiskIn w d bs cap m D) (k : w.heap.size ≤ w'.heap.size) (hf : a' = a ∨ Far w' a') : ∀ y, a' = some y → ¬ dod d bs m y.block := by
  have l1 := hd.box.lt; have l2 := hd.safe.lt; have l3 := hd.map.lt
  rcases hf with q | q
  · rw [q]; exact h
  · intro y hy
    have := q y hy
    rintro (r | r | r) <;> omega
theorem new40 : (newD 1099511627776).s.length = 4096 := by unfold newD secsOf; rw [List.length_replicate]; rfl

set_option maxRecDepth 100000 in
set_option maxHeartbeats 2000000 in
theorem plays3_any (W : World) (n0 : Int) (hn0 : -9223372036854775808 ≤ n0 ∧ n0 ≤ 9223372036854775807) (a0 : Option Addr) (len cap0 : Nat) (hacts : len = 0 ∨ ∃ b off, a0 = some ⟨b, off, none⟩ ∧ b < W.heap.size ∧ ActsAt W b off len) :
    Calls Try.prog 4 #[.int .i64 n0, .slice a0 len cap0] W fun e w' => e = .returned (.bool true) ∧ Same W w' := by
  by_cases hb1 : 40 < n0
  · go_enter Try.func4, Try.ntmps4
    go_wp2_with fail
    refine (sec_awake _).mono ?_
    rintro e w2 ⟨rfl, k2⟩
    go_wp2_with fail
    go_ret
    exact ⟨rfl, k2⟩
  have hb1' : n0 ≤ 40 := by omega
  by_cases hbig : 60 < len
  · have h1 : (60 : Int) < (len : Int) := by omega
    go_enter Try.func4, Try.ntmps4
    go_wp2_with fail
    refine (sec_awake _).mono ?_
    rintro e w2 ⟨rfl, k2⟩
    go_wp2_with fail
    go_ret
    exact ⟨rfl, k2⟩
  have h1 : ¬ (60 : Int) < (len : Int) := by omega
  have hl60 : len ≤ 60 := by omega
  go_enter Try.func4, Try.ntmps4
  go_wp2_with fail
  refine (sd_new n0 W).mono ?_
  rintro e w2 ⟨d, bs, cap, m, rfl, h2, hd, hbs, hm, k2⟩
  have H2 := Lib.hid h2; have K2 := Lib.hid k2
  have l1 := h2.box.lt; have l2 := h2.safe.lt; have l3 := h2.map.lt
  clear h2 k2
  go_wp2_with fail
  refine (rs_new n0 w2).mono ?_
  rintro e w3 ⟨ra, rc, rfl, ⟨hs3, hf3⟩, k3⟩
  have hz3 := k3.size
  have kx : Same w3 (w3.alloc (.cells #[.slice ra (newD n0).s.length rc, .bool (newD n0).off, .int .i64 (newD n0).calls, .int .i64 (newD n0).after, .bool (newD n0).done] 43)) := (Kept.refl _ _).alloc _
  have BB : Hid (Both3 W (w3.alloc (.cells #[.slice ra (newD n0).s.length rc, .bool (newD n0).off, .int .i64 (newD n0).calls, .int .i64 (newD n0).after, .bool (newD n0).done] 43)) d bs cap m w3.heap.size ra rc (newD n0)) :=
    ⟨H2.out.same (k3.trans kx), hs3.same kx, off_next (a := none) (fun y hy => by cases hy) H2.out (Nat.le_refl _) (.inr hf3), Blk.new _ _ _, (K2.out.trans k3).trans kx⟩
  obtain ⟨x, hx⟩ : ∃ x, w3.heap.size = x := ⟨_, rfl⟩
  have hx9 : Hid (¬ dod d bs m x) := by rintro (r | r | r) <;> omega
  have hWx : W.heap.size ≤ x := by have := K2.out.size; omega
  have dx1 : d < x := by omega
  have dx2 : bs < x := by omega
  have dx3 : m < x := by omega
  have HX := Lib.hid hx
  clear hs3 hf3 kx k3
  simp only [refV]
  go_wp2_with fail
  rw [hx] at BB
  clear hx
  go_loopw [7] (fun iv wr => ∃ (i : Nat) (D : Dsk) (a : Option Addr) (c : Nat), iv = .int .i64 (i : Nat) ∧ i ≤ len ∧ Both3 W wr d bs cap m x a c D) (fun iv _ => len - (intOf iv).toNat)
  case atStart => exact ⟨0, newD n0, ra, rc, rfl, by omega, BB.out⟩
  case round =>
    clear BB H2 K2
    obtain ⟨i, D, a, c, rfl, hi, hb⟩ := hrel
    have BB := Lib.hid hb
    have HK := hb.same
    have p0 := cell_blk hb.box
    have f0 := fun i => hb.box.free i
    have z0 := hb.box.lt
    simp only [refC] at p0
    clear hb
    by_cases hgo : i < len
    · have d1 := BB.out.disk.box.lt
      have d2 := BB.out.disk.safe.lt
      have d3 := BB.out.disk.map.lt
      have dW := HK.size
      obtain ⟨ab, ao, rfl, hab, hact⟩ := hacts.resolve_left (by omega)
      obtain ⟨k, n, cc, u, dn, fa1, fl1, fc1, fs1, ac0⟩ := hact i hgo
      have ac := ac0.same HK hab
      have c0 := ac.c0
      have c1 := ac.c1
      have c2 := ac.c2
      have c3 := ac.c3
      have c4 := ac.c4
      have c5 := ac.c5
      have P0 := Lib.hid ac.kb; have P9 := Lib.hid ac.nb; have P5 := Lib.hid ac.cb; have P6 := Lib.hid ac.ub; have P1 := Lib.hid ac.fl_; have P2 := Lib.hid ac.fc_; have P3 := Lib.hid ac.fb; have P4 := Lib.hid ac.at_
      have P7 := Lib.hid ((nats_lt ac0.at_).imp id (fun q (y : Addr) hy => show ¬ dod d bs m y.block from by have := q y hy; rintro (r | r | r) <;> omega))
      have habr := Nat.lt_of_lt_of_le hab HK.size
      have g1 : (i : Int) < (len : Int) := by omega
      have g0 : (0 : Int) ≤ (i : Int) := by omega
      clear ac ac0 hact
      clear HK
      go_wp2_with fail
      obtain ⟨D9, hD9⟩ : ∃ D9, (doD D k n cc u dn fs1).1 = D9 := ⟨_, rfl⟩
      have DO : Hid (∀ w', Same wr w' → Calls Try.prog 21 #[.pointer (some ⟨d, 0, none⟩), .agg #[.slice a D.s.length c, .bool D.off, .int .i64 D.calls, .int .i64 D.after, .bool D.done], .agg #[.int .u8 (k : Nat), .int .i64 n, .int .u8 (cc : Nat), .int .u8 (u : Nat), .bool dn, .slice fa1 fl1 fc1]] w' (DoPost w' d bs cap m a D9)) := fun w' kk => hD9 ▸ do_any (BB.out.disk.same kk) a c (BB.out.secs.same kk) BB.out.off k n cc u dn fa1 fl1 fc1 fs1 P0.out P9.out P5.out P6.out P1.out P2.out P3.out (P4.out.same kk) P7.out
      clear hD9
      have QQ : Hid (∀ w', Kept (dod d bs m) wr w' → ((∀ i, w'.cell? ⟨x, i, none⟩ = (#[.slice a D.s.length c, .bool D.off, .int .i64 D.calls, .int .i64 D.after, .bool D.done] : Array Value)[i]?) ∧ w'.cell? ⟨ab, ao + i * 6, none⟩ = some (.int .u8 (k : Nat)) ∧ w'.cell? ⟨ab, ao + i * 6 + 1, none⟩ = some (.int .i64 n) ∧ w'.cell? ⟨ab, ao + i * 6 + 2, none⟩ = some (.int .u8 (cc : Nat)) ∧ w'.cell? ⟨ab, ao + i * 6 + 3, none⟩ = some (.int .u8 (u : Nat)) ∧ w'.cell? ⟨ab, ao + i * 6 + 4, none⟩ = some (.bool dn) ∧ w'.cell? ⟨ab, ao + i * 6 + 5, none⟩ = some (.slice fa1 fl1 fc1))) := by
        intro w' k'
        have hn : ¬ dod d bs m ab := by rintro (q | q | q) <;> omega
        have hc : ∀ o, w'.cell? ⟨ab, o, none⟩ = wr.cell? ⟨ab, o, none⟩ := fun o => k'.cell (p := ⟨ab, o, none⟩) habr hn
        exact ⟨cell_blk (BB.out.box.kept k' hx9.out), (hc _).trans c0, (hc _).trans c1, (hc _).trans c2, (hc _).trans c3, (hc _).trans c4, (hc _).trans c5⟩
      go_region_held3 (fun w' => ((∀ i, w'.cell? ⟨x, i, none⟩ = (#[.slice a D.s.length c, .bool D.off, .int .i64 D.calls, .int .i64 D.after, .bool D.done] : Array Value)[i]?) ∧ w'.cell? ⟨ab, ao + i * 6, none⟩ = some (.int .u8 (k : Nat)) ∧ w'.cell? ⟨ab, ao + i * 6 + 1, none⟩ = some (.int .i64 n) ∧ w'.cell? ⟨ab, ao + i * 6 + 2, none⟩ = some (.int .u8 (cc : Nat)) ∧ w'.cell? ⟨ab, ao + i * 6 + 3, none⟩ = some (.int .u8 (u : Nat)) ∧ w'.cell? ⟨ab, ao + i * 6 + 4, none⟩ = some (.bool dn) ∧ w'.cell? ⟨ab, ao + i * 6 + 5, none⟩ = some (.slice fa1 fl1 fc1)))
        ((refine QQ.out _ ?_; repeat (first | with_reducible exact Kept.refl _ _ | with_reducible exact K9.out | with_reducible refine Kept.drew ?_ | with_reducible refine Kept.alloc ?_ _ | refine Kept.setNew ?_ (by first | (dsimp only; omega) | (simp; done) | (simp; omega)) _)))
        ((go_at_call 21; refine (DO.out _ (by repeat (first | with_reducible exact Kept.refl _ _ | with_reducible refine Kept.drew ?_ | with_reducible refine Kept.alloc ?_ _))).mono ?_; rintro e w9 ⟨a9, c9, rfl, ⟨hs9, hf9⟩, hd9, k9⟩; simp only [refV]; have HS9 := Lib.hid hs9; have HD9 := Lib.hid hd9; have HF9 := Lib.hid (off_next BB.out.off BB.out.disk (Kept.size (fp := fun _ => False) (by repeat (first | with_reducible exact Kept.refl _ _ | with_reducible refine Kept.drew ?_ | with_reducible refine Kept.alloc ?_ _))) hf9); have K9 := Lib.hid (show Kept (dod d bs m) wr w9 from Kept.trans (by repeat (first | with_reducible exact Kept.refl _ _ | with_reducible refine Kept.drew ?_ | with_reducible refine Kept.alloc ?_ _)) k9); (first | (have B8 := Lib.hid (show Blk w9 wr.heap.size #[.slice none 0 0, .bool false, .int .i64 0, .int .i64 0, .bool false] 43 from Blk.kept (Blk.drew (Blk.new wr _ _)) k9 (by rintro (q | q | q) <;> omega)); have r8 := cell_blk B8.out; have s8 := fun i => B8.out.free i; have y8 := B8.out.lt) | skip); have hz9 := K9.out.size; have B9 := Lib.hid (show Blk w9 x (refC a D.s.length c D) 43 from BB.out.box.kept K9.out hx9.out); have r0 := cell_blk B9.out; have s0 := fun i => B9.out.free i; have y0 := B9.out.lt; simp only [refC] at r0; clear hs9 hf9 hd9 k9))
      all_goals
        clear QQ DO
        go_wp2_with fail
        go_roundw
        case rel =>
          refine ⟨i + 1, D9, a9, c9, by go_num, by omega, ⟨?_, ?_, HF9.out, ?_, ?_⟩⟩
          · refine HD9.out.kept (fp := fun j => j = x ∨ j = wr.heap.size) ?_ (by omega) (by omega) (by omega)
            (repeat (first | with_reducible exact Kept.refl _ _ | with_reducible refine Kept.drew ?_ | with_reducible refine Kept.alloc ?_ _ | with_reducible refine Kept.setCell ?_ (fun _ => by dsimp only; omega) _))
          · first
              | (refine SecsAt.apart HS9.out B9.out ?_ (nostr5 _ _ _ _ _ _ _); (repeat (first | with_reducible exact Kept.refl _ _ | with_reducible refine Kept.drew ?_ | with_reducible refine Kept.alloc ?_ _ | with_reducible refine Kept.setG ?_ _ _)); done)
              | (refine SecsAt.apart2 HS9.out B9.out B8.out ?_ (nostr5 _ _ _ _ _ _ _) (nostr5 _ _ _ _ _ _ _); (repeat (first | with_reducible exact Kept.refl _ _ | with_reducible refine Kept.drew ?_ | with_reducible refine Kept.alloc ?_ _ | with_reducible refine Kept.setCell ?_ (fun _ => by dsimp only; omega) _)); done)
          · simp only [refC]
            (try with_reducible refine Blk.alloc ?_ _)
            with_reducible refine Blk.set5 (v0 := .slice a D.s.length c) (v1 := .bool D.off) (v2 := .int .i64 D.calls) (v3 := .int .i64 D.after) (v4 := .bool D.done) ?_
            have b9 : Blk w9 x #[.slice a D.s.length c, .bool D.off, .int .i64 D.calls, .int .i64 D.after, .bool D.done] 43 := B9.out
            repeat (first | with_reducible exact b9 | with_reducible refine Blk.alloc ?_ _ | with_reducible refine Blk.drew ?_ | with_reducible refine Blk.other ?_ (by dsimp only; omega) _)
          · have ks : Same W w9 := BB.out.same.own K9.out hd hbs hm
            repeat (first | with_reducible exact ks | with_reducible refine Kept.drew ?_ | with_reducible refine Kept.alloc ?_ _ | with_reducible refine Kept.setNew ?_ (by dsimp only; omega) _)
        case measure => simp [intOf]; omega
    · have g1 : ¬ (i : Int) < (len : Int) := by omega
      clear HK
      go_wp2_with fail
      refine (same_any BB.out.disk a c BB.out.secs).mono ?_
      rintro e w4 ⟨rfl, k4⟩
      go_wp2_with fail
      refine (sd_new 1099511627776 w4).mono ?_
      rintro e w5 ⟨d5, bs5, cap5, m5, rfl, h5, -, -, -, k5⟩
      go_wp2_with fail
      refine (sd_size h5).mono ?_
      rw [new40]
      rintro e w6 ⟨rfl, rfl⟩
      go_wp2_with fail
      refine (sec_awake _).mono ?_
      rintro e w7 ⟨rfl, k7⟩
      go_wp2_with fail
      go_ret
      exact ⟨rfl, ((BB.out.same.trans k4).trans k5).trans k7⟩
end Go.Proofs.Ytlmpkonfclnceaa
