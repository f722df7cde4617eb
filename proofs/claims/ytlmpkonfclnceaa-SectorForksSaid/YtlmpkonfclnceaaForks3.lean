/- SectorForks: the walk. -/
import Derived.Test.YtlmpkonfclnceaaPlays3
import Derived.Test.YtlmpkonfclnceaaNil3
namespace Go.Proofs.Ytlmpkonfclnceaa
open Go.RowKit Go.Sort

theorem refC_nostr (a : Option Addr) (n c : Nat) (D : Dsk) : ∀ (i : Nat) (v : ByteArray), (refC a n c D)[i]? ≠ some (.string v) := nostr5 _ _ _ _ _ _ _
/-- What a call leaves, and its storing into the variable. -/
theorem Both3.next {W wr w9 : World} {d bs cap m x : Nat} {a a9 : Option Addr} {c c9 : Nat} {D D9 : Dsk} (h : Both3 W wr d bs cap m x a c D) (hx : ¬ dod d bs m x) (hd : W.heap.size ≤ d) (hbs : W.heap.size ≤ bs) (hm : W.heap.size ≤ m) (hW : W.heap.size ≤ x)
    (hd9 : DiskIn w9 d bs cap m D9) (hs9 : SecsAt w9 a9 D9.s) (ho : ∀ y, a9 = some y → ¬ dod d bs m y.block) (k9 : Kept (dod d bs m) wr w9) :
    Both3 W (((((w9.setCell ⟨x, 0, none⟩ (.slice a9 D9.s.length c9)).setCell ⟨x, 1, none⟩ (.bool D9.off)).setCell ⟨x, 2, none⟩ (.int .i64 D9.calls)).setCell ⟨x, 3, none⟩ (.int .i64 D9.after)).setCell ⟨x, 4, none⟩ (.bool D9.done)) d bs cap m x a9 c9 D9 := by
  have b9 : Blk w9 x (refC a D.s.length c D) 43 := h.box.kept k9 hx
  have kk : Kept (fun j => j = x) w9 (((((w9.setCell ⟨x, 0, none⟩ (.slice a9 D9.s.length c9)).setCell ⟨x, 1, none⟩ (.bool D9.off)).setCell ⟨x, 2, none⟩ (.int .i64 D9.calls)).setCell ⟨x, 3, none⟩ (.int .i64 D9.after)).setCell ⟨x, 4, none⟩ (.bool D9.done)) :=
    (((((Kept.refl _ _).setG _ _).setG _ _).setG _ _).setG _ _).setG _ _
  refine ⟨hd9.kept kk (fun q => hx (.inl q.symm)) (fun q => hx (.inr (.inl q.symm))) (fun q => hx (.inr (.inr q.symm))), hs9.apart b9 kk (refC_nostr _ _ _ _), ho, ?_, ?_⟩
  · exact Blk.set5 (v0 := .slice a D.s.length c) (v1 := .bool D.off) (v2 := .int .i64 D.calls) (v3 := .int .i64 D.after) (v4 := .bool D.done) b9
  · exact (h.same.own k9 hd hbs hm).step kk (fun i hi q => by omega)
theorem Both3.keep {W wr w9 : World} {d bs cap m x : Nat} {a : Option Addr} {c : Nat} {D : Dsk} {fp : Nat → Prop} (h : Both3 W wr d bs cap m x a c D) (k : Kept fp wr w9) (ks : Same W w9) (h1 : ¬ fp d) (h2 : ¬ fp bs) (h3 : ¬ fp m) (h4 : ¬ fp x) (h5 : D.s = [] ∨ ∀ y, a = some y → ¬ fp y.block) : Both3 W w9 d bs cap m x a c D :=
  ⟨h.disk.kept k h1 h2 h3, h.secs.kept k h5, h.off, h.box.kept k h4, ks⟩
theorem Both3.go {W wr w9 : World} {d bs cap m x : Nat} {a : Option Addr} {c : Nat} {D : Dsk} (h : Both3 W wr d bs cap m x a c D) (k : Same wr w9) : Both3 W w9 d bs cap m x a c D :=
  h.keep k (h.same.trans k) (fun q => q) (fun q => q) (fun q => q) (fun q => q) (.inr (fun _ _ q => q))

set_option maxRecDepth 100000 in
set_option maxHeartbeats 8000000 in
theorem forks3_any (W : World) (a0 : Option Addr) (len cap0 : Nat) (hacts : len = 0 ∨ ∃ b off, a0 = some ⟨b, off, none⟩ ∧ b < W.heap.size ∧ ActsAt W b off len)
    (b0 : Option Addr) (len2 cap2 : Nat) (hacts2 : len2 = 0 ∨ ∃ b off, b0 = some ⟨b, off, none⟩ ∧ b < W.heap.size ∧ ActsAt W b off len2) :
    Calls Try.prog 6 #[.slice a0 len cap0, .slice b0 len2 cap2] W fun e w' => e = .returned (.bool true) ∧ Same W w' := by
  by_cases hb1 : 40 < len
  · have h1 : (40 : Int) < (len : Int) := by omega
    go_enter Try.func6, Try.ntmps6
    go_wp2_with fail
    refine (sec_awake _).mono ?_
    rintro e w2 ⟨rfl, k2⟩
    go_wp2_with fail
    go_ret
    exact ⟨rfl, k2⟩
  have h1' : ¬ (40 : Int) < (len : Int) := by omega
  by_cases hbig : 40 < len2
  · have h1 : (40 : Int) < (len2 : Int) := by omega
    go_enter Try.func6, Try.ntmps6
    go_wp2_with fail
    refine (sec_awake _).mono ?_
    rintro e w2 ⟨rfl, k2⟩
    go_wp2_with fail
    go_ret
    exact ⟨rfl, k2⟩
  have h1 : ¬ (40 : Int) < (len2 : Int) := by omega
  have hl40 : len ≤ 40 := by omega
  have hl41 : len2 ≤ 40 := by omega
  go_enter Try.func6, Try.ntmps6
  go_wp2_with fail
  refine (sd_new 9 W).mono ?_
  rintro e w2 ⟨d, bs, cap, m, rfl, h2, hd, hbs, hm, k2⟩
  have H2 := Lib.hid h2; have K2 := Lib.hid k2
  have l1 := h2.box.lt; have l2 := h2.safe.lt; have l3 := h2.map.lt
  clear h2 k2
  go_wp2_with fail
  refine (rs_new 9 w2).mono ?_
  rintro e w3 ⟨ra, rc, rfl, ⟨hs3, hf3⟩, k3⟩
  have hz3 := k3.size
  have kx : Same w3 (w3.alloc (.cells #[.slice ra (newD 9).s.length rc, .bool (newD 9).off, .int .i64 (newD 9).calls, .int .i64 (newD 9).after, .bool (newD 9).done] 43)) := (Kept.refl _ _).alloc _
  have BB : Hid (Both3 W (w3.alloc (.cells #[.slice ra (newD 9).s.length rc, .bool (newD 9).off, .int .i64 (newD 9).calls, .int .i64 (newD 9).after, .bool (newD 9).done] 43)) d bs cap m w3.heap.size ra rc (newD 9)) :=
    ⟨H2.out.same (k3.trans kx), hs3.same kx, off_next (a := none) (fun y hy => by cases hy) H2.out (Nat.le_refl _) (.inr hf3), Blk.new _ _ _, (K2.out.trans k3).trans kx⟩
  obtain ⟨x, hx⟩ : ∃ x, w3.heap.size = x := ⟨_, rfl⟩
  have hx9 : Hid (¬ dod d bs m x) := by rintro (r | r | r) <;> omega
  have hWx : W.heap.size ≤ x := by have := K2.out.size; omega
  have dx1 : d < x := by omega
  have dx2 : bs < x := by omega
  have dx3 : m < x := by omega
  have HX := Lib.hid hx
  clear hs3 hf3 kx k3
  simp only [refV]
  go_wp2_with fail
  rw [hx] at BB
  clear hx
  go_loopw [7] (fun iv wr => ∃ (i : Nat) (D : Dsk) (a : Option Addr) (c : Nat), iv = .int .i64 (i : Nat) ∧ i ≤ len ∧ D.s.length = 9 ∧ Both3 W wr d bs cap m x a c D) (fun iv _ => len - (intOf iv).toNat)
  case atStart => exact ⟨0, newD 9, ra, rc, rfl, by omega, List.length_replicate, BB.out⟩
  case round =>
    clear BB H2 K2
    obtain ⟨i, D, a, c, rfl, hi, hl9, hb⟩ := hrel
    have HL9 := Lib.hid hl9
    have BB := Lib.hid hb
    have HK := hb.same
    have p0 := cell_blk hb.box
    have f0 := fun i => hb.box.free i
    have z0 := hb.box.lt
    simp only [refC] at p0
    have dW := HK.size
    clear hb
    by_cases hgo : i < len
    · have d1 := BB.out.disk.box.lt
      have d2 := BB.out.disk.safe.lt
      have d3 := BB.out.disk.map.lt
      obtain ⟨ab, ao, rfl, hab, hact⟩ := hacts.resolve_left (by omega)
      obtain ⟨k, n, cc, u, dn, fa1, fl1, fc1, fs1, ac0⟩ := hact i hgo
      have ac := ac0.same HK hab
      have c0 := ac.c0
      have c1 := ac.c1
      have c2 := ac.c2
      have c3 := ac.c3
      have c4 := ac.c4
      have c5 := ac.c5
      have P0 := Lib.hid ac.kb; have P9 := Lib.hid ac.nb; have P5 := Lib.hid ac.cb; have P6 := Lib.hid ac.ub; have P1 := Lib.hid ac.fl_; have P2 := Lib.hid ac.fc_; have P3 := Lib.hid ac.fb; have P4 := Lib.hid ac.at_
      have P7 := Lib.hid ((nats_lt ac0.at_).imp id (fun q (y : Addr) hy => show ¬ dod d bs m y.block from by have := q y hy; rintro (r | r | r) <;> omega))
      have habr := Nat.lt_of_lt_of_le hab HK.size
      have g1 : (i : Int) < (len : Int) := by omega
      have g0 : (0 : Int) ≤ (i : Int) := by omega
      clear ac ac0 hact
      clear HK hl9
      go_wp2_with fail
      obtain ⟨D9, hD9⟩ : ∃ D9, (doD D k n cc u dn fs1).1 = D9 := ⟨_, rfl⟩
      have DO : Hid (∀ w', Same wr w' → Calls Try.prog 21 #[.pointer (some ⟨d, 0, none⟩), .agg #[.slice a D.s.length c, .bool D.off, .int .i64 D.calls, .int .i64 D.after, .bool D.done], .agg #[.int .u8 (k : Nat), .int .i64 n, .int .u8 (cc : Nat), .int .u8 (u : Nat), .bool dn, .slice fa1 fl1 fc1]] w' (DoPost w' d bs cap m a D9)) := fun w' kk => hD9 ▸ do_any (BB.out.disk.same kk) a c (BB.out.secs.same kk) BB.out.off k n cc u dn fa1 fl1 fc1 fs1 P0.out P9.out P5.out P6.out P1.out P2.out P3.out (P4.out.same kk) P7.out
      have HLD := Lib.hid (show D9.s.length = D.s.length from hD9 ▸ doD_len D k n cc u dn fs1)
      clear hD9
      go_region_with ((go_at_call 21; refine (DO.out _ (by repeat (first | with_reducible exact Kept.refl _ _ | with_reducible refine Kept.drew ?_ | with_reducible refine Kept.alloc ?_ _))).mono ?_; rintro e w9 ⟨a9, c9, rfl, ⟨hs9, hf9⟩, hd9, k9⟩; simp only [refV]; have HS9 := Lib.hid hs9; have HD9 := Lib.hid hd9; have HF9 := Lib.hid (off_next BB.out.off BB.out.disk (Kept.size (fp := fun _ => False) (by repeat (first | with_reducible exact Kept.refl _ _ | with_reducible refine Kept.drew ?_ | with_reducible refine Kept.alloc ?_ _))) hf9); have K9 := Lib.hid (show Kept (dod d bs m) wr w9 from Kept.trans (by repeat (first | with_reducible exact Kept.refl _ _ | with_reducible refine Kept.drew ?_ | with_reducible refine Kept.alloc ?_ _)) k9);  have hz9 := K9.out.size; have B9 := Lib.hid (show Blk w9 x (refC a D.s.length c D) 43 from BB.out.box.kept K9.out hx9.out); have r0 := cell_blk B9.out; have s0 := fun i => B9.out.free i; have y0 := B9.out.lt; simp only [refC] at r0; clear hs9 hf9 hd9 k9))
      all_goals
        clear DO
        go_wp2_with fail
        go_roundw
        case rel => exact ⟨i + 1, D9, a9, c9, by go_num, by omega, HLD.out.trans HL9.out, (BB.out.next hx9.out hd hbs hm hWx HD9.out HS9.out HF9.out K9.out)⟩
        case measure => simp [intOf]; omega
    · have g1 : ¬ (i : Int) < (len : Int) := by omega
      have d1 := BB.out.disk.box.lt
      have d2' := BB.out.disk.safe.lt
      have d3 := BB.out.disk.map.lt
      have HKW := Lib.hid HK
      clear HK hl9
      have hay : ∀ y, a = some y → y.block < wr.heap.size := (secsAt_lt BB.out.secs).resolve_left (fun q => by have := HL9.out; rw [q] at this; cases this)
      have QQ : Hid (∀ w', Same wr w' → (∀ i, w'.cell? ⟨x, i, none⟩ = (#[.slice a D.s.length c, .bool D.off, .int .i64 D.calls, .int .i64 D.after, .bool D.done] : Array Value)[i]?)) := fun w' k' => cell_blk (BB.out.box.kept k' (fun h => h))
      have KN := Lib.hid (Kept.refl (fun _ => False) wr)
      go_wp2_with fail
      go_region_held3 (fun w' => ∀ i, w'.cell? ⟨x, i, none⟩ = (#[.slice a D.s.length c, .bool D.off, .int .i64 D.calls, .int .i64 D.after, .bool D.done] : Array Value)[i]?)
        ((refine QQ.out _ ?_; repeat (first | with_reducible exact Kept.refl _ _ | with_reducible exact KN.out | with_reducible refine Kept.drew ?_ | with_reducible refine Kept.alloc ?_ _ | refine Kept.setNew ?_ (by first | (dsimp only; omega) | (simp; done) | (simp; omega)) _)))
        ((go_at_call 24; refine (sd_fork (BB.out.disk.same (by repeat (first | with_reducible exact Kept.refl _ _ | with_reducible refine Kept.drew ?_ | with_reducible refine Kept.alloc ?_ _)))).mono ?_; rintro e w5 ⟨d2, bs2, cap3, m2, rfl, h5, hd5, hbs5, hm5, k5⟩; have hd6 : wr.heap.size ≤ d2 := Nat.le_trans (Kept.size (fp := fun _ => False) (by repeat (first | with_reducible exact Kept.refl _ _ | with_reducible refine Kept.drew ?_ | with_reducible refine Kept.alloc ?_ _))) hd5; have hbs6 : wr.heap.size ≤ bs2 := Nat.le_trans (Kept.size (fp := fun _ => False) (by repeat (first | with_reducible exact Kept.refl _ _ | with_reducible refine Kept.drew ?_ | with_reducible refine Kept.alloc ?_ _))) hbs5; have hm6 : wr.heap.size ≤ m2 := Nat.le_trans (Kept.size (fp := fun _ => False) (by repeat (first | with_reducible exact Kept.refl _ _ | with_reducible refine Kept.drew ?_ | with_reducible refine Kept.alloc ?_ _))) hm5; (try have hs1 : wr.heap.size < d2 := by (have := hd5; simp at this; omega)); (try have hs2 : wr.heap.size < bs2 := by (have := hbs5; simp at this; omega)); (try have hs3 : wr.heap.size < m2 := by (have := hm5; simp at this; omega)); have H5 := Lib.hid h5; have hz5 := k5.size; (first | (have B8 := Lib.hid (show Blk w5 wr.heap.size #[.slice none 0 0, .bool false, .int .i64 0, .int .i64 0, .bool false] 43 from Blk.kept (Blk.drew (Blk.new wr _ _)) k5 (fun h => h)); have r8 := cell_blk B8.out; have s8 := fun i => B8.out.free i; have y8 := B8.out.lt) | skip); have KN' := Lib.hid (show Same wr w5 from Kept.trans (by repeat (first | with_reducible exact Kept.refl _ _ | with_reducible refine Kept.drew ?_ | with_reducible refine Kept.alloc ?_ _)) k5); clear KN; have KN := KN'; clear KN' h5 k5 hd5 hbs5 hm5))
      all_goals
        clear QQ p0 f0 HL9
        have hWr := HKW.out.size
        have hd2 : W.heap.size ≤ d2 := by omega
        have hbs2 : W.heap.size ≤ bs2 := by omega
        have hm2 : W.heap.size ≤ m2 := by omega
        have offF : Hid (∀ y, a = some y → ¬ dod d2 bs2 m2 y.block) := fun y hy => by have := hay y hy; rintro (q | q | q) <;> omega
        have hlt1 := H5.out.box.lt
        have hlt2 := H5.out.safe.lt
        have hlt3 := H5.out.map.lt
      · have ka : Same w5 (w5.alloc (.cells #[.slice a D.s.length c, .bool D.off, .int .i64 D.calls, .int .i64 D.after, .bool D.done] 43)) := (Kept.refl _ _).alloc _
        have BF : Hid (Both3 W (w5.alloc (.cells #[.slice a D.s.length c, .bool D.off, .int .i64 D.calls, .int .i64 D.after, .bool D.done] 43)) d2 bs2 cap3 m2 w5.heap.size a c D) := ⟨H5.out.same ka, (BB.out.secs.same KN.out).same ka, offF.out, Blk.new _ _ _, (BB.out.same.trans KN.out).trans ka⟩
        have BG : Hid (Both3 W (w5.alloc (.cells #[.slice a D.s.length c, .bool D.off, .int .i64 D.calls, .int .i64 D.after, .bool D.done] 43)) d bs cap m x a c D) := (BB.out.go KN.out).go ka
        obtain ⟨x2, hx2⟩ : ∃ x2, w5.heap.size = x2 := ⟨_, rfl⟩
        rw [hx2] at BF hlt1 hlt2 hlt3 hz5 ⊢
        have hx29 : Hid (¬ dod d2 bs2 m2 x2) := by rintro (r | r | r) <;> omega
        have hWx2 : W.heap.size ≤ x2 := by omega
        have hxx2 : x < x2 := by omega
        have hax2 : wr.heap.size ≤ x2 := by omega
        clear ka BB KN H5 offF hx2
        obtain ⟨HZ, hHZ⟩ : ∃ HZ, wr.heap.size = HZ := ⟨_, rfl⟩
        rw [hHZ] at hay hax2 hd6 hbs6 hm6 d1 d2' d3 z0
        clear hHZ
        go_wp2_with fail
        go_loopw [10, 11] (fun bv iv wr => ∃ (i : Nat) (E : Dsk) (a3 : Option Addr) (cr3 : Nat), bv = .int .i64 0 ∧ iv = .int .i64 (i : Nat) ∧ i ≤ len2 ∧ Both3 W wr d2 bs2 cap3 m2 x2 a3 cr3 E ∧ Both3 W wr d bs cap m x a c D) (fun _ iv _ => len2 - (intOf iv).toNat)
        case atStart => exact ⟨0, D, a, c, rfl, rfl, by omega, BF.out, BG.out⟩
        case round =>
          clear BF BG
          obtain ⟨i, E, a3, cr3, rfl, rfl, hi2, hb, hg⟩ := hrel
          have BF := Lib.hid hb
          have BG := Lib.hid hg
          have HK := hb.same
          have p0 := cell_blk hb.box
          have f0 := fun i => hb.box.free i
          have z0 := hb.box.lt
          have q0 := cell_blk hg.box
          have qf0 := fun i => hg.box.free i
          simp only [refC] at p0 q0
          have dW := HK.size
          clear hb hg
          by_cases hgo : i < len2
          · have e1 := BF.out.disk.box.lt
            have e2 := BF.out.disk.safe.lt
            have e3 := BF.out.disk.map.lt
            obtain ⟨ab, ao, rfl, hab, hact⟩ := hacts2.resolve_left (by omega)
            obtain ⟨k, n, cc, u, dn, fa1, fl1, fc1, fs1, ac0⟩ := hact i hgo
            have ac := ac0.same HK hab
            have c0 := ac.c0
            have c1 := ac.c1
            have c2 := ac.c2
            have c3 := ac.c3
            have c4 := ac.c4
            have c5 := ac.c5
            have P0 := Lib.hid ac.kb; have P9 := Lib.hid ac.nb; have P5 := Lib.hid ac.cb; have P6 := Lib.hid ac.ub; have P1 := Lib.hid ac.fl_; have P2 := Lib.hid ac.fc_; have P3 := Lib.hid ac.fb; have P4 := Lib.hid ac.at_
            have P7 := Lib.hid ((nats_lt ac0.at_).imp id (fun q (y : Addr) hy => show ¬ dod d2 bs2 m2 y.block from by have := q y hy; rintro (r | r | r) <;> omega))
            have habr := Nat.lt_of_lt_of_le hab HK.size
            have g1 : (i : Int) < (len2 : Int) := by omega
            have g0 : (0 : Int) ≤ (i : Int) := by omega
            clear ac ac0 hact
            clear HK
            clear q0 qf0
            go_wp2_with fail
            obtain ⟨D9, hD9⟩ : ∃ D9, (doD E k n cc u dn fs1).1 = D9 := ⟨_, rfl⟩
            have DO : Hid (∀ w', Same wr w' → Calls Try.prog 21 #[.pointer (some ⟨d2, 0, none⟩), .agg #[.slice a3 E.s.length cr3, .bool E.off, .int .i64 E.calls, .int .i64 E.after, .bool E.done], .agg #[.int .u8 (k : Nat), .int .i64 n, .int .u8 (cc : Nat), .int .u8 (u : Nat), .bool dn, .slice fa1 fl1 fc1]] w' (DoPost w' d2 bs2 cap3 m2 a3 D9)) := fun w' kk => hD9 ▸ do_any (BF.out.disk.same kk) a3 cr3 (BF.out.secs.same kk) BF.out.off k n cc u dn fa1 fl1 fc1 fs1 P0.out P9.out P5.out P6.out P1.out P2.out P3.out (P4.out.same kk) P7.out
            clear hD9
            go_region_with ((go_at_call 21; refine (DO.out _ (by repeat (first | with_reducible exact Kept.refl _ _ | with_reducible refine Kept.drew ?_ | with_reducible refine Kept.alloc ?_ _))).mono ?_; rintro e w9 ⟨a9, c9, rfl, ⟨hs9, hf9⟩, hd9, k9⟩; simp only [refV]; have HS9 := Lib.hid hs9; have HD9 := Lib.hid hd9; have HF9 := Lib.hid (off_next BF.out.off BF.out.disk (Kept.size (fp := fun _ => False) (by repeat (first | with_reducible exact Kept.refl _ _ | with_reducible refine Kept.drew ?_ | with_reducible refine Kept.alloc ?_ _))) hf9); have K9 := Lib.hid (show Kept (dod d2 bs2 m2) wr w9 from Kept.trans (by repeat (first | with_reducible exact Kept.refl _ _ | with_reducible refine Kept.drew ?_ | with_reducible refine Kept.alloc ?_ _)) k9);  have hz9 := K9.out.size; have B9 := Lib.hid (show Blk w9 x2 (refC a3 E.s.length cr3 E) 43 from BF.out.box.kept K9.out hx29.out); have r0 := cell_blk B9.out; have s0 := fun i => B9.out.free i; have y0 := B9.out.lt; simp only [refC] at r0; clear hs9 hf9 hd9 k9))
            all_goals
              clear DO
              go_wp2_with fail
              go_roundw
              case rel =>
                have bn := BF.out.next (c9 := c9) hx29.out hd2 hbs2 hm2 hWx2 HD9.out HS9.out HF9.out K9.out
                refine ⟨i + 1, D9, a9, c9, rfl, by go_num, by omega, bn, ?_⟩
                refine BG.out.keep (fp := fun j => dod d2 bs2 m2 j ∨ j = x2) ?_ bn.same (by rintro ((q | q | q) | q) <;> omega) (by rintro ((q | q | q) | q) <;> omega) (by rintro ((q | q | q) | q) <;> omega) (by rintro ((q | q | q) | q) <;> omega) (.inr (fun y hy => by have := hay y hy; rintro ((q | q | q) | q) <;> omega))
                have k9' : Kept (fun j => dod d2 bs2 m2 j ∨ j = x2) wr w9 := K9.out.mono (fun _ _ q => .inl q)
                repeat (first | with_reducible exact k9' | with_reducible refine Kept.setCell ?_ (fun _ => .inr rfl) _)
              case measure => simp [intOf]; omega
          · have g1 : ¬ (i : Int) < (len2 : Int) := by omega
            clear HK
            go_wp2_with fail
            refine (nil_power _ _ _ _).mono ?_
            rintro e y1 ⟨rfl, k1⟩
            go_wp2_with fail
            refine (nil_read _ _).mono ?_
            rintro e y2 ⟨rfl, k2⟩
            go_wp2_with fail
            refine (nil_write _ _ _ _ _).mono ?_
            rintro e y3 ⟨rfl, k3⟩
            go_wp2_with fail
            refine (nil_sync _).mono ?_
            rintro e y4 ⟨rfl, k4⟩
            go_wp2_with fail
            refine (nil_break _ _ _).mono ?_
            rintro e y5 ⟨rfl, k5⟩
            go_wp2_with fail
            refine (nil_off _).mono ?_
            rintro e y6 ⟨rfl, k6⟩
            go_wp2_with fail
            refine (nil_size _).mono ?_
            rintro e y7 ⟨rfl, k7⟩
            go_wp2_with fail
            refine (nil_calls _).mono ?_
            rintro e y8 ⟨rfl, k8⟩
            go_wp2_with fail
            refine (nil_waits _).mono ?_
            rintro e y9 ⟨rfl, k9⟩
            go_wp2_with fail
            refine (nil_fork _).mono ?_
            rintro e y10 ⟨rfl, k10⟩
            have kk : Same wr y10 := ((((((((k1.trans k2).trans k3).trans k4).trans k5).trans k6).trans k7).trans k8).trans k9).trans k10
            have bf := BF.out.go kk
            have bg := BG.out.go kk
            have BF2 := Lib.hid bf
            have BG2 := Lib.hid bg
            clear k1 k2 k3 k4 k5 k6 k7 k8 k9 k10 kk BF BG p0 q0 f0 qf0
            have p0 := cell_blk bf.box
            have q0 := cell_blk bg.box
            simp only [refC] at p0 q0
            clear bf bg
            go_wp2_with fail
            refine (same_any BF2.out.disk a3 cr3 BF2.out.secs).mono ?_
            rintro e y11 ⟨rfl, k11⟩
            have bg := BG2.out.go k11
            have BG3 := Lib.hid bg
            clear k11 p0 q0 BF2 BG2
            have q0 := cell_blk bg.box
            simp only [refC] at q0
            clear bg
            go_wp2_with fail
            refine (same_any BG3.out.disk a c BG3.out.secs).mono ?_
            rintro e y12 ⟨rfl, k12⟩
            go_wp2_with fail
            refine (sec_awake _).mono ?_
            rintro e y13 ⟨rfl, k13⟩
            go_wp2_with fail
            go_ret
            exact ⟨rfl, (BG3.out.same.trans k12).trans k13⟩
      · have kk : Kept (fun j => j = wr.heap.size) w5 (((((w5.setCell ⟨wr.heap.size, 0, none⟩ (.slice a D.s.length c)).setCell ⟨wr.heap.size, 1, none⟩ (.bool D.off)).setCell ⟨wr.heap.size, 2, none⟩ (.int .i64 D.calls)).setCell ⟨wr.heap.size, 3, none⟩ (.int .i64 D.after)).setCell ⟨wr.heap.size, 4, none⟩ (.bool D.done)) := (((((Kept.refl _ _).setG _ _).setG _ _).setG _ _).setG _ _).setG _ _
        have BF : Hid (Both3 W (((((w5.setCell ⟨wr.heap.size, 0, none⟩ (.slice a D.s.length c)).setCell ⟨wr.heap.size, 1, none⟩ (.bool D.off)).setCell ⟨wr.heap.size, 2, none⟩ (.int .i64 D.calls)).setCell ⟨wr.heap.size, 3, none⟩ (.int .i64 D.after)).setCell ⟨wr.heap.size, 4, none⟩ (.bool D.done)) d2 bs2 cap3 m2 wr.heap.size a c D) := ⟨H5.out.kept kk (by omega) (by omega) (by omega), (BB.out.secs.same KN.out).apart B8.out kk (nostr5 _ _ _ _ _ _ _), offF.out, Blk.set5 (v0 := .slice none 0 0) (v1 := .bool false) (v2 := .int .i64 0) (v3 := .int .i64 0) (v4 := .bool false) B8.out, (BB.out.same.trans KN.out).step kk (fun i hi q => by omega)⟩
        have BG : Hid (Both3 W (((((w5.setCell ⟨wr.heap.size, 0, none⟩ (.slice a D.s.length c)).setCell ⟨wr.heap.size, 1, none⟩ (.bool D.off)).setCell ⟨wr.heap.size, 2, none⟩ (.int .i64 D.calls)).setCell ⟨wr.heap.size, 3, none⟩ (.int .i64 D.after)).setCell ⟨wr.heap.size, 4, none⟩ (.bool D.done)) d bs cap m x a c D) := (BB.out.go KN.out).keep kk BF.out.same (by omega) (by omega) (by omega) (by omega) (.inr (fun y hy => by have := hay y hy; omega))
        obtain ⟨x2, hx2⟩ : ∃ x2, wr.heap.size = x2 := ⟨_, rfl⟩
        rw [hx2] at BF BG ⊢
        have hx29 : Hid (¬ dod d2 bs2 m2 x2) := by rintro (r | r | r) <;> omega
        have hWx2 : W.heap.size ≤ x2 := by omega
        have hxx2 : x < x2 := by omega
        clear kk BB KN H5 offF B8 r8 s8 y8
        rw [hx2] at hay hd6 hbs6 hm6 d1 d2' d3 z0
        go_wp2_with fail
        go_loopw [10, 11] (fun bv iv wr => ∃ (i : Nat) (E : Dsk) (a3 : Option Addr) (cr3 : Nat), bv = .int .i64 0 ∧ iv = .int .i64 (i : Nat) ∧ i ≤ len2 ∧ Both3 W wr d2 bs2 cap3 m2 x2 a3 cr3 E ∧ Both3 W wr d bs cap m x a c D) (fun _ iv _ => len2 - (intOf iv).toNat)
        case atStart => exact ⟨0, D, a, c, rfl, rfl, by omega, BF.out, BG.out⟩
        case round =>
          clear BF BG
          obtain ⟨i, E, a3, cr3, rfl, rfl, hi2, hb, hg⟩ := hrel
          have BF := Lib.hid hb
          have BG := Lib.hid hg
          have HK := hb.same
          have p0 := cell_blk hb.box
          have f0 := fun i => hb.box.free i
          have z0 := hb.box.lt
          have q0 := cell_blk hg.box
          have qf0 := fun i => hg.box.free i
          simp only [refC] at p0 q0
          have dW := HK.size
          clear hb hg
          by_cases hgo : i < len2
          · have e1 := BF.out.disk.box.lt
            have e2 := BF.out.disk.safe.lt
            have e3 := BF.out.disk.map.lt
            obtain ⟨ab, ao, rfl, hab, hact⟩ := hacts2.resolve_left (by omega)
            obtain ⟨k, n, cc, u, dn, fa1, fl1, fc1, fs1, ac0⟩ := hact i hgo
            have ac := ac0.same HK hab
            have c0 := ac.c0
            have c1 := ac.c1
            have c2 := ac.c2
            have c3 := ac.c3
            have c4 := ac.c4
            have c5 := ac.c5
            have P0 := Lib.hid ac.kb; have P9 := Lib.hid ac.nb; have P5 := Lib.hid ac.cb; have P6 := Lib.hid ac.ub; have P1 := Lib.hid ac.fl_; have P2 := Lib.hid ac.fc_; have P3 := Lib.hid ac.fb; have P4 := Lib.hid ac.at_
            have P7 := Lib.hid ((nats_lt ac0.at_).imp id (fun q (y : Addr) hy => show ¬ dod d2 bs2 m2 y.block from by have := q y hy; rintro (r | r | r) <;> omega))
            have habr := Nat.lt_of_lt_of_le hab HK.size
            have g1 : (i : Int) < (len2 : Int) := by omega
            have g0 : (0 : Int) ≤ (i : Int) := by omega
            clear ac ac0 hact
            clear HK
            clear q0 qf0
            go_wp2_with fail
            obtain ⟨D9, hD9⟩ : ∃ D9, (doD E k n cc u dn fs1).1 = D9 := ⟨_, rfl⟩
            have DO : Hid (∀ w', Same wr w' → Calls Try.prog 21 #[.pointer (some ⟨d2, 0, none⟩), .agg #[.slice a3 E.s.length cr3, .bool E.off, .int .i64 E.calls, .int .i64 E.after, .bool E.done], .agg #[.int .u8 (k : Nat), .int .i64 n, .int .u8 (cc : Nat), .int .u8 (u : Nat), .bool dn, .slice fa1 fl1 fc1]] w' (DoPost w' d2 bs2 cap3 m2 a3 D9)) := fun w' kk => hD9 ▸ do_any (BF.out.disk.same kk) a3 cr3 (BF.out.secs.same kk) BF.out.off k n cc u dn fa1 fl1 fc1 fs1 P0.out P9.out P5.out P6.out P1.out P2.out P3.out (P4.out.same kk) P7.out
            clear hD9
            go_region_with ((go_at_call 21; refine (DO.out _ (by repeat (first | with_reducible exact Kept.refl _ _ | with_reducible refine Kept.drew ?_ | with_reducible refine Kept.alloc ?_ _))).mono ?_; rintro e w9 ⟨a9, c9, rfl, ⟨hs9, hf9⟩, hd9, k9⟩; simp only [refV]; have HS9 := Lib.hid hs9; have HD9 := Lib.hid hd9; have HF9 := Lib.hid (off_next BF.out.off BF.out.disk (Kept.size (fp := fun _ => False) (by repeat (first | with_reducible exact Kept.refl _ _ | with_reducible refine Kept.drew ?_ | with_reducible refine Kept.alloc ?_ _))) hf9); have K9 := Lib.hid (show Kept (dod d2 bs2 m2) wr w9 from Kept.trans (by repeat (first | with_reducible exact Kept.refl _ _ | with_reducible refine Kept.drew ?_ | with_reducible refine Kept.alloc ?_ _)) k9);  have hz9 := K9.out.size; have B9 := Lib.hid (show Blk w9 x2 (refC a3 E.s.length cr3 E) 43 from BF.out.box.kept K9.out hx29.out); have r0 := cell_blk B9.out; have s0 := fun i => B9.out.free i; have y0 := B9.out.lt; simp only [refC] at r0; clear hs9 hf9 hd9 k9))
            all_goals
              clear DO
              go_wp2_with fail
              go_roundw
              case rel =>
                have bn := BF.out.next (c9 := c9) hx29.out hd2 hbs2 hm2 hWx2 HD9.out HS9.out HF9.out K9.out
                refine ⟨i + 1, D9, a9, c9, rfl, by go_num, by omega, bn, ?_⟩
                refine BG.out.keep (fp := fun j => dod d2 bs2 m2 j ∨ j = x2) ?_ bn.same (by rintro ((q | q | q) | q) <;> omega) (by rintro ((q | q | q) | q) <;> omega) (by rintro ((q | q | q) | q) <;> omega) (by rintro ((q | q | q) | q) <;> omega) (.inr (fun y hy => by have := hay y hy; rintro ((q | q | q) | q) <;> omega))
                have k9' : Kept (fun j => dod d2 bs2 m2 j ∨ j = x2) wr w9 := K9.out.mono (fun _ _ q => .inl q)
                repeat (first | with_reducible exact k9' | with_reducible refine Kept.setCell ?_ (fun _ => .inr rfl) _)
              case measure => simp [intOf]; omega
          · have g1 : ¬ (i : Int) < (len2 : Int) := by omega
            clear HK
            go_wp2_with fail
            refine (nil_power _ _ _ _).mono ?_
            rintro e y1 ⟨rfl, k1⟩
            go_wp2_with fail
            refine (nil_read _ _).mono ?_
            rintro e y2 ⟨rfl, k2⟩
            go_wp2_with fail
            refine (nil_write _ _ _ _ _).mono ?_
            rintro e y3 ⟨rfl, k3⟩
            go_wp2_with fail
            refine (nil_sync _).mono ?_
            rintro e y4 ⟨rfl, k4⟩
            go_wp2_with fail
            refine (nil_break _ _ _).mono ?_
            rintro e y5 ⟨rfl, k5⟩
            go_wp2_with fail
            refine (nil_off _).mono ?_
            rintro e y6 ⟨rfl, k6⟩
            go_wp2_with fail
            refine (nil_size _).mono ?_
            rintro e y7 ⟨rfl, k7⟩
            go_wp2_with fail
            refine (nil_calls _).mono ?_
            rintro e y8 ⟨rfl, k8⟩
            go_wp2_with fail
            refine (nil_waits _).mono ?_
            rintro e y9 ⟨rfl, k9⟩
            go_wp2_with fail
            refine (nil_fork _).mono ?_
            rintro e y10 ⟨rfl, k10⟩
            have kk : Same wr y10 := ((((((((k1.trans k2).trans k3).trans k4).trans k5).trans k6).trans k7).trans k8).trans k9).trans k10
            have bf := BF.out.go kk
            have bg := BG.out.go kk
            have BF2 := Lib.hid bf
            have BG2 := Lib.hid bg
            clear k1 k2 k3 k4 k5 k6 k7 k8 k9 k10 kk BF BG p0 q0 f0 qf0
            have p0 := cell_blk bf.box
            have q0 := cell_blk bg.box
            simp only [refC] at p0 q0
            clear bf bg
            go_wp2_with fail
            refine (same_any BF2.out.disk a3 cr3 BF2.out.secs).mono ?_
            rintro e y11 ⟨rfl, k11⟩
            have bg := BG2.out.go k11
            have BG3 := Lib.hid bg
            clear k11 p0 q0 BF2 BG2
            have q0 := cell_blk bg.box
            simp only [refC] at q0
            clear bg
            go_wp2_with fail
            refine (same_any BG3.out.disk a c BG3.out.secs).mono ?_
            rintro e y12 ⟨rfl, k12⟩
            go_wp2_with fail
            refine (sec_awake _).mono ?_
            rintro e y13 ⟨rfl, k13⟩
            go_wp2_with fail
            go_ret
            exact ⟨rfl, (BG3.out.same.trans k12).trans k13⟩
end Go.Proofs.Ytlmpkonfclnceaa
