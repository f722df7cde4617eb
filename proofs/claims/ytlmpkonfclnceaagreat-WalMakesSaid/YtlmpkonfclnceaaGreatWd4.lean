/- A call on both logs: loss of power, and Open. -/
import Derived.Test.YtlmpkonfclnceaaGreatGWd
namespace Go.Proofs.YtlmpkonfclnceaaGreat
open Go.RowKit Go.Sort

theorem newE_pow {D : Dsk} {L : Lg} (h : LOK L D.s.length) (f : List Nat) : newE (powerD D f) (L.first : Nat) (L.count : Nat) (L.epoch : Nat) = 0 := by
  have h1 := h.ring
  have h2 := h.cnt
  have h3 := h.ep
  have h4 : (powerD D f).s.length = D.s.length := by simp [powerD, powS_len]
  unfold newE
  rw [h4, show (powerD D f).off = false from rfl, if_neg (by decide), if_neg (by omega), if_neg (by omega)]
section
attribute [local go_sem ↓] exec_app semAt_app
attribute [local go_sem] isApp_lit appA appX
set_option maxRecDepth 100000 in
set_option maxHeartbeats 8000000 in
theorem wd_power {w : World} {x d bs cap m g : Nat} {D : Dsk} {L : Lg} {a : Option Addr} {c : Nat} {ha : Option Addr} {hc : Nat} {wa : Option Addr} {wc : Nat} (h : W10 w x d bs cap m g D L a c ha hc wa wc) (A : A10) (hk : A.k % 8 = 7) (hA : ActD w d bs m A) (hne : D.s ≠ []) :
    Calls Tryz.prog 9 #[.pointer (some ⟨x, 0, none⟩), actV A] w (DoW w x d bs cap m g D.s.length) := by
  have HLT := Lib.hid (show x < w.heap.size ∧ d < w.heap.size ∧ bs < w.heap.size ∧ m < w.heap.size from ⟨h.box.lt, h.disk.box.lt, h.disk.safe.lt, h.disk.map.lt⟩)
  have HP1 := Lib.hid fun (w' : World) (k : w.heap.size ≤ w'.heap.size) (j : Nat) (hj : w'.heap.size ≤ j) => (show j ≠ x by have := h.box.lt; omega)
  have HP2 := Lib.hid fun (w' : World) (k : w.heap.size ≤ w'.heap.size) (j : Nat) (hj : w'.heap.size ≤ j) => (show j ≠ g ∧ ¬ dod d bs m j ∧ j ≠ x by have := h.box.lt; have := h.log.i.blk; have := h.disk.box.lt; have := h.disk.safe.lt; have := h.disk.map.lt; refine ⟨by omega, ?_, by omega⟩; rintro (q | q | q) <;> omega)
  have OWN := Lib.hid fun (y : Nat) (hy : w.heap.size ≤ y) => (show ¬ dod d bs m y by have := h.disk.box.lt; have := h.disk.safe.lt; have := h.disk.map.lt; rintro (q | q | q) <;> omega)
  obtain ⟨k, s, n, kq, nq, cc, u, dn, fa, fl, fc, fs⟩ := A
  unfold actV
  dsimp only at hk ⊢
  have BX := Lib.hid h.box
  have DI := Lib.hid h.disk
  have LG := Lib.hid h.log
  have RL := Lib.hid h.ref
  have OK := Lib.hid h.lok
  have XD := Lib.hid h.xd
  have XG := Lib.hid h.xg
  have hxl := h.box.lt
  have AD := Lib.hid hA
  clear h hA
  go_enter Tryz.func9, Tryz.ntmps9
  go_upto_region 1 with fail
  refine cutWl (fun wn => Fr wn [(w.heap.size, #[.int .u8 (k : Nat), .string (strN s), .int .i64 n, .int .u8 (kq : Nat), .int .i64 nq, .int .u8 (cc : Nat), .int .u8 (u : Nat), .bool dn, .slice fa fl fc], 33), (x, #[.pointer (some ⟨d, 0, none⟩), .pointer (some ⟨g, 0, none⟩), .slice a D.s.length c, .bool D.off, .int .i64 D.calls, .int .i64 D.after, .bool D.done, .int .i64 (L.first : Nat), .int .i64 (L.count : Nat), .int .i64 (L.epoch : Nat), .int .i64 (L.at_ : Nat), .slice ha L.has.length hc, .slice wa L.wait.length wc, .bool L.closed, .bool L.bad], 52)] ∧ Same w wn) ⟨⟨Blk.new _ _ _, BX.out.alloc _, trivial⟩, (Kept.refl _ _).alloc _⟩ ?_
  rintro W ⟨hfr, hkw⟩
  obtain ⟨p0, f0, p1, f1, -⟩ := hfr.rules
  have z0 := hfr.1.lt
  have z1 := hfr.2.1.lt
  have F := Lib.hid hfr
  have K := Lib.hid hkw
  have DI1 := Lib.hid (DI.out.same hkw)
  have LG1 := Lib.hid (LG.out.same hkw)
  have RL1 := Lib.hid (RL.out.same hkw)
  have hsW := hkw.size
  clear hfr hkw DI LG RL BX
  have e8 : (k : Int) % 8 = 7 := by omega
  have NEW := Lib.hid (newE_pow OK.out fs)
  have DLN := Lib.hid (show (powerD D fs).s.length = D.s.length by simp [powerD, powS_len])
  have NE9 : Hid ((powerD D fs).s ≠ []) := fun q => hne (List.eq_nil_of_length_eq_zero (by rw [← DLN.out, q]; rfl))
  have OK9 := Lib.hid (openL_ok (powerD_ok DI1.out.ok AD.out.fb) NEW.out)
  have SP := Lib.hid fun (w' : World) (kk : Same W w') => sd_power (DI1.out.same kk) fa fl fc fs AD.out.fl_ AD.out.fc_ AD.out.fb (AD.out.at_.same (K.out.trans kk))
  have RP := Lib.hid fun (w' : World) (kk : Kept (dod d bs m) W w') => rs_power a D.s.length c D rfl DI1.out.ok (.slice fa fl fc) fs AD.out.fb w' (RL1.out.s.kept kk (.inr (fun y hy => (RL1.out.pa y hy).2.1))) ⟨fa, fl, fc, rfl, AD.out.fl_, AD.out.fc_, (AD.out.at_.same K.out).kept' kk AD.out.off⟩
  obtain ⟨D9, hD9⟩ : ∃ D9, powerD D fs = D9 := ⟨_, rfl⟩
  rw [hD9] at NEW DLN NE9 OK9 SP RP
  obtain ⟨L9, hL9⟩ : ∃ L9, openL D9 (L.first : Nat) (L.count : Nat) (L.epoch : Nat) = L9 := ⟨_, rfl⟩
  have HL9 := Lib.hid hL9
  rw [hL9] at OK9
  simp only [refV] at RP
  clear hk hne hD9 hL9
  have QQ := Lib.hid fun (w' : World) (kk : Kept (dod d bs m) W w') => (show (fun w' => (∀ i, w'.cell? ⟨w.heap.size, i, none⟩ = (#[.int .u8 (k : Nat), .string (strN s), .int .i64 n, .int .u8 (kq : Nat), .int .i64 nq, .int .u8 (cc : Nat), .int .u8 (u : Nat), .bool dn, .slice fa fl fc] : Array Value)[i]?) ∧ (∀ i, w'.cell? ⟨x, i, none⟩ = (#[.pointer (some ⟨d, 0, none⟩), .pointer (some ⟨g, 0, none⟩), .slice a D.s.length c, .bool D.off, .int .i64 D.calls, .int .i64 D.after, .bool D.done, .int .i64 (L.first : Nat), .int .i64 (L.count : Nat), .int .i64 (L.epoch : Nat), .int .i64 (L.at_ : Nat), .slice ha L.has.length hc, .slice wa L.wait.length wc, .bool L.closed, .bool L.bad] : Array Value)[i]?)) w' from ⟨cell_blk (F.out.1.kept kk (OWN.out _ (Nat.le_refl _))), cell_blk (F.out.2.1.kept kk XD.out)⟩)
  go_wp2_with fail
  refine wp_region_T (S := (fun w' => (∀ i, w'.cell? ⟨w.heap.size, i, none⟩ = (#[.int .u8 (k : Nat), .string (strN s), .int .i64 n, .int .u8 (kq : Nat), .int .i64 nq, .int .u8 (cc : Nat), .int .u8 (u : Nat), .bool dn, .slice fa fl fc] : Array Value)[i]?) ∧ (∀ i, w'.cell? ⟨x, i, none⟩ = (#[.pointer (some ⟨d, 0, none⟩), .pointer (some ⟨g, 0, none⟩), .slice a D.s.length c, .bool D.off, .int .i64 D.calls, .int .i64 D.after, .bool D.done, .int .i64 (L.first : Nat), .int .i64 (L.count : Nat), .int .i64 (L.epoch : Nat), .int .i64 (L.at_ : Nat), .slice ha L.has.length hc, .slice wa L.wait.length wc, .bool L.closed, .bool L.bad] : Array Value)[i]?))) 7 (by kernel_rfl) (QQ.out _ (Kept.refl _ _).drew) (fun hHeld hDn => ?_)
  refine wpT_take (i := 0) (t := 109) (v := ?_) rfl rfl rfl (by kernel_rfl) (by kernel_rfl) (by kernel_rfl) (by kernel_rfl) (fun _ _ _ h => h) (Or.inl ⟨by rfl, ?_⟩) hHeld hDn (fun hDn' => ?_)
  rotate_left
  · (intro w hSw; (try dsimp only at hSw); go_simp; (try with_reducible rfl))
  clear hDn; have hDn := hDn'; clear hDn'
  simp only [Act.put, List.setIfInBounds_toArray, List.set_cons_zero, List.set_cons_succ]
  refine wpT_take (i := 1) (t := 110) (v := ?_) rfl rfl rfl (by kernel_rfl) (by kernel_rfl) (by kernel_rfl) (by kernel_rfl) (fun _ _ _ h => h) (Or.inl ⟨by rfl, ?_⟩) hHeld hDn (fun hDn' => ?_)
  rotate_left
  · (intro w hSw; (try dsimp only at hSw); go_simp; (try with_reducible rfl))
  clear hDn; have hDn := hDn'; clear hDn'
  simp only [Act.put, List.setIfInBounds_toArray, List.set_cons_zero, List.set_cons_succ]
  refine wpT_take (i := 2) (t := 111) (v := ?_) rfl rfl rfl (by kernel_rfl) (by kernel_rfl) (by kernel_rfl) (by kernel_rfl) (fun _ _ _ h => h) (Or.inl ⟨by rfl, ?_⟩) hHeld hDn (fun hDn' => ?_)
  rotate_left
  · (intro w hSw; (try dsimp only at hSw); go_simp; (try with_reducible rfl))
  clear hDn; have hDn := hDn'; clear hDn'
  simp only [Act.put, List.setIfInBounds_toArray, List.set_cons_zero, List.set_cons_succ]
  refine wpT_take (i := 3) (t := 112) (v := ?_) rfl rfl rfl (by kernel_rfl) (by kernel_rfl) (by kernel_rfl) (by kernel_rfl) (fun _ _ _ h => h) (Or.inl ⟨by rfl, ?_⟩) hHeld hDn (fun hDn' => ?_)
  rotate_left
  · (intro w hSw; (try dsimp only at hSw); go_simp; (try with_reducible rfl))
  clear hDn; have hDn := hDn'; clear hDn'
  simp only [Act.put, List.setIfInBounds_toArray, List.set_cons_zero, List.set_cons_succ]
  refine wpT_take (i := 4) (t := 113) (v := ?_) rfl rfl rfl (by kernel_rfl) (by kernel_rfl) (by kernel_rfl) (by kernel_rfl) (fun _ _ _ h => h) (Or.inl ⟨by rfl, ?_⟩) hHeld hDn (fun hDn' => ?_)
  rotate_left
  · (intro w hSw; (try dsimp only at hSw); go_simp; (try with_reducible rfl))
  clear hDn; have hDn := hDn'; clear hDn'
  simp only [Act.put, List.setIfInBounds_toArray, List.set_cons_zero, List.set_cons_succ]
  refine wpT_take (i := 5) (t := 114) (v := ?_) rfl rfl rfl (by kernel_rfl) (by kernel_rfl) (by kernel_rfl) (by kernel_rfl) (fun _ _ _ h => h) (Or.inl ⟨by rfl, ?_⟩) hHeld hDn (fun hDn' => ?_)
  rotate_left
  · (intro w hSw; (try dsimp only at hSw); go_simp; (try with_reducible rfl))
  clear hDn; have hDn := hDn'; clear hDn'
  simp only [Act.put, List.setIfInBounds_toArray, List.set_cons_zero, List.set_cons_succ]
  refine wpT_take (i := 6) (t := 115) (v := ?_) rfl rfl rfl (by kernel_rfl) (by kernel_rfl) (by kernel_rfl) (by kernel_rfl) (fun _ _ _ h => h) (Or.inl ⟨by rfl, ?_⟩) hHeld hDn (fun hDn' => ?_)
  rotate_left
  · (intro w hSw; (try dsimp only at hSw); go_simp; (try with_reducible rfl))
  clear hDn; have hDn := hDn'; clear hDn'
  simp only [Act.put, List.setIfInBounds_toArray, List.set_cons_zero, List.set_cons_succ]
  refine wpT_last rfl (by kernel_rfl) hDn (fun K' hK => ?_)
  go_simp
  with_reducible refine (SP.out _ (Kept.refl _ _).drew).mono ?_
  rintro e w2 ⟨rfl, hd2, k2⟩
  have k2 : Kept (dod d bs m) W w2 := Kept.trans (Kept.refl _ W).drew k2
  refine hK.out _ _ (fun hDn' => ?_)
  clear hK K' hDn hHeld
  have hDn := hDn'
  clear hDn'
  refine wpT_done (by kernel_rfl) ?_ _
  have HD2 := Lib.hid hd2
  have hsz2 := k2.size
  have K2 := Lib.hid k2
  have F2 := Lib.hid (show Fr w2 [(w.heap.size, #[.int .u8 (k : Nat), .string (strN s), .int .i64 n, .int .u8 (kq : Nat), .int .i64 nq, .int .u8 (cc : Nat), .int .u8 (u : Nat), .bool dn, .slice fa fl fc], 33), (x, #[.pointer (some ⟨d, 0, none⟩), .pointer (some ⟨g, 0, none⟩), .slice a D.s.length c, .bool D.off, .int .i64 D.calls, .int .i64 D.after, .bool D.done, .int .i64 (L.first : Nat), .int .i64 (L.count : Nat), .int .i64 (L.epoch : Nat), .int .i64 (L.at_ : Nat), .slice ha L.has.length hc, .slice wa L.wait.length wc, .bool L.closed, .bool L.bad], 52)] from ⟨F.out.1.kept k2 (OWN.out _ (Nat.le_refl _)), F.out.2.1.kept k2 XD.out, trivial⟩)
  have QQ2 := Lib.hid fun (w' : World) (kk : Same w2 w') => QQ.out w' (K2.out.trans (kk.mono (fun _ _ q => q.elim)))
  have RP2 := Lib.hid fun (w' : World) (kk : Same w2 w') => RP.out w' (K2.out.trans (kk.mono (fun _ _ q => q.elim)))
  have KC := Lib.hid (Kept.refl (fun _ => False) w2)
  clear hd2 k2 p0 f0 p1 f1 z0 z1 SP RP QQ F DI1 LG1
  obtain ⟨p0, f0, p1, f1, -⟩ := F2.out.rules
  have z0 := F2.out.1.lt
  have z1 := F2.out.2.1.lt
  go_wp2_with fail
  go_region_held3 (fun w' => (∀ i, w'.cell? ⟨w.heap.size, i, none⟩ = (#[.int .u8 (k : Nat), .string (strN s), .int .i64 n, .int .u8 (kq : Nat), .int .i64 nq, .int .u8 (cc : Nat), .int .u8 (u : Nat), .bool dn, .slice fa fl fc] : Array Value)[i]?) ∧ (∀ i, w'.cell? ⟨x, i, none⟩ = (#[.pointer (some ⟨d, 0, none⟩), .pointer (some ⟨g, 0, none⟩), .slice a D.s.length c, .bool D.off, .int .i64 D.calls, .int .i64 D.after, .bool D.done, .int .i64 (L.first : Nat), .int .i64 (L.count : Nat), .int .i64 (L.epoch : Nat), .int .i64 (L.at_ : Nat), .slice ha L.has.length hc, .slice wa L.wait.length wc, .bool L.closed, .bool L.bad] : Array Value)[i]?))
    ((refine QQ2.out _ ?_; repeat (first | with_reducible exact Kept.refl _ _ | with_reducible exact KC.out | with_reducible refine Kept.drew ?_ | with_reducible refine Kept.alloc ?_ _ | refine Kept.setNew ?_ (by first | (dsimp only; omega) | (simp; done) | (simp; omega)) _)))
    ((go_at_call 33; refine (RP2.out _ (by (repeat (first | with_reducible exact Kept.refl _ _ | with_reducible refine Kept.drew ?_ | with_reducible refine Kept.alloc ?_ _)))).mono ?_; rintro e w9 ⟨a9, c9, rfl, ⟨hs9, hf9⟩, k9⟩; simp only [refV]; have HS9 := Lib.hid hs9; have LO2 := Lib.hid (show ∀ y, a9 = some y → w2.heap.size ≤ y.block from hf9.mono (Kept.size (fp := fun _ => False) (by (repeat (first | with_reducible exact Kept.refl _ _ | with_reducible refine Kept.drew ?_ | with_reducible refine Kept.alloc ?_ _))))); have KC' := Lib.hid (show Same w2 w9 from Kept.trans (by (repeat (first | with_reducible exact Kept.refl _ _ | with_reducible refine Kept.drew ?_ | with_reducible refine Kept.alloc ?_ _))) k9); clear KC; have KC := KC'; clear KC'; (first | (have B8 := Lib.hid (show Blk w9 w2.heap.size #[.slice none 0 0, .bool false, .int .i64 0, .int .i64 0, .bool false] 40 from Blk.kept (Blk.drew (Blk.new w2 _ _)) k9 (fun h => h)); have r8 := cell_blk B8.out; have s8 := fun i => B8.out.free i; have y8 := B8.out.lt) | skip); have hz9 := KC.out.size; clear hs9 hf9 k9))
  · obtain ⟨Y, hY⟩ : ∃ Y, w9.heap.size = Y := ⟨_, rfl⟩
    rw [hY]
    refine cutE (fun wn => Fr wn [(Y, #[.slice a9 (D9).s.length c9, .bool (D9).off, .int .i64 (D9).calls, .int .i64 (D9).after, .bool (D9).done], 40), (w.heap.size, #[.int .u8 (k : Nat), .string (strN s), .int .i64 n, .int .u8 (kq : Nat), .int .i64 nq, .int .u8 (cc : Nat), .int .u8 (u : Nat), .bool dn, .slice fa fl fc], 33), (x, #[.pointer (some ⟨d, 0, none⟩), .pointer (some ⟨g, 0, none⟩), .slice a D.s.length c, .bool D.off, .int .i64 D.calls, .int .i64 D.after, .bool D.done, .int .i64 (L.first : Nat), .int .i64 (L.count : Nat), .int .i64 (L.epoch : Nat), .int .i64 (L.at_ : Nat), .slice ha L.has.length hc, .slice wa L.wait.length wc, .bool L.closed, .bool L.bad], 52)] ∧ Same w2 wn ∧ SecsAt wn a9 D9.s ∧ w2.heap.size ≤ Y) ⟨⟨Blk.new' _ _ _ hY.symm, (F2.out.1.kept KC.out (fun h => h)).alloc _, (F2.out.2.1.kept KC.out (fun h => h)).alloc _, trivial⟩, KC.out.alloc _, HS9.out.kept (fp := fun _ => False) ((Kept.refl _ _).alloc _) (.inr (fun _ _ h => h)), by omega⟩ ?_
    rintro wn ⟨hfn, hkn, hsn, hYn⟩
    have FN := Lib.hid hfn
    have KN := Lib.hid hkn
    have SN := Lib.hid hsn
    have DN := Lib.hid (HD2.out.same hkn)
    have hsz3 := hkn.size
    have ltn : ∀ y, a9 = some y → y.block < wn.heap.size := (secsAt_lt hsn).resolve_left NE9.out
    have LTN := Lib.hid ltn
    clear p0 f0 p1 f1 z0 z1 hfn hkn hsn ltn
    obtain ⟨p2, f2, p0, f0, p1, f1, -⟩ := FN.out.rules
    have z2 := FN.out.1.lt
    have z0 := FN.out.2.1.lt
    have z1 := FN.out.2.2.1.lt
    have QX := Lib.hid fun (w' : World) (kk : Same wn w') => (show (fun w' : World => ∀ i, w'.cell? ⟨x, i, none⟩ = (#[.pointer (some ⟨d, 0, none⟩), .pointer (some ⟨g, 0, none⟩), .slice a D.s.length c, .bool D.off, .int .i64 D.calls, .int .i64 D.after, .bool D.done, .int .i64 (L.first : Nat), .int .i64 (L.count : Nat), .int .i64 (L.epoch : Nat), .int .i64 (L.at_ : Nat), .slice ha L.has.length hc, .slice wa L.wait.length wc, .bool L.closed, .bool L.bad] : Array Value)[i]?) w' from cell_blk (FN.out.2.2.1.kept kk (fun h => h)))
    have WO := Lib.hid fun (w' : World) (kk : Same wn w') => wl_openP (DN.out.same kk) (L.first : Nat) (L.count : Nat) (L.epoch : Nat)
    rw [NEW.out, HL9.out] at WO
    go_wp2_with fail
    refine wp_region_T (S := (fun w' : World => ∀ i, w'.cell? ⟨x, i, none⟩ = (#[.pointer (some ⟨d, 0, none⟩), .pointer (some ⟨g, 0, none⟩), .slice a D.s.length c, .bool D.off, .int .i64 D.calls, .int .i64 D.after, .bool D.done, .int .i64 (L.first : Nat), .int .i64 (L.count : Nat), .int .i64 (L.epoch : Nat), .int .i64 (L.at_ : Nat), .slice ha L.has.length hc, .slice wa L.wait.length wc, .bool L.closed, .bool L.bad] : Array Value)[i]?)) 19 (by kernel_rfl) (QX.out _ (Kept.refl _ _).drew) (fun hHeld hDn => ?_)
    refine wpT_take (i := 0) (t := 127) (v := ?_) rfl rfl rfl (by kernel_rfl) (by kernel_rfl) (by kernel_rfl) (by kernel_rfl) (fun _ _ _ h => h) (Or.inl ⟨by rfl, ?_⟩) hHeld hDn (fun hDn' => ?_)
    rotate_left
    · (intro w hSw; (try dsimp only at hSw); go_simp; (try with_reducible rfl))
    clear hDn; have hDn := hDn'; clear hDn'
    simp only [Act.put, List.setIfInBounds_toArray, List.set_cons_zero, List.set_cons_succ]
    refine wpT_take (i := 1) (t := 128) (v := ?_) rfl rfl rfl (by kernel_rfl) (by kernel_rfl) (by kernel_rfl) (by kernel_rfl) (fun _ _ _ h => h) (Or.inl ⟨by rfl, ?_⟩) hHeld hDn (fun hDn' => ?_)
    rotate_left
    · (intro w hSw; (try dsimp only at hSw); go_simp; (try with_reducible rfl))
    clear hDn; have hDn := hDn'; clear hDn'
    simp only [Act.put, List.setIfInBounds_toArray, List.set_cons_zero, List.set_cons_succ]
    refine wpT_take (i := 2) (t := 129) (v := ?_) rfl rfl rfl (by kernel_rfl) (by kernel_rfl) (by kernel_rfl) (by kernel_rfl) (fun _ _ _ h => h) (Or.inl ⟨by rfl, ?_⟩) hHeld hDn (fun hDn' => ?_)
    rotate_left
    · (intro w hSw; (try dsimp only at hSw); go_simp; (try with_reducible rfl))
    clear hDn; have hDn := hDn'; clear hDn'
    simp only [Act.put, List.setIfInBounds_toArray, List.set_cons_zero, List.set_cons_succ]
    refine wpT_take (i := 3) (t := 130) (v := ?_) rfl rfl rfl (by kernel_rfl) (by kernel_rfl) (by kernel_rfl) (by kernel_rfl) (fun _ _ _ h => h) (Or.inl ⟨by rfl, ?_⟩) hHeld hDn (fun hDn' => ?_)
    rotate_left
    · (intro w hSw; (try dsimp only at hSw); go_simp; (try with_reducible rfl))
    clear hDn; have hDn := hDn'; clear hDn'
    simp only [Act.put, List.setIfInBounds_toArray, List.set_cons_zero, List.set_cons_succ]
    refine wpT_take (i := 4) (t := 131) (v := ?_) rfl rfl rfl (by kernel_rfl) (by kernel_rfl) (by kernel_rfl) (by kernel_rfl) (fun _ _ _ h => h) (Or.inl ⟨by rfl, ?_⟩) hHeld hDn (fun hDn' => ?_)
    rotate_left
    · (intro w hSw; (try dsimp only at hSw); go_simp; (try with_reducible rfl))
    clear hDn; have hDn := hDn'; clear hDn'
    simp only [Act.put, List.setIfInBounds_toArray, List.set_cons_zero, List.set_cons_succ]
    refine wpT_take (i := 5) (t := 132) (v := ?_) rfl rfl rfl (by kernel_rfl) (by kernel_rfl) (by kernel_rfl) (by kernel_rfl) (fun _ _ _ h => h) (Or.inl ⟨by rfl, ?_⟩) hHeld hDn (fun hDn' => ?_)
    rotate_left
    · (intro w hSw; (try dsimp only at hSw); go_simp; (try with_reducible rfl))
    clear hDn; have hDn := hDn'; clear hDn'
    simp only [Act.put, List.setIfInBounds_toArray, List.set_cons_zero, List.set_cons_succ]
    refine wpT_take (i := 6) (t := 133) (v := ?_) rfl rfl rfl (by kernel_rfl) (by kernel_rfl) (by kernel_rfl) (by kernel_rfl) (fun _ _ _ h => h) (Or.inl ⟨by rfl, ?_⟩) hHeld hDn (fun hDn' => ?_)
    rotate_left
    · (intro w hSw; (try dsimp only at hSw); go_simp; (try with_reducible rfl))
    clear hDn; have hDn := hDn'; clear hDn'
    simp only [Act.put, List.setIfInBounds_toArray, List.set_cons_zero, List.set_cons_succ]
    refine wpT_take (i := 7) (t := 134) (v := ?_) rfl rfl rfl (by kernel_rfl) (by kernel_rfl) (by kernel_rfl) (by kernel_rfl) (fun _ _ _ h => h) (Or.inl ⟨by rfl, ?_⟩) hHeld hDn (fun hDn' => ?_)
    rotate_left
    · (intro w hSw; (try dsimp only at hSw); go_simp; (try with_reducible rfl))
    clear hDn; have hDn := hDn'; clear hDn'
    simp only [Act.put, List.setIfInBounds_toArray, List.set_cons_zero, List.set_cons_succ]
    refine wpT_take (i := 8) (t := 135) (v := ?_) rfl rfl rfl (by kernel_rfl) (by kernel_rfl) (by kernel_rfl) (by kernel_rfl) (fun _ _ _ h => h) (Or.inl ⟨by rfl, ?_⟩) hHeld hDn (fun hDn' => ?_)
    rotate_left
    · (intro w hSw; (try dsimp only at hSw); go_simp; (try with_reducible rfl))
    clear hDn; have hDn := hDn'; clear hDn'
    simp only [Act.put, List.setIfInBounds_toArray, List.set_cons_zero, List.set_cons_succ]
    refine wpT_take (i := 9) (t := 136) (v := ?_) rfl rfl rfl (by kernel_rfl) (by kernel_rfl) (by kernel_rfl) (by kernel_rfl) (fun _ _ _ h => h) (Or.inl ⟨by rfl, ?_⟩) hHeld hDn (fun hDn' => ?_)
    rotate_left
    · (intro w hSw; (try dsimp only at hSw); go_simp; (try with_reducible rfl))
    clear hDn; have hDn := hDn'; clear hDn'
    simp only [Act.put, List.setIfInBounds_toArray, List.set_cons_zero, List.set_cons_succ]
    refine wpT_take (i := 10) (t := 137) (v := ?_) rfl rfl rfl (by kernel_rfl) (by kernel_rfl) (by kernel_rfl) (by kernel_rfl) (fun _ _ _ h => h) (Or.inl ⟨by rfl, ?_⟩) hHeld hDn (fun hDn' => ?_)
    rotate_left
    · (intro w hSw; (try dsimp only at hSw); go_simp; (try with_reducible rfl))
    clear hDn; have hDn := hDn'; clear hDn'
    simp only [Act.put, List.setIfInBounds_toArray, List.set_cons_zero, List.set_cons_succ]
    refine wpT_take (i := 11) (t := 138) (v := ?_) rfl rfl rfl (by kernel_rfl) (by kernel_rfl) (by kernel_rfl) (by kernel_rfl) (fun _ _ _ h => h) (Or.inl ⟨by rfl, ?_⟩) hHeld hDn (fun hDn' => ?_)
    rotate_left
    · (intro w hSw; (try dsimp only at hSw); go_simp; (try with_reducible rfl))
    clear hDn; have hDn := hDn'; clear hDn'
    simp only [Act.put, List.setIfInBounds_toArray, List.set_cons_zero, List.set_cons_succ]
    refine wpT_take (i := 12) (t := 139) (v := ?_) rfl rfl rfl (by kernel_rfl) (by kernel_rfl) (by kernel_rfl) (by kernel_rfl) (fun _ _ _ h => h) (Or.inl ⟨by rfl, ?_⟩) hHeld hDn (fun hDn' => ?_)
    rotate_left
    · (intro w hSw; (try dsimp only at hSw); go_simp; (try with_reducible rfl))
    clear hDn; have hDn := hDn'; clear hDn'
    simp only [Act.put, List.setIfInBounds_toArray, List.set_cons_zero, List.set_cons_succ]
    refine wpT_take (i := 13) (t := 140) (v := ?_) rfl rfl rfl (by kernel_rfl) (by kernel_rfl) (by kernel_rfl) (by kernel_rfl) (fun _ _ _ h => h) (Or.inl ⟨by rfl, ?_⟩) hHeld hDn (fun hDn' => ?_)
    rotate_left
    · (intro w hSw; (try dsimp only at hSw); go_simp; (try with_reducible rfl))
    clear hDn; have hDn := hDn'; clear hDn'
    simp only [Act.put, List.setIfInBounds_toArray, List.set_cons_zero, List.set_cons_succ]
    refine wpT_take (i := 14) (t := 141) (v := ?_) rfl rfl rfl (by kernel_rfl) (by kernel_rfl) (by kernel_rfl) (by kernel_rfl) (fun _ _ _ h => h) (Or.inl ⟨by rfl, ?_⟩) hHeld hDn (fun hDn' => ?_)
    rotate_left
    · (intro w hSw; (try dsimp only at hSw); go_simp; (try with_reducible rfl))
    clear hDn; have hDn := hDn'; clear hDn'
    simp only [Act.put, List.setIfInBounds_toArray, List.set_cons_zero, List.set_cons_succ]
    refine wpT_take (i := 15) (t := 142) (v := ?_) rfl rfl rfl (by kernel_rfl) (by kernel_rfl) (by kernel_rfl) (by kernel_rfl) (fun _ _ _ h => h) (Or.inl ⟨by rfl, ?_⟩) hHeld hDn (fun hDn' => ?_)
    rotate_left
    · (intro w hSw; (try dsimp only at hSw); go_simp; (try with_reducible rfl))
    clear hDn; have hDn := hDn'; clear hDn'
    simp only [Act.put, List.setIfInBounds_toArray, List.set_cons_zero, List.set_cons_succ]
    refine wpT_take (i := 16) (t := 143) (v := ?_) rfl rfl rfl (by kernel_rfl) (by kernel_rfl) (by kernel_rfl) (by kernel_rfl) (fun _ _ _ h => h) (Or.inl ⟨by rfl, ?_⟩) hHeld hDn (fun hDn' => ?_)
    rotate_left
    · (intro w hSw; (try dsimp only at hSw); go_simp; (try with_reducible rfl))
    clear hDn; have hDn := hDn'; clear hDn'
    simp only [Act.put, List.setIfInBounds_toArray, List.set_cons_zero, List.set_cons_succ]
    refine wpT_take (i := 17) (t := 144) (v := ?_) rfl rfl rfl (by kernel_rfl) (by kernel_rfl) (by kernel_rfl) (by kernel_rfl) (fun _ _ _ h => h) (Or.inl ⟨by rfl, ?_⟩) hHeld hDn (fun hDn' => ?_)
    rotate_left
    · (intro w hSw; (try dsimp only at hSw); go_simp; (try with_reducible rfl))
    clear hDn; have hDn := hDn'; clear hDn'
    simp only [Act.put, List.setIfInBounds_toArray, List.set_cons_zero, List.set_cons_succ]
    refine wpT_take (i := 18) (t := 145) (v := ?_) rfl rfl rfl (by kernel_rfl) (by kernel_rfl) (by kernel_rfl) (by kernel_rfl) (fun _ _ _ h => h) (Or.inl ⟨by rfl, ?_⟩) hHeld hDn (fun hDn' => ?_)
    rotate_left
    · (intro w hSw; (try dsimp only at hSw); go_simp; (try with_reducible rfl))
    clear hDn; have hDn := hDn'; clear hDn'
    simp only [Act.put, List.setIfInBounds_toArray, List.set_cons_zero, List.set_cons_succ]
    refine wpT_last rfl (by kernel_rfl) hDn (fun K' hK => ?_)
    go_simp
    with_reducible refine (WO.out _ (Kept.refl _ _).drew).mono ?_
    rintro e w4 ⟨hp, k4⟩
    rw [if_pos rfl] at hp
    obtain ⟨g9, rfl, hl9, hg9⟩ := hp
    have k4 : Same wn w4 := Kept.trans (Kept.refl _ wn).drew k4
    have hg9 : wn.heap.size ≤ g9 := hg9
    have hl9 : LogP w4 g9 d bs m L9 (fun j => wn.heap.size ≤ j) := hl9
    refine hK.out _ _ (fun hDn' => ?_)
    clear hK K' hDn hHeld
    have hDn := hDn'
    clear hDn'
    refine wpT_takeE (i := 20) (t := 126) (v := ?_) rfl (by kernel_rfl) rfl rfl (by kernel_rfl) (by kernel_rfl) (by kernel_rfl) (fun _ _ _ h => h) (Or.inl ⟨by rfl, ?_⟩) hDn (fun hDn' => ?_)
    rotate_left
    · (intro w _; go_simp; (try with_reducible rfl))
    clear hDn; have hDn := hDn'; clear hDn'
    simp only [Act.put, List.setIfInBounds_toArray, List.set_cons_zero, List.set_cons_succ]
    refine wpT_takeE (i := 21) (t := 147) (v := ?_) rfl (by kernel_rfl) rfl rfl (by kernel_rfl) (by kernel_rfl) (by kernel_rfl) (fun _ _ _ h => h) (Or.inl ⟨by rfl, ?_⟩) hDn (fun hDn' => ?_)
    rotate_left
    · (intro w _; go_simp; (try with_reducible rfl))
    clear hDn; have hDn := hDn'; clear hDn'
    simp only [Act.put, List.setIfInBounds_toArray, List.set_cons_zero, List.set_cons_succ]
    refine wpT_takeE (i := 22) (t := 148) (v := ?_) rfl (by kernel_rfl) rfl rfl (by kernel_rfl) (by kernel_rfl) (by kernel_rfl) (fun _ _ _ h => h) (Or.inl ⟨by rfl, ?_⟩) hDn (fun hDn' => ?_)
    rotate_left
    · (intro w _; go_simp; (try with_reducible rfl))
    clear hDn; have hDn := hDn'; clear hDn'
    simp only [Act.put, List.setIfInBounds_toArray, List.set_cons_zero, List.set_cons_succ]
    refine wpT_takeE (i := 23) (t := 10) (v := ?_) rfl (by kernel_rfl) rfl rfl (by kernel_rfl) (by kernel_rfl) (by kernel_rfl) (fun _ _ _ h => h) (Or.inl ⟨by rfl, ?_⟩) hDn (fun hDn' => ?_)
    rotate_left
    · (intro w _; go_simp; (try with_reducible rfl))
    clear hDn; have hDn := hDn'; clear hDn'
    simp only [Act.put, List.setIfInBounds_toArray, List.set_cons_zero, List.set_cons_succ]
    refine wpT_takeE (i := 24) (t := 11) (v := ?_) rfl (by kernel_rfl) rfl rfl (by kernel_rfl) (by kernel_rfl) (by kernel_rfl) (fun _ _ _ h => h) (Or.inl ⟨by rfl, ?_⟩) hDn (fun hDn' => ?_)
    rotate_left
    · (intro w _; go_simp; (try with_reducible rfl))
    clear hDn; have hDn := hDn'; clear hDn'
    simp only [Act.put, List.setIfInBounds_toArray, List.set_cons_zero, List.set_cons_succ]
    refine wpT_done (by kernel_rfl) ?_ _
    have HL4 := Lib.hid hl9
    have hg4 := hl9.i.blk
    have K4 := Lib.hid k4
    have hsz4 := k4.size
    have F4 := Lib.hid (FN.out.same k4)
    have D4 := Lib.hid (DN.out.same k4)
    have hd1 := DN.out.box.lt
    have hd2 := DN.out.safe.lt
    have hd3 := DN.out.map.lt
    have RO : Hid (∀ w', Same w4 w' → Calls Tryz.prog 34 #[.agg #[.slice a9 (D9).s.length c9, .bool (D9).off, .int .i64 (D9).calls, .int .i64 (D9).after, .bool (D9).done], .int .i64 (L.first : Nat), .int .i64 (L.count : Nat), .int .i64 (L.epoch : Nat)] w' (RNew w' (fun j => (j ≠ g9 ∧ ¬ dod d bs m j ∧ j ≠ x) ∧ (w4.heap.size < w'.heap.size → j ≠ w4.heap.size)) a9 c9 D9 0 L9)) := by
      intro w' kk
      have hs' := kk.size
      have := rx_open (w := w') (P := fun j => (j ≠ g9 ∧ ¬ dod d bs m j ∧ j ≠ x) ∧ (w4.heap.size < w'.heap.size → j ≠ w4.heap.size)) (fun j hj => ⟨⟨by omega, (by rintro (q | q | q) <;> omega), by omega⟩, fun _ => by omega⟩) a9 c9 D9 D4.out.ok ((SN.out.kept k4 (.inr (fun _ _ h => h))).kept kk (.inr (fun _ _ h => h))) (fun y hy => by
        have q1 := LTN.out y hy
        have q2 := LO2.out y hy
        have := HLT.out
        exact ⟨⟨by omega, (by rintro (q | q | q) <;> omega), by omega⟩, fun _ => by omega⟩) (L.first : Nat) (L.count : Nat) (L.epoch : Nat)
      rw [NEW.out, HL9.out] at this
      exact this
    have Q2 := Lib.hid fun (w' : World) (kk : Same w4 w') => (show (fun w' => (∀ i, w'.cell? ⟨Y, i, none⟩ = (#[.slice a9 (D9).s.length c9, .bool (D9).off, .int .i64 (D9).calls, .int .i64 (D9).after, .bool (D9).done] : Array Value)[i]?) ∧ (∀ i, w'.cell? ⟨x, i, none⟩ = (#[.pointer (some ⟨d, 0, none⟩), .pointer (some ⟨g, 0, none⟩), .slice a D.s.length c, .bool D.off, .int .i64 D.calls, .int .i64 D.after, .bool D.done, .int .i64 (L.first : Nat), .int .i64 (L.count : Nat), .int .i64 (L.epoch : Nat), .int .i64 (L.at_ : Nat), .slice ha L.has.length hc, .slice wa L.wait.length wc, .bool L.closed, .bool L.bad] : Array Value)[i]?)) w' from ⟨cell_blk (F4.out.1.kept kk (fun h => h)), cell_blk (F4.out.2.2.1.kept kk (fun h => h))⟩)
    have KC := Lib.hid (Kept.refl (fun _ => False) w4)
    clear hl9 k4 p2 f2 p0 f0 p1 f1 z2 z0 z1 QX WO FN DN
    obtain ⟨p2, f2, p0, f0, p1, f1, -⟩ := F4.out.rules
    have z2 := F4.out.1.lt
    have z0 := F4.out.2.1.lt
    have z1 := F4.out.2.2.1.lt
    go_wp2_with fail
    go_region_held3 (fun w' => (∀ i, w'.cell? ⟨Y, i, none⟩ = (#[.slice a9 (D9).s.length c9, .bool (D9).off, .int .i64 (D9).calls, .int .i64 (D9).after, .bool (D9).done] : Array Value)[i]?) ∧ (∀ i, w'.cell? ⟨x, i, none⟩ = (#[.pointer (some ⟨d, 0, none⟩), .pointer (some ⟨g, 0, none⟩), .slice a D.s.length c, .bool D.off, .int .i64 D.calls, .int .i64 D.after, .bool D.done, .int .i64 (L.first : Nat), .int .i64 (L.count : Nat), .int .i64 (L.epoch : Nat), .int .i64 (L.at_ : Nat), .slice ha L.has.length hc, .slice wa L.wait.length wc, .bool L.closed, .bool L.bad] : Array Value)[i]?))
      ((refine Q2.out _ ?_; repeat (first | with_reducible exact Kept.refl _ _ | with_reducible exact KC.out | with_reducible refine Kept.drew ?_ | with_reducible refine Kept.alloc ?_ _ | refine Kept.setNew ?_ (by first | (dsimp only; omega) | (simp; done) | (simp; omega)) _)))
      ((go_at_call 34; refine (RO.out _ (by (repeat (first | with_reducible exact Kept.refl _ _ | with_reducible refine Kept.drew ?_ | with_reducible refine Kept.alloc ?_ _)))).mono ?_; rintro e w9 ⟨hp, k9⟩; rw [if_pos rfl] at hp; obtain ⟨ha9, hc9, wa9, wc9, rfl, hrl⟩ := hp; simp only [lgV]; have HR9 := Lib.hid hrl; have KC' := Lib.hid (show Same w4 w9 from Kept.trans (by (repeat (first | with_reducible exact Kept.refl _ _ | with_reducible refine Kept.drew ?_ | with_reducible refine Kept.alloc ?_ _))) k9); clear KC; have KC := KC'; clear KC'; (first | (have B8 := Lib.hid (show Blk w9 w4.heap.size #[.slice none 0 0, .bool false, .int .i64 0, .int .i64 0, .bool false, .int .i64 0, .int .i64 0, .int .i64 0, .int .i64 0, .slice none 0 0, .slice none 0 0, .bool false, .bool false] 48 from Blk.kept (Blk.drew (Blk.new w4 _ _)) k9 (fun h => h)); have r8 := cell_blk B8.out; have s8 := fun i => B8.out.free i; have y8 := B8.out.lt) | skip); have hz9 := KC.out.size; clear hrl k9))
    · obtain ⟨Z, hZ⟩ : ∃ Z, w9.heap.size = Z := ⟨_, rfl⟩
      rw [hZ]
      refine cutE (fun wn => Fr wn [(Z, #[.slice a9 D9.s.length c9, .bool D9.off, .int .i64 D9.calls, .int .i64 D9.after, .bool D9.done, .int .i64 (L9.first : Nat), .int .i64 (L9.count : Nat), .int .i64 (L9.epoch : Nat), .int .i64 (L9.at_ : Nat), .slice ha9 L9.has.length hc9, .slice wa9 L9.wait.length wc9, .bool L9.closed, .bool L9.bad], 48), (x, #[.pointer (some ⟨d, 0, none⟩), .pointer (some ⟨g, 0, none⟩), .slice a D.s.length c, .bool D.off, .int .i64 D.calls, .int .i64 D.after, .bool D.done, .int .i64 (L.first : Nat), .int .i64 (L.count : Nat), .int .i64 (L.epoch : Nat), .int .i64 (L.at_ : Nat), .slice ha L.has.length hc, .slice wa L.wait.length wc, .bool L.closed, .bool L.bad], 52)] ∧ Same w4 wn ∧ RLog wn (fun j => j ≠ g9 ∧ ¬ dod d bs m j ∧ j ≠ x) a9 D9 L9 ha9 hc9 wa9 wc9 ∧ w4.heap.size ≤ Z) ⟨⟨Blk.new' _ _ _ hZ.symm, (F4.out.2.2.1.kept KC.out (fun h => h)).alloc _, trivial⟩, KC.out.alloc _, (HR9.out.mono (fun j q => q.1)).same ((Kept.refl _ _).alloc _), by omega⟩ ?_
      rintro wm ⟨hfm, hkm, hrm, hZm⟩
      have FM := Lib.hid hfm
      have KM := Lib.hid hkm
      have RM := Lib.hid hrm
      have hsm := hkm.size
      clear p2 f2 p0 f0 p1 f1 z2 z0 z1 hfm hkm hrm Q2 RO
      obtain ⟨p3, f3, p1, f1, -⟩ := FM.out.rules
      have z3 := FM.out.1.lt
      have z1 := FM.out.2.1.lt
      have QZ := Lib.hid fun (w' : World) (kk : Kept (fun j => j = x) wm w') => (show (fun w' : World => ∀ i, w'.cell? ⟨Z, i, none⟩ = (#[.slice a9 D9.s.length c9, .bool D9.off, .int .i64 D9.calls, .int .i64 D9.after, .bool D9.done, .int .i64 (L9.first : Nat), .int .i64 (L9.count : Nat), .int .i64 (L9.epoch : Nat), .int .i64 (L9.at_ : Nat), .slice ha9 L9.has.length hc9, .slice wa9 L9.wait.length wc9, .bool L9.closed, .bool L9.bad] : Array Value)[i]?) w' from cell_blk (FM.out.1.kept kk (by have := HLT.out; omega)))
      go_wp2_with fail
      go_region_held3 (fun w' : World => ∀ i, w'.cell? ⟨Z, i, none⟩ = (#[.slice a9 D9.s.length c9, .bool D9.off, .int .i64 D9.calls, .int .i64 D9.after, .bool D9.done, .int .i64 (L9.first : Nat), .int .i64 (L9.count : Nat), .int .i64 (L9.epoch : Nat), .int .i64 (L9.at_ : Nat), .slice ha9 L9.has.length hc9, .slice wa9 L9.wait.length wc9, .bool L9.closed, .bool L9.bad] : Array Value)[i]?)
        ((refine QZ.out _ ?_; repeat (first | with_reducible exact Kept.refl _ _ | with_reducible refine Kept.drew ?_ | with_reducible refine Kept.setG ?_ _ _)))
        (fail)
      · have b1 : Blk (wm.setCell ⟨x, 1, none⟩ (.pointer (some ⟨g9, 0, none⟩))) x #[.pointer (some ⟨d, 0, none⟩), .pointer (some ⟨g9, 0, none⟩), .slice a D.s.length c, .bool D.off, .int .i64 D.calls, .int .i64 D.after, .bool D.done, .int .i64 (L.first : Nat), .int .i64 (L.count : Nat), .int .i64 (L.epoch : Nat), .int .i64 (L.at_ : Nat), .slice ha L.has.length hc, .slice wa L.wait.length wc, .bool L.closed, .bool L.bad] 52 := FM.out.2.1.set 1 _
        refine cutE (fun wz => Blk wz x (wdV d g9 a9 c9 D9 L9 ha9 hc9 wa9 wc9) 52 ∧ Kept (fun j => j = x) wm wz) ⟨?_, ?_⟩ ?_
        · with_reducible refine Blk.drew ?_
          unfold wdV
          with_reducible exact Blk.set13w b1
        · (repeat (first | with_reducible exact Kept.refl _ _ | with_reducible refine Kept.drew ?_ | with_reducible refine Kept.setG ?_ _ _))
        · rintro wz ⟨hbz, hkz⟩
          have BZ := Lib.hid hbz
          have KZ := Lib.hid hkz
          clear hbz hkz p3 f3 p1 f1 z3 z1 QZ b1
          go_wp2_with fail
          go_ret
          have hl1 := HLT.out
          have kz : Kept (wdo x d bs m g) w wz := ((K.out.mono (fun _ _ q => q.elim)).trans (K2.out.mono (fun j _ q => .inr (.inr q)))).trans ((((KN.out.trans K4.out).trans KM.out).mono (fun _ _ q => q.elim)).trans (KZ.out.mono (fun j _ q => .inl q)))
          exact ⟨g9, D9, L9, a9, c9, ha9, hc9, wa9, wc9, rfl, DLN.out, W10.put (w6 := wm) BZ.out KZ.out (D4.out.same KM.out) ((HL4.out.same KM.out).mono (fun j _ q => by omega)) RM.out OK9.out XD.out (by omega), .inr (by omega), kz⟩
    · have HR8 := Lib.hid (show RLog w9 (fun j => (j ≠ g9 ∧ ¬ dod d bs m j ∧ j ≠ x) ∧ j ≠ w4.heap.size) a9 D9 L9 ha9 hc9 wa9 wc9 from HR9.out.mono (fun j q => ⟨q.1, q.2 (by simp)⟩))
      clear HR9
      obtain ⟨Z, hZ⟩ : ∃ Z, w4.heap.size = Z := ⟨_, rfl⟩
      rw [hZ] at B8 HR8 ⊢
      refine cutE (fun wn => Fr wn [(Z, #[.slice a9 D9.s.length c9, .bool D9.off, .int .i64 D9.calls, .int .i64 D9.after, .bool D9.done, .int .i64 (L9.first : Nat), .int .i64 (L9.count : Nat), .int .i64 (L9.epoch : Nat), .int .i64 (L9.at_ : Nat), .slice ha9 L9.has.length hc9, .slice wa9 L9.wait.length wc9, .bool L9.closed, .bool L9.bad], 48), (x, #[.pointer (some ⟨d, 0, none⟩), .pointer (some ⟨g, 0, none⟩), .slice a D.s.length c, .bool D.off, .int .i64 D.calls, .int .i64 D.after, .bool D.done, .int .i64 (L.first : Nat), .int .i64 (L.count : Nat), .int .i64 (L.epoch : Nat), .int .i64 (L.at_ : Nat), .slice ha L.has.length hc, .slice wa L.wait.length wc, .bool L.closed, .bool L.bad], 52)] ∧ Same w4 wn ∧ RLog wn (fun j => j ≠ g9 ∧ ¬ dod d bs m j ∧ j ≠ x) a9 D9 L9 ha9 hc9 wa9 wc9 ∧ w4.heap.size ≤ Z) ⟨⟨Blk.set13 (v0 := .slice none 0 0) (v1 := .bool false) (v2 := .int .i64 0) (v3 := .int .i64 0) (v4 := .bool false) (v5 := .int .i64 0) (v6 := .int .i64 0) (v7 := .int .i64 0) (v8 := .int .i64 0) (v9 := .slice none 0 0) (v10 := .slice none 0 0) (v11 := .bool false) (v12 := .bool false) B8.out, ?_, trivial⟩, ?_, (HR8.out.kept (fp := fun j => j = Z) ?_ (fun j q => q.2)).mono (fun j q => q.1), by omega⟩ ?_
      · refine Blk.kept (F4.out.2.2.1.kept KC.out (fun h => h)) (fp := fun j => j = Z) ?_ (by omega)
        (repeat (first | with_reducible exact Kept.refl _ _ | with_reducible refine Kept.setG ?_ _ _))
      · (repeat (first | with_reducible exact KC.out | with_reducible refine Kept.setNew ?_ (by dsimp only; omega) _))
      · (repeat (first | with_reducible exact Kept.refl _ _ | with_reducible refine Kept.setG ?_ _ _))
      rintro wm ⟨hfm, hkm, hrm, hZm⟩
      have FM := Lib.hid hfm
      have KM := Lib.hid hkm
      have RM := Lib.hid hrm
      have hsm := hkm.size
      clear p2 f2 p0 f0 p1 f1 z2 z0 z1 hfm hkm hrm Q2 RO
      obtain ⟨p3, f3, p1, f1, -⟩ := FM.out.rules
      have z3 := FM.out.1.lt
      have z1 := FM.out.2.1.lt
      have QZ := Lib.hid fun (w' : World) (kk : Kept (fun j => j = x) wm w') => (show (fun w' : World => ∀ i, w'.cell? ⟨Z, i, none⟩ = (#[.slice a9 D9.s.length c9, .bool D9.off, .int .i64 D9.calls, .int .i64 D9.after, .bool D9.done, .int .i64 (L9.first : Nat), .int .i64 (L9.count : Nat), .int .i64 (L9.epoch : Nat), .int .i64 (L9.at_ : Nat), .slice ha9 L9.has.length hc9, .slice wa9 L9.wait.length wc9, .bool L9.closed, .bool L9.bad] : Array Value)[i]?) w' from cell_blk (FM.out.1.kept kk (by have := HLT.out; omega)))
      go_wp2_with fail
      go_region_held3 (fun w' : World => ∀ i, w'.cell? ⟨Z, i, none⟩ = (#[.slice a9 D9.s.length c9, .bool D9.off, .int .i64 D9.calls, .int .i64 D9.after, .bool D9.done, .int .i64 (L9.first : Nat), .int .i64 (L9.count : Nat), .int .i64 (L9.epoch : Nat), .int .i64 (L9.at_ : Nat), .slice ha9 L9.has.length hc9, .slice wa9 L9.wait.length wc9, .bool L9.closed, .bool L9.bad] : Array Value)[i]?)
        ((refine QZ.out _ ?_; repeat (first | with_reducible exact Kept.refl _ _ | with_reducible refine Kept.drew ?_ | with_reducible refine Kept.setG ?_ _ _)))
        (fail)
      · have b1 : Blk (wm.setCell ⟨x, 1, none⟩ (.pointer (some ⟨g9, 0, none⟩))) x #[.pointer (some ⟨d, 0, none⟩), .pointer (some ⟨g9, 0, none⟩), .slice a D.s.length c, .bool D.off, .int .i64 D.calls, .int .i64 D.after, .bool D.done, .int .i64 (L.first : Nat), .int .i64 (L.count : Nat), .int .i64 (L.epoch : Nat), .int .i64 (L.at_ : Nat), .slice ha L.has.length hc, .slice wa L.wait.length wc, .bool L.closed, .bool L.bad] 52 := FM.out.2.1.set 1 _
        refine cutE (fun wz => Blk wz x (wdV d g9 a9 c9 D9 L9 ha9 hc9 wa9 wc9) 52 ∧ Kept (fun j => j = x) wm wz) ⟨?_, ?_⟩ ?_
        · with_reducible refine Blk.drew ?_
          unfold wdV
          with_reducible exact Blk.set13w b1
        · (repeat (first | with_reducible exact Kept.refl _ _ | with_reducible refine Kept.drew ?_ | with_reducible refine Kept.setG ?_ _ _))
        · rintro wz ⟨hbz, hkz⟩
          have BZ := Lib.hid hbz
          have KZ := Lib.hid hkz
          clear hbz hkz p3 f3 p1 f1 z3 z1 QZ b1
          go_wp2_with fail
          go_ret
          have hl1 := HLT.out
          have kz : Kept (wdo x d bs m g) w wz := ((K.out.mono (fun _ _ q => q.elim)).trans (K2.out.mono (fun j _ q => .inr (.inr q)))).trans ((((KN.out.trans K4.out).trans KM.out).mono (fun _ _ q => q.elim)).trans (KZ.out.mono (fun j _ q => .inl q)))
          exact ⟨g9, D9, L9, a9, c9, ha9, hc9, wa9, wc9, rfl, DLN.out, W10.put (w6 := wm) BZ.out KZ.out (D4.out.same KM.out) ((HL4.out.same KM.out).mono (fun j _ q => by omega)) RM.out OK9.out XD.out (by omega), .inr (by omega), kz⟩
  · obtain ⟨Y, hY⟩ : ∃ Y, w2.heap.size = Y := ⟨_, rfl⟩
    rw [hY] at B8 ⊢
    refine cutE (fun wn => Fr wn [(Y, #[.slice a9 (D9).s.length c9, .bool (D9).off, .int .i64 (D9).calls, .int .i64 (D9).after, .bool (D9).done], 40), (w.heap.size, #[.int .u8 (k : Nat), .string (strN s), .int .i64 n, .int .u8 (kq : Nat), .int .i64 nq, .int .u8 (cc : Nat), .int .u8 (u : Nat), .bool dn, .slice fa fl fc], 33), (x, #[.pointer (some ⟨d, 0, none⟩), .pointer (some ⟨g, 0, none⟩), .slice a D.s.length c, .bool D.off, .int .i64 D.calls, .int .i64 D.after, .bool D.done, .int .i64 (L.first : Nat), .int .i64 (L.count : Nat), .int .i64 (L.epoch : Nat), .int .i64 (L.at_ : Nat), .slice ha L.has.length hc, .slice wa L.wait.length wc, .bool L.closed, .bool L.bad], 52)] ∧ Same w2 wn ∧ SecsAt wn a9 D9.s ∧ w2.heap.size ≤ Y) ⟨⟨Blk.set5 (v0 := .slice none 0 0) (v1 := .bool false) (v2 := .int .i64 0) (v3 := .int .i64 0) (v4 := .bool false) B8.out, ?_, ?_, trivial⟩, ?_, SecsAt.apart HS9.out B8.out ?_ (nostr5 _ _ _ _ _ _ _), by omega⟩ ?_
    · refine Blk.kept (F2.out.1.kept KC.out (fun h => h)) (fp := fun j => j = Y) ?_ (by omega)
      (repeat (first | with_reducible exact Kept.refl _ _ | with_reducible refine Kept.setG ?_ _ _))
    · refine Blk.kept (F2.out.2.1.kept KC.out (fun h => h)) (fp := fun j => j = Y) ?_ (by omega)
      (repeat (first | with_reducible exact Kept.refl _ _ | with_reducible refine Kept.setG ?_ _ _))
    · (repeat (first | with_reducible exact KC.out | with_reducible refine Kept.setNew ?_ (by dsimp only; omega) _))
    · (repeat (first | with_reducible exact Kept.refl _ _ | with_reducible refine Kept.setG ?_ _ _))
    rintro wn ⟨hfn, hkn, hsn, hYn⟩
    have FN := Lib.hid hfn
    have KN := Lib.hid hkn
    have SN := Lib.hid hsn
    have DN := Lib.hid (HD2.out.same hkn)
    have hsz3 := hkn.size
    have ltn : ∀ y, a9 = some y → y.block < wn.heap.size := (secsAt_lt hsn).resolve_left NE9.out
    have LTN := Lib.hid ltn
    clear p0 f0 p1 f1 z0 z1 hfn hkn hsn ltn
    obtain ⟨p2, f2, p0, f0, p1, f1, -⟩ := FN.out.rules
    have z2 := FN.out.1.lt
    have z0 := FN.out.2.1.lt
    have z1 := FN.out.2.2.1.lt
    have QX := Lib.hid fun (w' : World) (kk : Same wn w') => (show (fun w' : World => ∀ i, w'.cell? ⟨x, i, none⟩ = (#[.pointer (some ⟨d, 0, none⟩), .pointer (some ⟨g, 0, none⟩), .slice a D.s.length c, .bool D.off, .int .i64 D.calls, .int .i64 D.after, .bool D.done, .int .i64 (L.first : Nat), .int .i64 (L.count : Nat), .int .i64 (L.epoch : Nat), .int .i64 (L.at_ : Nat), .slice ha L.has.length hc, .slice wa L.wait.length wc, .bool L.closed, .bool L.bad] : Array Value)[i]?) w' from cell_blk (FN.out.2.2.1.kept kk (fun h => h)))
    have WO := Lib.hid fun (w' : World) (kk : Same wn w') => wl_openP (DN.out.same kk) (L.first : Nat) (L.count : Nat) (L.epoch : Nat)
    rw [NEW.out, HL9.out] at WO
    go_wp2_with fail
    refine wp_region_T (S := (fun w' : World => ∀ i, w'.cell? ⟨x, i, none⟩ = (#[.pointer (some ⟨d, 0, none⟩), .pointer (some ⟨g, 0, none⟩), .slice a D.s.length c, .bool D.off, .int .i64 D.calls, .int .i64 D.after, .bool D.done, .int .i64 (L.first : Nat), .int .i64 (L.count : Nat), .int .i64 (L.epoch : Nat), .int .i64 (L.at_ : Nat), .slice ha L.has.length hc, .slice wa L.wait.length wc, .bool L.closed, .bool L.bad] : Array Value)[i]?)) 19 (by kernel_rfl) (QX.out _ (Kept.refl _ _).drew) (fun hHeld hDn => ?_)
    refine wpT_take (i := 0) (t := 127) (v := ?_) rfl rfl rfl (by kernel_rfl) (by kernel_rfl) (by kernel_rfl) (by kernel_rfl) (fun _ _ _ h => h) (Or.inl ⟨by rfl, ?_⟩) hHeld hDn (fun hDn' => ?_)
    rotate_left
    · (intro w hSw; (try dsimp only at hSw); go_simp; (try with_reducible rfl))
    clear hDn; have hDn := hDn'; clear hDn'
    simp only [Act.put, List.setIfInBounds_toArray, List.set_cons_zero, List.set_cons_succ]
    refine wpT_take (i := 1) (t := 128) (v := ?_) rfl rfl rfl (by kernel_rfl) (by kernel_rfl) (by kernel_rfl) (by kernel_rfl) (fun _ _ _ h => h) (Or.inl ⟨by rfl, ?_⟩) hHeld hDn (fun hDn' => ?_)
    rotate_left
    · (intro w hSw; (try dsimp only at hSw); go_simp; (try with_reducible rfl))
    clear hDn; have hDn := hDn'; clear hDn'
    simp only [Act.put, List.setIfInBounds_toArray, List.set_cons_zero, List.set_cons_succ]
    refine wpT_take (i := 2) (t := 129) (v := ?_) rfl rfl rfl (by kernel_rfl) (by kernel_rfl) (by kernel_rfl) (by kernel_rfl) (fun _ _ _ h => h) (Or.inl ⟨by rfl, ?_⟩) hHeld hDn (fun hDn' => ?_)
    rotate_left
    · (intro w hSw; (try dsimp only at hSw); go_simp; (try with_reducible rfl))
    clear hDn; have hDn := hDn'; clear hDn'
    simp only [Act.put, List.setIfInBounds_toArray, List.set_cons_zero, List.set_cons_succ]
    refine wpT_take (i := 3) (t := 130) (v := ?_) rfl rfl rfl (by kernel_rfl) (by kernel_rfl) (by kernel_rfl) (by kernel_rfl) (fun _ _ _ h => h) (Or.inl ⟨by rfl, ?_⟩) hHeld hDn (fun hDn' => ?_)
    rotate_left
    · (intro w hSw; (try dsimp only at hSw); go_simp; (try with_reducible rfl))
    clear hDn; have hDn := hDn'; clear hDn'
    simp only [Act.put, List.setIfInBounds_toArray, List.set_cons_zero, List.set_cons_succ]
    refine wpT_take (i := 4) (t := 131) (v := ?_) rfl rfl rfl (by kernel_rfl) (by kernel_rfl) (by kernel_rfl) (by kernel_rfl) (fun _ _ _ h => h) (Or.inl ⟨by rfl, ?_⟩) hHeld hDn (fun hDn' => ?_)
    rotate_left
    · (intro w hSw; (try dsimp only at hSw); go_simp; (try with_reducible rfl))
    clear hDn; have hDn := hDn'; clear hDn'
    simp only [Act.put, List.setIfInBounds_toArray, List.set_cons_zero, List.set_cons_succ]
    refine wpT_take (i := 5) (t := 132) (v := ?_) rfl rfl rfl (by kernel_rfl) (by kernel_rfl) (by kernel_rfl) (by kernel_rfl) (fun _ _ _ h => h) (Or.inl ⟨by rfl, ?_⟩) hHeld hDn (fun hDn' => ?_)
    rotate_left
    · (intro w hSw; (try dsimp only at hSw); go_simp; (try with_reducible rfl))
    clear hDn; have hDn := hDn'; clear hDn'
    simp only [Act.put, List.setIfInBounds_toArray, List.set_cons_zero, List.set_cons_succ]
    refine wpT_take (i := 6) (t := 133) (v := ?_) rfl rfl rfl (by kernel_rfl) (by kernel_rfl) (by kernel_rfl) (by kernel_rfl) (fun _ _ _ h => h) (Or.inl ⟨by rfl, ?_⟩) hHeld hDn (fun hDn' => ?_)
    rotate_left
    · (intro w hSw; (try dsimp only at hSw); go_simp; (try with_reducible rfl))
    clear hDn; have hDn := hDn'; clear hDn'
    simp only [Act.put, List.setIfInBounds_toArray, List.set_cons_zero, List.set_cons_succ]
    refine wpT_take (i := 7) (t := 134) (v := ?_) rfl rfl rfl (by kernel_rfl) (by kernel_rfl) (by kernel_rfl) (by kernel_rfl) (fun _ _ _ h => h) (Or.inl ⟨by rfl, ?_⟩) hHeld hDn (fun hDn' => ?_)
    rotate_left
    · (intro w hSw; (try dsimp only at hSw); go_simp; (try with_reducible rfl))
    clear hDn; have hDn := hDn'; clear hDn'
    simp only [Act.put, List.setIfInBounds_toArray, List.set_cons_zero, List.set_cons_succ]
    refine wpT_take (i := 8) (t := 135) (v := ?_) rfl rfl rfl (by kernel_rfl) (by kernel_rfl) (by kernel_rfl) (by kernel_rfl) (fun _ _ _ h => h) (Or.inl ⟨by rfl, ?_⟩) hHeld hDn (fun hDn' => ?_)
    rotate_left
    · (intro w hSw; (try dsimp only at hSw); go_simp; (try with_reducible rfl))
    clear hDn; have hDn := hDn'; clear hDn'
    simp only [Act.put, List.setIfInBounds_toArray, List.set_cons_zero, List.set_cons_succ]
    refine wpT_take (i := 9) (t := 136) (v := ?_) rfl rfl rfl (by kernel_rfl) (by kernel_rfl) (by kernel_rfl) (by kernel_rfl) (fun _ _ _ h => h) (Or.inl ⟨by rfl, ?_⟩) hHeld hDn (fun hDn' => ?_)
    rotate_left
    · (intro w hSw; (try dsimp only at hSw); go_simp; (try with_reducible rfl))
    clear hDn; have hDn := hDn'; clear hDn'
    simp only [Act.put, List.setIfInBounds_toArray, List.set_cons_zero, List.set_cons_succ]
    refine wpT_take (i := 10) (t := 137) (v := ?_) rfl rfl rfl (by kernel_rfl) (by kernel_rfl) (by kernel_rfl) (by kernel_rfl) (fun _ _ _ h => h) (Or.inl ⟨by rfl, ?_⟩) hHeld hDn (fun hDn' => ?_)
    rotate_left
    · (intro w hSw; (try dsimp only at hSw); go_simp; (try with_reducible rfl))
    clear hDn; have hDn := hDn'; clear hDn'
    simp only [Act.put, List.setIfInBounds_toArray, List.set_cons_zero, List.set_cons_succ]
    refine wpT_take (i := 11) (t := 138) (v := ?_) rfl rfl rfl (by kernel_rfl) (by kernel_rfl) (by kernel_rfl) (by kernel_rfl) (fun _ _ _ h => h) (Or.inl ⟨by rfl, ?_⟩) hHeld hDn (fun hDn' => ?_)
    rotate_left
    · (intro w hSw; (try dsimp only at hSw); go_simp; (try with_reducible rfl))
    clear hDn; have hDn := hDn'; clear hDn'
    simp only [Act.put, List.setIfInBounds_toArray, List.set_cons_zero, List.set_cons_succ]
    refine wpT_take (i := 12) (t := 139) (v := ?_) rfl rfl rfl (by kernel_rfl) (by kernel_rfl) (by kernel_rfl) (by kernel_rfl) (fun _ _ _ h => h) (Or.inl ⟨by rfl, ?_⟩) hHeld hDn (fun hDn' => ?_)
    rotate_left
    · (intro w hSw; (try dsimp only at hSw); go_simp; (try with_reducible rfl))
    clear hDn; have hDn := hDn'; clear hDn'
    simp only [Act.put, List.setIfInBounds_toArray, List.set_cons_zero, List.set_cons_succ]
    refine wpT_take (i := 13) (t := 140) (v := ?_) rfl rfl rfl (by kernel_rfl) (by kernel_rfl) (by kernel_rfl) (by kernel_rfl) (fun _ _ _ h => h) (Or.inl ⟨by rfl, ?_⟩) hHeld hDn (fun hDn' => ?_)
    rotate_left
    · (intro w hSw; (try dsimp only at hSw); go_simp; (try with_reducible rfl))
    clear hDn; have hDn := hDn'; clear hDn'
    simp only [Act.put, List.setIfInBounds_toArray, List.set_cons_zero, List.set_cons_succ]
    refine wpT_take (i := 14) (t := 141) (v := ?_) rfl rfl rfl (by kernel_rfl) (by kernel_rfl) (by kernel_rfl) (by kernel_rfl) (fun _ _ _ h => h) (Or.inl ⟨by rfl, ?_⟩) hHeld hDn (fun hDn' => ?_)
    rotate_left
    · (intro w hSw; (try dsimp only at hSw); go_simp; (try with_reducible rfl))
    clear hDn; have hDn := hDn'; clear hDn'
    simp only [Act.put, List.setIfInBounds_toArray, List.set_cons_zero, List.set_cons_succ]
    refine wpT_take (i := 15) (t := 142) (v := ?_) rfl rfl rfl (by kernel_rfl) (by kernel_rfl) (by kernel_rfl) (by kernel_rfl) (fun _ _ _ h => h) (Or.inl ⟨by rfl, ?_⟩) hHeld hDn (fun hDn' => ?_)
    rotate_left
    · (intro w hSw; (try dsimp only at hSw); go_simp; (try with_reducible rfl))
    clear hDn; have hDn := hDn'; clear hDn'
    simp only [Act.put, List.setIfInBounds_toArray, List.set_cons_zero, List.set_cons_succ]
    refine wpT_take (i := 16) (t := 143) (v := ?_) rfl rfl rfl (by kernel_rfl) (by kernel_rfl) (by kernel_rfl) (by kernel_rfl) (fun _ _ _ h => h) (Or.inl ⟨by rfl, ?_⟩) hHeld hDn (fun hDn' => ?_)
    rotate_left
    · (intro w hSw; (try dsimp only at hSw); go_simp; (try with_reducible rfl))
    clear hDn; have hDn := hDn'; clear hDn'
    simp only [Act.put, List.setIfInBounds_toArray, List.set_cons_zero, List.set_cons_succ]
    refine wpT_take (i := 17) (t := 144) (v := ?_) rfl rfl rfl (by kernel_rfl) (by kernel_rfl) (by kernel_rfl) (by kernel_rfl) (fun _ _ _ h => h) (Or.inl ⟨by rfl, ?_⟩) hHeld hDn (fun hDn' => ?_)
    rotate_left
    · (intro w hSw; (try dsimp only at hSw); go_simp; (try with_reducible rfl))
    clear hDn; have hDn := hDn'; clear hDn'
    simp only [Act.put, List.setIfInBounds_toArray, List.set_cons_zero, List.set_cons_succ]
    refine wpT_take (i := 18) (t := 145) (v := ?_) rfl rfl rfl (by kernel_rfl) (by kernel_rfl) (by kernel_rfl) (by kernel_rfl) (fun _ _ _ h => h) (Or.inl ⟨by rfl, ?_⟩) hHeld hDn (fun hDn' => ?_)
    rotate_left
    · (intro w hSw; (try dsimp only at hSw); go_simp; (try with_reducible rfl))
    clear hDn; have hDn := hDn'; clear hDn'
    simp only [Act.put, List.setIfInBounds_toArray, List.set_cons_zero, List.set_cons_succ]
    refine wpT_last rfl (by kernel_rfl) hDn (fun K' hK => ?_)
    go_simp
    with_reducible refine (WO.out _ (Kept.refl _ _).drew).mono ?_
    rintro e w4 ⟨hp, k4⟩
    rw [if_pos rfl] at hp
    obtain ⟨g9, rfl, hl9, hg9⟩ := hp
    have k4 : Same wn w4 := Kept.trans (Kept.refl _ wn).drew k4
    have hg9 : wn.heap.size ≤ g9 := hg9
    have hl9 : LogP w4 g9 d bs m L9 (fun j => wn.heap.size ≤ j) := hl9
    refine hK.out _ _ (fun hDn' => ?_)
    clear hK K' hDn hHeld
    have hDn := hDn'
    clear hDn'
    refine wpT_takeE (i := 20) (t := 126) (v := ?_) rfl (by kernel_rfl) rfl rfl (by kernel_rfl) (by kernel_rfl) (by kernel_rfl) (fun _ _ _ h => h) (Or.inl ⟨by rfl, ?_⟩) hDn (fun hDn' => ?_)
    rotate_left
    · (intro w _; go_simp; (try with_reducible rfl))
    clear hDn; have hDn := hDn'; clear hDn'
    simp only [Act.put, List.setIfInBounds_toArray, List.set_cons_zero, List.set_cons_succ]
    refine wpT_takeE (i := 21) (t := 147) (v := ?_) rfl (by kernel_rfl) rfl rfl (by kernel_rfl) (by kernel_rfl) (by kernel_rfl) (fun _ _ _ h => h) (Or.inl ⟨by rfl, ?_⟩) hDn (fun hDn' => ?_)
    rotate_left
    · (intro w _; go_simp; (try with_reducible rfl))
    clear hDn; have hDn := hDn'; clear hDn'
    simp only [Act.put, List.setIfInBounds_toArray, List.set_cons_zero, List.set_cons_succ]
    refine wpT_takeE (i := 22) (t := 148) (v := ?_) rfl (by kernel_rfl) rfl rfl (by kernel_rfl) (by kernel_rfl) (by kernel_rfl) (fun _ _ _ h => h) (Or.inl ⟨by rfl, ?_⟩) hDn (fun hDn' => ?_)
    rotate_left
    · (intro w _; go_simp; (try with_reducible rfl))
    clear hDn; have hDn := hDn'; clear hDn'
    simp only [Act.put, List.setIfInBounds_toArray, List.set_cons_zero, List.set_cons_succ]
    refine wpT_takeE (i := 23) (t := 10) (v := ?_) rfl (by kernel_rfl) rfl rfl (by kernel_rfl) (by kernel_rfl) (by kernel_rfl) (fun _ _ _ h => h) (Or.inl ⟨by rfl, ?_⟩) hDn (fun hDn' => ?_)
    rotate_left
    · (intro w _; go_simp; (try with_reducible rfl))
    clear hDn; have hDn := hDn'; clear hDn'
    simp only [Act.put, List.setIfInBounds_toArray, List.set_cons_zero, List.set_cons_succ]
    refine wpT_takeE (i := 24) (t := 11) (v := ?_) rfl (by kernel_rfl) rfl rfl (by kernel_rfl) (by kernel_rfl) (by kernel_rfl) (fun _ _ _ h => h) (Or.inl ⟨by rfl, ?_⟩) hDn (fun hDn' => ?_)
    rotate_left
    · (intro w _; go_simp; (try with_reducible rfl))
    clear hDn; have hDn := hDn'; clear hDn'
    simp only [Act.put, List.setIfInBounds_toArray, List.set_cons_zero, List.set_cons_succ]
    refine wpT_done (by kernel_rfl) ?_ _
    have HL4 := Lib.hid hl9
    have hg4 := hl9.i.blk
    have K4 := Lib.hid k4
    have hsz4 := k4.size
    have F4 := Lib.hid (FN.out.same k4)
    have D4 := Lib.hid (DN.out.same k4)
    have hd1 := DN.out.box.lt
    have hd2 := DN.out.safe.lt
    have hd3 := DN.out.map.lt
    have RO : Hid (∀ w', Same w4 w' → Calls Tryz.prog 34 #[.agg #[.slice a9 (D9).s.length c9, .bool (D9).off, .int .i64 (D9).calls, .int .i64 (D9).after, .bool (D9).done], .int .i64 (L.first : Nat), .int .i64 (L.count : Nat), .int .i64 (L.epoch : Nat)] w' (RNew w' (fun j => (j ≠ g9 ∧ ¬ dod d bs m j ∧ j ≠ x) ∧ (w4.heap.size < w'.heap.size → j ≠ w4.heap.size)) a9 c9 D9 0 L9)) := by
      intro w' kk
      have hs' := kk.size
      have := rx_open (w := w') (P := fun j => (j ≠ g9 ∧ ¬ dod d bs m j ∧ j ≠ x) ∧ (w4.heap.size < w'.heap.size → j ≠ w4.heap.size)) (fun j hj => ⟨⟨by omega, (by rintro (q | q | q) <;> omega), by omega⟩, fun _ => by omega⟩) a9 c9 D9 D4.out.ok ((SN.out.kept k4 (.inr (fun _ _ h => h))).kept kk (.inr (fun _ _ h => h))) (fun y hy => by
        have q1 := LTN.out y hy
        have q2 := LO2.out y hy
        have := HLT.out
        exact ⟨⟨by omega, (by rintro (q | q | q) <;> omega), by omega⟩, fun _ => by omega⟩) (L.first : Nat) (L.count : Nat) (L.epoch : Nat)
      rw [NEW.out, HL9.out] at this
      exact this
    have Q2 := Lib.hid fun (w' : World) (kk : Same w4 w') => (show (fun w' => (∀ i, w'.cell? ⟨Y, i, none⟩ = (#[.slice a9 (D9).s.length c9, .bool (D9).off, .int .i64 (D9).calls, .int .i64 (D9).after, .bool (D9).done] : Array Value)[i]?) ∧ (∀ i, w'.cell? ⟨x, i, none⟩ = (#[.pointer (some ⟨d, 0, none⟩), .pointer (some ⟨g, 0, none⟩), .slice a D.s.length c, .bool D.off, .int .i64 D.calls, .int .i64 D.after, .bool D.done, .int .i64 (L.first : Nat), .int .i64 (L.count : Nat), .int .i64 (L.epoch : Nat), .int .i64 (L.at_ : Nat), .slice ha L.has.length hc, .slice wa L.wait.length wc, .bool L.closed, .bool L.bad] : Array Value)[i]?)) w' from ⟨cell_blk (F4.out.1.kept kk (fun h => h)), cell_blk (F4.out.2.2.1.kept kk (fun h => h))⟩)
    have KC := Lib.hid (Kept.refl (fun _ => False) w4)
    clear hl9 k4 p2 f2 p0 f0 p1 f1 z2 z0 z1 QX WO FN DN
    obtain ⟨p2, f2, p0, f0, p1, f1, -⟩ := F4.out.rules
    have z2 := F4.out.1.lt
    have z0 := F4.out.2.1.lt
    have z1 := F4.out.2.2.1.lt
    go_wp2_with fail
    go_region_held3 (fun w' => (∀ i, w'.cell? ⟨Y, i, none⟩ = (#[.slice a9 (D9).s.length c9, .bool (D9).off, .int .i64 (D9).calls, .int .i64 (D9).after, .bool (D9).done] : Array Value)[i]?) ∧ (∀ i, w'.cell? ⟨x, i, none⟩ = (#[.pointer (some ⟨d, 0, none⟩), .pointer (some ⟨g, 0, none⟩), .slice a D.s.length c, .bool D.off, .int .i64 D.calls, .int .i64 D.after, .bool D.done, .int .i64 (L.first : Nat), .int .i64 (L.count : Nat), .int .i64 (L.epoch : Nat), .int .i64 (L.at_ : Nat), .slice ha L.has.length hc, .slice wa L.wait.length wc, .bool L.closed, .bool L.bad] : Array Value)[i]?))
      ((refine Q2.out _ ?_; repeat (first | with_reducible exact Kept.refl _ _ | with_reducible exact KC.out | with_reducible refine Kept.drew ?_ | with_reducible refine Kept.alloc ?_ _ | refine Kept.setNew ?_ (by first | (dsimp only; omega) | (simp; done) | (simp; omega)) _)))
      ((go_at_call 34; refine (RO.out _ (by (repeat (first | with_reducible exact Kept.refl _ _ | with_reducible refine Kept.drew ?_ | with_reducible refine Kept.alloc ?_ _)))).mono ?_; rintro e w9 ⟨hp, k9⟩; rw [if_pos rfl] at hp; obtain ⟨ha9, hc9, wa9, wc9, rfl, hrl⟩ := hp; simp only [lgV]; have HR9 := Lib.hid hrl; have KC' := Lib.hid (show Same w4 w9 from Kept.trans (by (repeat (first | with_reducible exact Kept.refl _ _ | with_reducible refine Kept.drew ?_ | with_reducible refine Kept.alloc ?_ _))) k9); clear KC; have KC := KC'; clear KC'; (first | (have B8 := Lib.hid (show Blk w9 w4.heap.size #[.slice none 0 0, .bool false, .int .i64 0, .int .i64 0, .bool false, .int .i64 0, .int .i64 0, .int .i64 0, .int .i64 0, .slice none 0 0, .slice none 0 0, .bool false, .bool false] 48 from Blk.kept (Blk.drew (Blk.new w4 _ _)) k9 (fun h => h)); have r8 := cell_blk B8.out; have s8 := fun i => B8.out.free i; have y8 := B8.out.lt) | skip); have hz9 := KC.out.size; clear hrl k9))
    · obtain ⟨Z, hZ⟩ : ∃ Z, w9.heap.size = Z := ⟨_, rfl⟩
      rw [hZ]
      refine cutE (fun wn => Fr wn [(Z, #[.slice a9 D9.s.length c9, .bool D9.off, .int .i64 D9.calls, .int .i64 D9.after, .bool D9.done, .int .i64 (L9.first : Nat), .int .i64 (L9.count : Nat), .int .i64 (L9.epoch : Nat), .int .i64 (L9.at_ : Nat), .slice ha9 L9.has.length hc9, .slice wa9 L9.wait.length wc9, .bool L9.closed, .bool L9.bad], 48), (x, #[.pointer (some ⟨d, 0, none⟩), .pointer (some ⟨g, 0, none⟩), .slice a D.s.length c, .bool D.off, .int .i64 D.calls, .int .i64 D.after, .bool D.done, .int .i64 (L.first : Nat), .int .i64 (L.count : Nat), .int .i64 (L.epoch : Nat), .int .i64 (L.at_ : Nat), .slice ha L.has.length hc, .slice wa L.wait.length wc, .bool L.closed, .bool L.bad], 52)] ∧ Same w4 wn ∧ RLog wn (fun j => j ≠ g9 ∧ ¬ dod d bs m j ∧ j ≠ x) a9 D9 L9 ha9 hc9 wa9 wc9 ∧ w4.heap.size ≤ Z) ⟨⟨Blk.new' _ _ _ hZ.symm, (F4.out.2.2.1.kept KC.out (fun h => h)).alloc _, trivial⟩, KC.out.alloc _, (HR9.out.mono (fun j q => q.1)).same ((Kept.refl _ _).alloc _), by omega⟩ ?_
      rintro wm ⟨hfm, hkm, hrm, hZm⟩
      have FM := Lib.hid hfm
      have KM := Lib.hid hkm
      have RM := Lib.hid hrm
      have hsm := hkm.size
      clear p2 f2 p0 f0 p1 f1 z2 z0 z1 hfm hkm hrm Q2 RO
      obtain ⟨p3, f3, p1, f1, -⟩ := FM.out.rules
      have z3 := FM.out.1.lt
      have z1 := FM.out.2.1.lt
      have QZ := Lib.hid fun (w' : World) (kk : Kept (fun j => j = x) wm w') => (show (fun w' : World => ∀ i, w'.cell? ⟨Z, i, none⟩ = (#[.slice a9 D9.s.length c9, .bool D9.off, .int .i64 D9.calls, .int .i64 D9.after, .bool D9.done, .int .i64 (L9.first : Nat), .int .i64 (L9.count : Nat), .int .i64 (L9.epoch : Nat), .int .i64 (L9.at_ : Nat), .slice ha9 L9.has.length hc9, .slice wa9 L9.wait.length wc9, .bool L9.closed, .bool L9.bad] : Array Value)[i]?) w' from cell_blk (FM.out.1.kept kk (by have := HLT.out; omega)))
      go_wp2_with fail
      go_region_held3 (fun w' : World => ∀ i, w'.cell? ⟨Z, i, none⟩ = (#[.slice a9 D9.s.length c9, .bool D9.off, .int .i64 D9.calls, .int .i64 D9.after, .bool D9.done, .int .i64 (L9.first : Nat), .int .i64 (L9.count : Nat), .int .i64 (L9.epoch : Nat), .int .i64 (L9.at_ : Nat), .slice ha9 L9.has.length hc9, .slice wa9 L9.wait.length wc9, .bool L9.closed, .bool L9.bad] : Array Value)[i]?)
        ((refine QZ.out _ ?_; repeat (first | with_reducible exact Kept.refl _ _ | with_reducible refine Kept.drew ?_ | with_reducible refine Kept.setG ?_ _ _)))
        (fail)
      · have b1 : Blk (wm.setCell ⟨x, 1, none⟩ (.pointer (some ⟨g9, 0, none⟩))) x #[.pointer (some ⟨d, 0, none⟩), .pointer (some ⟨g9, 0, none⟩), .slice a D.s.length c, .bool D.off, .int .i64 D.calls, .int .i64 D.after, .bool D.done, .int .i64 (L.first : Nat), .int .i64 (L.count : Nat), .int .i64 (L.epoch : Nat), .int .i64 (L.at_ : Nat), .slice ha L.has.length hc, .slice wa L.wait.length wc, .bool L.closed, .bool L.bad] 52 := FM.out.2.1.set 1 _
        refine cutE (fun wz => Blk wz x (wdV d g9 a9 c9 D9 L9 ha9 hc9 wa9 wc9) 52 ∧ Kept (fun j => j = x) wm wz) ⟨?_, ?_⟩ ?_
        · with_reducible refine Blk.drew ?_
          unfold wdV
          with_reducible exact Blk.set13w b1
        · (repeat (first | with_reducible exact Kept.refl _ _ | with_reducible refine Kept.drew ?_ | with_reducible refine Kept.setG ?_ _ _))
        · rintro wz ⟨hbz, hkz⟩
          have BZ := Lib.hid hbz
          have KZ := Lib.hid hkz
          clear hbz hkz p3 f3 p1 f1 z3 z1 QZ b1
          go_wp2_with fail
          go_ret
          have hl1 := HLT.out
          have kz : Kept (wdo x d bs m g) w wz := ((K.out.mono (fun _ _ q => q.elim)).trans (K2.out.mono (fun j _ q => .inr (.inr q)))).trans ((((KN.out.trans K4.out).trans KM.out).mono (fun _ _ q => q.elim)).trans (KZ.out.mono (fun j _ q => .inl q)))
          exact ⟨g9, D9, L9, a9, c9, ha9, hc9, wa9, wc9, rfl, DLN.out, W10.put (w6 := wm) BZ.out KZ.out (D4.out.same KM.out) ((HL4.out.same KM.out).mono (fun j _ q => by omega)) RM.out OK9.out XD.out (by omega), .inr (by omega), kz⟩
    · have HR8 := Lib.hid (show RLog w9 (fun j => (j ≠ g9 ∧ ¬ dod d bs m j ∧ j ≠ x) ∧ j ≠ w4.heap.size) a9 D9 L9 ha9 hc9 wa9 wc9 from HR9.out.mono (fun j q => ⟨q.1, q.2 (by simp)⟩))
      clear HR9
      obtain ⟨Z, hZ⟩ : ∃ Z, w4.heap.size = Z := ⟨_, rfl⟩
      rw [hZ] at B8 HR8 ⊢
      refine cutE (fun wn => Fr wn [(Z, #[.slice a9 D9.s.length c9, .bool D9.off, .int .i64 D9.calls, .int .i64 D9.after, .bool D9.done, .int .i64 (L9.first : Nat), .int .i64 (L9.count : Nat), .int .i64 (L9.epoch : Nat), .int .i64 (L9.at_ : Nat), .slice ha9 L9.has.length hc9, .slice wa9 L9.wait.length wc9, .bool L9.closed, .bool L9.bad], 48), (x, #[.pointer (some ⟨d, 0, none⟩), .pointer (some ⟨g, 0, none⟩), .slice a D.s.length c, .bool D.off, .int .i64 D.calls, .int .i64 D.after, .bool D.done, .int .i64 (L.first : Nat), .int .i64 (L.count : Nat), .int .i64 (L.epoch : Nat), .int .i64 (L.at_ : Nat), .slice ha L.has.length hc, .slice wa L.wait.length wc, .bool L.closed, .bool L.bad], 52)] ∧ Same w4 wn ∧ RLog wn (fun j => j ≠ g9 ∧ ¬ dod d bs m j ∧ j ≠ x) a9 D9 L9 ha9 hc9 wa9 wc9 ∧ w4.heap.size ≤ Z) ⟨⟨Blk.set13 (v0 := .slice none 0 0) (v1 := .bool false) (v2 := .int .i64 0) (v3 := .int .i64 0) (v4 := .bool false) (v5 := .int .i64 0) (v6 := .int .i64 0) (v7 := .int .i64 0) (v8 := .int .i64 0) (v9 := .slice none 0 0) (v10 := .slice none 0 0) (v11 := .bool false) (v12 := .bool false) B8.out, ?_, trivial⟩, ?_, (HR8.out.kept (fp := fun j => j = Z) ?_ (fun j q => q.2)).mono (fun j q => q.1), by omega⟩ ?_
      · refine Blk.kept (F4.out.2.2.1.kept KC.out (fun h => h)) (fp := fun j => j = Z) ?_ (by omega)
        (repeat (first | with_reducible exact Kept.refl _ _ | with_reducible refine Kept.setG ?_ _ _))
      · (repeat (first | with_reducible exact KC.out | with_reducible refine Kept.setNew ?_ (by dsimp only; omega) _))
      · (repeat (first | with_reducible exact Kept.refl _ _ | with_reducible refine Kept.setG ?_ _ _))
      rintro wm ⟨hfm, hkm, hrm, hZm⟩
      have FM := Lib.hid hfm
      have KM := Lib.hid hkm
      have RM := Lib.hid hrm
      have hsm := hkm.size
      clear p2 f2 p0 f0 p1 f1 z2 z0 z1 hfm hkm hrm Q2 RO
      obtain ⟨p3, f3, p1, f1, -⟩ := FM.out.rules
      have z3 := FM.out.1.lt
      have z1 := FM.out.2.1.lt
      have QZ := Lib.hid fun (w' : World) (kk : Kept (fun j => j = x) wm w') => (show (fun w' : World => ∀ i, w'.cell? ⟨Z, i, none⟩ = (#[.slice a9 D9.s.length c9, .bool D9.off, .int .i64 D9.calls, .int .i64 D9.after, .bool D9.done, .int .i64 (L9.first : Nat), .int .i64 (L9.count : Nat), .int .i64 (L9.epoch : Nat), .int .i64 (L9.at_ : Nat), .slice ha9 L9.has.length hc9, .slice wa9 L9.wait.length wc9, .bool L9.closed, .bool L9.bad] : Array Value)[i]?) w' from cell_blk (FM.out.1.kept kk (by have := HLT.out; omega)))
      go_wp2_with fail
      go_region_held3 (fun w' : World => ∀ i, w'.cell? ⟨Z, i, none⟩ = (#[.slice a9 D9.s.length c9, .bool D9.off, .int .i64 D9.calls, .int .i64 D9.after, .bool D9.done, .int .i64 (L9.first : Nat), .int .i64 (L9.count : Nat), .int .i64 (L9.epoch : Nat), .int .i64 (L9.at_ : Nat), .slice ha9 L9.has.length hc9, .slice wa9 L9.wait.length wc9, .bool L9.closed, .bool L9.bad] : Array Value)[i]?)
        ((refine QZ.out _ ?_; repeat (first | with_reducible exact Kept.refl _ _ | with_reducible refine Kept.drew ?_ | with_reducible refine Kept.setG ?_ _ _)))
        (fail)
      · have b1 : Blk (wm.setCell ⟨x, 1, none⟩ (.pointer (some ⟨g9, 0, none⟩))) x #[.pointer (some ⟨d, 0, none⟩), .pointer (some ⟨g9, 0, none⟩), .slice a D.s.length c, .bool D.off, .int .i64 D.calls, .int .i64 D.after, .bool D.done, .int .i64 (L.first : Nat), .int .i64 (L.count : Nat), .int .i64 (L.epoch : Nat), .int .i64 (L.at_ : Nat), .slice ha L.has.length hc, .slice wa L.wait.length wc, .bool L.closed, .bool L.bad] 52 := FM.out.2.1.set 1 _
        refine cutE (fun wz => Blk wz x (wdV d g9 a9 c9 D9 L9 ha9 hc9 wa9 wc9) 52 ∧ Kept (fun j => j = x) wm wz) ⟨?_, ?_⟩ ?_
        · with_reducible refine Blk.drew ?_
          unfold wdV
          with_reducible exact Blk.set13w b1
        · (repeat (first | with_reducible exact Kept.refl _ _ | with_reducible refine Kept.drew ?_ | with_reducible refine Kept.setG ?_ _ _))
        · rintro wz ⟨hbz, hkz⟩
          have BZ := Lib.hid hbz
          have KZ := Lib.hid hkz
          clear hbz hkz p3 f3 p1 f1 z3 z1 QZ b1
          go_wp2_with fail
          go_ret
          have hl1 := HLT.out
          have kz : Kept (wdo x d bs m g) w wz := ((K.out.mono (fun _ _ q => q.elim)).trans (K2.out.mono (fun j _ q => .inr (.inr q)))).trans ((((KN.out.trans K4.out).trans KM.out).mono (fun _ _ q => q.elim)).trans (KZ.out.mono (fun j _ q => .inl q)))
          exact ⟨g9, D9, L9, a9, c9, ha9, hc9, wa9, wc9, rfl, DLN.out, W10.put (w6 := wm) BZ.out KZ.out (D4.out.same KM.out) ((HL4.out.same KM.out).mono (fun j _ q => by omega)) RM.out OK9.out XD.out (by omega), .inr (by omega), kz⟩
end
end Go.Proofs.YtlmpkonfclnceaaGreat
