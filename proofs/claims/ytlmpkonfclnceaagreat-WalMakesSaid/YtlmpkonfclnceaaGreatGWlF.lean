/- GWlF: WlF, WlNil. -/
import Derived.Test.YtlmpkonfclnceaaGreatWl8
import Derived.Test.YtlmpkonfclnceaaGreatHeldT
namespace Go.Proofs.YtlmpkonfclnceaaGreat
open Go.RowKit Go.Sort

theorem own_blk {w : World} {base n c : Nat} {a : Option Addr} {l : List (List Nat)} (h : OwnT w base (.slice a n c) l) : ∀ y, a = some y → base ≤ y.block ∧ y.block < w.heap.size ∧ ∃ b o, y = ⟨b, o, none⟩ := by
  intro y hy
  have := World.ownsRow.lt h y.block (by rw [hy]; rfl)
  refine ⟨this.1, this.2, ?_⟩
  rcases h.2 with ⟨q, _⟩ | ⟨g', cap, cur, q, _⟩
  · simp at q; rw [q.1] at hy; cases hy
  · simp at q; rw [q.1] at hy; cases hy; exact ⟨_, _, rfl⟩
set_option maxRecDepth 100000 in
set_option maxHeartbeats 1600000 in
theorem wl_fork {w : World} {g d bs m : Nat} {L : Lg} (h : LogI w g d bs m L) (hl1 : L.has.length ≤ 1000000) (hl2 : L.wait.length ≤ 1000000) (d2 bs2 m2 : Nat) (hd2 : d2 < w.heap.size) (hbs2 : bs2 < w.heap.size) (hm2 : m2 < w.heap.size) :
    Calls Tryz.prog 16 #[.pointer (some ⟨g, 0, none⟩), .pointer (some ⟨d2, 0, none⟩)] w fun e w' => (∃ g2, e = .returned (.pointer (some ⟨g2, 0, none⟩)) ∧ LogP w' g2 d2 bs2 m2 L (fun j => w.heap.size ≤ j) ∧ w.heap.size ≤ g2) ∧ Same w w' := by
  obtain ⟨ha, hc, wa, wc, h⟩ := h
  have HI := Lib.hid h
  have C1 := Lib.hid fun (w' : World) (kk : Same w w') => sl_clone_txt ha L.has.length hc L.has rfl hl1 (fun y hy => (h.oh y hy).2.2.2) w' (h.has.same kk)
  have C2 := Lib.hid fun (w' : World) (kk : Same w w') => sl_clone_txt wa L.wait.length wc L.wait rfl hl2 (fun y hy => (h.ow y hy).2.2.2) w' (h.wt.same kk)
  have p0 := cell_blk h.box
  have zg := h.box.lt
  have f0 := fun i => h.box.free i
  simp only [lgC] at p0
  clear h
  go_enter Tryz.func16, Tryz.ntmps16
  go_upto_region 5 with fail
  obtain ⟨y, hy⟩ : ∃ y, w.heap.size = y := ⟨_, rfl⟩
  rw [hy]
  refine cutWl (fun wn => Fr wn [(y, #[.pointer (some ⟨d2, 0, none⟩), .int .i64 (L.first : Nat), .int .i64 (L.count : Nat), .int .i64 (L.epoch : Nat), .int .i64 (L.at_ : Nat), .slice ha L.has.length hc, .slice wa L.wait.length wc, .bool L.closed, .bool L.bad], 79), (g, #[.pointer (some ⟨d, 0, none⟩), .int .i64 (L.first : Nat), .int .i64 (L.count : Nat), .int .i64 (L.epoch : Nat), .int .i64 (L.at_ : Nat), .slice ha L.has.length hc, .slice wa L.wait.length wc, .bool L.closed, .bool L.bad], 79)] ∧ Same w wn ∧ y < wn.heap.size) ?_ ?_
  · exact ⟨⟨Blk.new' _ _ _ hy.symm, (show Blk w g #[.pointer (some ⟨d, 0, none⟩), .int .i64 (L.first : Nat), .int .i64 (L.count : Nat), .int .i64 (L.epoch : Nat), .int .i64 (L.at_ : Nat), .slice ha L.has.length hc, .slice wa L.wait.length wc, .bool L.closed, .bool L.bad] 79 from HI.out.box).alloc _, trivial⟩, (Kept.refl _ _).alloc _, by simp; omega⟩
  · rintro W ⟨hfr, hkw, hyw⟩
    clear p0 f0
    have F := Lib.hid hfr
    have K := Lib.hid hkw
    obtain ⟨p1, f1, p0, f0, -⟩ := hfr.rules
    have z1 := hfr.1.lt
    have z0 := hfr.2.1.lt
    clear hfr hkw
    have QQ := Lib.hid fun (w' : World) (kk : Kept (fun j => j = y) W w') => (show (fun w' : World => ∀ i, w'.cell? ⟨g, i, none⟩ = (#[.pointer (some ⟨d, 0, none⟩), .int .i64 (L.first : Nat), .int .i64 (L.count : Nat), .int .i64 (L.epoch : Nat), .int .i64 (L.at_ : Nat), .slice ha L.has.length hc, .slice wa L.wait.length wc, .bool L.closed, .bool L.bad] : Array Value)[i]?) w' from cell_blk (F.out.2.1.kept kk (by omega)))
    go_wp2_with fail
    refine wp_region_T (S := (fun w' : World => ∀ i, w'.cell? ⟨g, i, none⟩ = (#[.pointer (some ⟨d, 0, none⟩), .int .i64 (L.first : Nat), .int .i64 (L.count : Nat), .int .i64 (L.epoch : Nat), .int .i64 (L.at_ : Nat), .slice ha L.has.length hc, .slice wa L.wait.length wc, .bool L.closed, .bool L.bad] : Array Value)[i]?)) 13 (by kernel_rfl) (QQ.out _ (Kept.refl _ _).drew) (fun hHeld hDn => ?_)
    refine wpT_take (i := 0) (t := 18) (v := ?_) rfl rfl rfl (by kernel_rfl) (by kernel_rfl) (by kernel_rfl) (by kernel_rfl) (fun _ _ _ h => h) (Or.inl ⟨by rfl, ?_⟩) hHeld hDn (fun hDn' => ?_)
    rotate_left
    · (intro w hSw; (try dsimp only at hSw); go_simp; (try with_reducible rfl))
    clear hDn; have hDn := hDn'; clear hDn'
    simp only [Act.put, List.setIfInBounds_toArray, List.set_cons_zero, List.set_cons_succ]
    refine wpT_take (i := 1) (t := 19) (v := ?_) rfl rfl rfl (by kernel_rfl) (by kernel_rfl) (by kernel_rfl) (by kernel_rfl) (fun _ _ _ h => h) (Or.inl ⟨by rfl, ?_⟩) hHeld hDn (fun hDn' => ?_)
    rotate_left
    · (intro w hSw; (try dsimp only at hSw); go_simp; (try with_reducible rfl))
    clear hDn; have hDn := hDn'; clear hDn'
    simp only [Act.put, List.setIfInBounds_toArray, List.set_cons_zero, List.set_cons_succ]
    refine wpT_take (i := 2) (t := 20) (v := ?_) rfl rfl rfl (by kernel_rfl) (by kernel_rfl) (by kernel_rfl) (by kernel_rfl) (fun _ _ _ h => h) (Or.inl ⟨by rfl, ?_⟩) hHeld hDn (fun hDn' => ?_)
    rotate_left
    · (intro w hSw; (try dsimp only at hSw); go_simp; (try with_reducible rfl))
    clear hDn; have hDn := hDn'; clear hDn'
    simp only [Act.put, List.setIfInBounds_toArray, List.set_cons_zero, List.set_cons_succ]
    refine wpT_take (i := 3) (t := 21) (v := ?_) rfl rfl rfl (by kernel_rfl) (by kernel_rfl) (by kernel_rfl) (by kernel_rfl) (fun _ _ _ h => h) (Or.inl ⟨by rfl, ?_⟩) hHeld hDn (fun hDn' => ?_)
    rotate_left
    · (intro w hSw; (try dsimp only at hSw); go_simp; (try with_reducible rfl))
    clear hDn; have hDn := hDn'; clear hDn'
    simp only [Act.put, List.setIfInBounds_toArray, List.set_cons_zero, List.set_cons_succ]
    refine wpT_take (i := 5) (t := 23) (v := ?_) rfl rfl rfl (by kernel_rfl) (by kernel_rfl) (by kernel_rfl) (by kernel_rfl) (fun _ _ _ h => h) (Or.inl ⟨by rfl, ?_⟩) hHeld hDn (fun hDn' => ?_)
    rotate_left
    · (intro w hSw; (try dsimp only at hSw); go_simp; (try with_reducible rfl))
    clear hDn; have hDn := hDn'; clear hDn'
    simp only [Act.put, List.setIfInBounds_toArray, List.set_cons_zero, List.set_cons_succ]
    refine wpT_take (i := 6) (t := 24) (v := ?_) rfl rfl rfl (by kernel_rfl) (by kernel_rfl) (by kernel_rfl) (by kernel_rfl) (fun _ _ _ h => h) (Or.inl ⟨by rfl, ?_⟩) hHeld hDn (fun hDn' => ?_)
    rotate_left
    · (intro w hSw; (try dsimp only at hSw); go_simp; (try with_reducible rfl))
    clear hDn; have hDn := hDn'; clear hDn'
    simp only [Act.put, List.setIfInBounds_toArray, List.set_cons_zero, List.set_cons_succ]
    refine wpT_take (i := 7) (t := 25) (v := ?_) rfl rfl rfl (by kernel_rfl) (by kernel_rfl) (by kernel_rfl) (by kernel_rfl) (fun _ _ _ h => h) (Or.inl ⟨by rfl, ?_⟩) hHeld hDn (fun hDn' => ?_)
    rotate_left
    · (intro w hSw; (try dsimp only at hSw); go_simp; (try with_reducible rfl))
    clear hDn; have hDn := hDn'; clear hDn'
    simp only [Act.put, List.setIfInBounds_toArray, List.set_cons_zero, List.set_cons_succ]
    refine wpT_take (i := 8) (t := 26) (v := ?_) rfl rfl rfl (by kernel_rfl) (by kernel_rfl) (by kernel_rfl) (by kernel_rfl) (fun _ _ _ h => h) (Or.inl ⟨by rfl, ?_⟩) hHeld hDn (fun hDn' => ?_)
    rotate_left
    · (intro w hSw; (try dsimp only at hSw); go_simp; (try with_reducible rfl))
    clear hDn; have hDn := hDn'; clear hDn'
    simp only [Act.put, List.setIfInBounds_toArray, List.set_cons_zero, List.set_cons_succ]
    refine wpT_one (i := 4) rfl (by kernel_rfl) hDn (fun K' hK => ?_)
    go_simp
    with_reducible refine (C1.out _ (K.out.drew)).mono ?_
    rintro e w2 ⟨⟨v, rfl, ho⟩, k2⟩
    obtain ⟨a5, l5, c5, rfl, hl5, hn5, ha5, hc5⟩ := OwnE.rd ho
    have k2 : Same W w2 := Kept.trans (Kept.refl _ W).drew k2
    refine hK.out _ _ ?_ (fun hHeld2 hDn2 => ?_)
    · exact QQ.out _ (k2.mono (fun _ _ q => q.elim))
    clear hK K' hHeld hDn
    have hHeld := hHeld2; have hDn := hDn2
    clear hHeld2 hDn2
    refine wpT_one (i := 9) rfl (by kernel_rfl) hDn (fun K' hK => ?_)
    go_simp
    with_reducible refine (C2.out _ (K.out.trans k2)).mono ?_
    rintro e w3 ⟨⟨v, rfl, ho3⟩, k3⟩
    obtain ⟨a6, l6, c6, rfl, hl6, hn6, ha6, hc6⟩ := OwnE.rd ho3
    refine hK.out _ _ ?_ (fun hHeld2 hDn2 => ?_)
    · exact QQ.out _ ((k2.trans k3).mono (fun _ _ q => q.elim))
    clear hK K' hHeld hDn
    have hHeld := hHeld2; have hDn := hDn2
    clear hHeld2 hDn2
    have k23 := k2.trans k3
    have F3 := Lib.hid (F.out.same k23)
    have O5 := Lib.hid (ho.same k3)
    have O6 := Lib.hid ho3
    have hs2 := k2.size
    have hs3 := k3.size
    have K3 := Lib.hid (K.out.trans k23)
    have A5 := Lib.hid (ha5.out.same k3)
    have K23 := Lib.hid k23
    clear k23 k2 k3 ho ho3 p0 f0 p1 f1 ha5
    obtain ⟨p1, f1, p0, f0, -⟩ := F3.out.rules
    have y1 := F3.out.1.lt
    have y0 := F3.out.2.1.lt
    refine wpT_takeW (i := 10) (t := 28) (v := ?_) rfl rfl rfl (by kernel_rfl) (by kernel_rfl) (by kernel_rfl) (fun _ _ _ h => h) (Or.inl ⟨by rfl, ?_⟩) hHeld hDn (fun hDn' => ?_)
    rotate_left
    · (intro w _; go_simp; (try with_reducible rfl))
    clear hDn; have hDn := hDn'; clear hDn'
    simp only [Act.put, List.setIfInBounds_toArray, List.set_cons_zero, List.set_cons_succ]
    refine wpT_one (i := 11) rfl (by kernel_rfl) hDn (fun K' hK => ?_)
    go_simp
    refine hK.out _ _ ?_ (fun hHeld2 hDn2 => ?_)
    · exact QQ.out _ (((K23.out.mono (fun _ _ q => q.elim)) : Kept (fun j => j = y) W w3).setG _ _)
    clear hK K' hHeld hDn
    have hHeld := hHeld2; have hDn := hDn2
    clear hHeld2 hDn2
    refine wpT_takeW (i := 12) (t := 29) (v := ?_) rfl rfl rfl (by kernel_rfl) (by kernel_rfl) (by kernel_rfl) (fun _ _ _ h => h) (Or.inl ⟨by rfl, ?_⟩) hHeld hDn (fun hDn' => ?_)
    rotate_left
    · (intro w _; go_simp; (try with_reducible rfl))
    clear hDn; have hDn := hDn'; clear hDn'
    simp only [Act.put, List.setIfInBounds_toArray, List.set_cons_zero, List.set_cons_succ]
    refine wpT_last rfl (by kernel_rfl) hDn (fun K hK => ?_)
    go_simp
    refine hK.out _ _ (fun hDn' => ?_)
    clear hK K hDn hHeld; have hDn := hDn'; clear hDn'
    refine wpT_done (by kernel_rfl) ?_ _
    go_wp2_with fail
    go_ret
    have q5 := own_blk O5.out
    have q6 := own_blk O6.out
    have kz : Kept (fun j => j = y) w3 ((w3.setCell ⟨y, 5, none⟩ (.slice a5 l5 c5)).setCell ⟨y, 6, none⟩ (.slice a6 l6 c6)) := ((Kept.refl _ _).setG _ _).setG _ _
    have e5 : ∀ z, a5 = some z → W.heap.size ≤ z.block := fun z hz => (q5 z hz).1
    have e6 : ∀ z, a6 = some z → w2.heap.size ≤ z.block := fun z hz => (q6 z hz).1
    refine ⟨⟨y, rfl, ⟨a5, c5, a6, c6, ⟨?_, A5.out.kept kz (fun z hz q => by have := e5 z hz; omega), ?_, hn5.out, ha6.out.kept kz (fun z hz q => by have := e6 z hz; omega), ?_, hn6.out, ?_, fun z hz => ?_, fun z hz => ?_⟩, fun z hz => ?_, fun z hz => ?_⟩, Nat.le_refl _⟩, K3.out.step kz (fun j hj q => by omega)⟩
    · have b := (F3.out.1.set 5 (.slice a5 l5 c5)).set 6 (.slice a6 l6 c6)
      rw [hl5.out, hl6.out] at b
      rw [hl5.out, hl6.out]
      simpa [lgC] using b
    · rw [← hl5.out]; exact hc5.out.1
    · rw [← hl6.out]; exact hc6.out.1
    · rintro (q | q | q) <;> omega
    · have h1 := e5 z hz
      have h2 := q5 z hz
      have h3 := kz.size
      exact ⟨by rintro (q | q | q) <;> omega, by omega, by omega, h2.2.2⟩
    · have h1 := e6 z hz
      have h2 := q6 z hz
      have h3 := kz.size
      exact ⟨by rintro (q | q | q) <;> omega, by omega, by omega, h2.2.2⟩
    · have h1 := e5 z hz
      omega
    · have h1 := e6 z hz
      omega
end Go.Proofs.YtlmpkonfclnceaaGreat

namespace Go.Proofs.YtlmpkonfclnceaaGreat
open Go.RowKit Go.Sort

set_option maxRecDepth 100000 in
theorem nl_alive (w : World) : Calls Tryz.prog 43 #[.pointer none] w fun e w' => e = .returned (.int .i64 1) ∧ Same w w' := by
  go_enter Tryz.func43, Tryz.ntmps43
  go_wp2_with fail
  go_ret
  exact ⟨rfl, by repeat (first | exact Kept.refl _ _ | exact Kept.refl _ _ | with_reducible refine Kept.alloc ?_ _)⟩
set_option maxRecDepth 100000 in
theorem nl_add (w : World) (s : ByteArray) : Calls Tryz.prog 17 #[.pointer none, .string s] w fun e w' => e = .returned (.int .i64 1) ∧ Same w w' := by
  go_enter Tryz.func17, Tryz.ntmps17
  go_wp2_with fail
  refine (nl_alive _).mono ?_
  rintro e w3 ⟨rfl, k3⟩
  go_wp2_with fail
  go_ret
  exact ⟨rfl, by repeat (first | exact k3 | exact Kept.refl _ _ | with_reducible refine Kept.alloc ?_ _)⟩
set_option maxRecDepth 100000 in
theorem nl_sync (w : World) : Calls Tryz.prog 18 #[.pointer none] w fun e w' => e = .returned (.int .i64 1) ∧ Same w w' := by
  go_enter Tryz.func18, Tryz.ntmps18
  go_wp2_with fail
  refine (nl_alive _).mono ?_
  rintro e w3 ⟨rfl, k3⟩
  go_wp2_with fail
  go_ret
  exact ⟨rfl, by repeat (first | exact k3 | exact Kept.refl _ _ | with_reducible refine Kept.alloc ?_ _)⟩
set_option maxRecDepth 100000 in
theorem nl_restart (w : World) (e : Int) : Calls Tryz.prog 19 #[.pointer none, .int .i64 e] w fun e w' => e = .returned (.int .i64 1) ∧ Same w w' := by
  go_enter Tryz.func19, Tryz.ntmps19
  go_wp2_with fail
  go_ret
  exact ⟨rfl, by repeat (first | exact Kept.refl _ _ | exact Kept.refl _ _ | with_reducible refine Kept.alloc ?_ _)⟩
set_option maxRecDepth 100000 in
theorem nl_records (w : World) : Calls Tryz.prog 20 #[.pointer none] w fun e w' => e = .returned (.slice none 0 0) ∧ Same w w' := by
  go_enter Tryz.func20, Tryz.ntmps20
  go_wp2_with fail
  go_ret
  exact ⟨rfl, by repeat (first | exact Kept.refl _ _ | exact Kept.refl _ _ | with_reducible refine Kept.alloc ?_ _)⟩
set_option maxRecDepth 100000 in
theorem nl_waits (w : World) : Calls Tryz.prog 21 #[.pointer none] w fun e w' => e = .returned (.slice none 0 0) ∧ Same w w' := by
  go_enter Tryz.func21, Tryz.ntmps21
  go_wp2_with fail
  go_ret
  exact ⟨rfl, by repeat (first | exact Kept.refl _ _ | exact Kept.refl _ _ | with_reducible refine Kept.alloc ?_ _)⟩
set_option maxRecDepth 100000 in
theorem nl_epoch (w : World) : Calls Tryz.prog 22 #[.pointer none] w fun e w' => e = .returned (.int .i64 0) ∧ Same w w' := by
  go_enter Tryz.func22, Tryz.ntmps22
  go_wp2_with fail
  go_ret
  exact ⟨rfl, by repeat (first | exact Kept.refl _ _ | exact Kept.refl _ _ | with_reducible refine Kept.alloc ?_ _)⟩
set_option maxRecDepth 100000 in
theorem nl_left (w : World) : Calls Tryz.prog 23 #[.pointer none] w fun e w' => e = .returned (.int .i64 0) ∧ Same w w' := by
  go_enter Tryz.func23, Tryz.ntmps23
  go_wp2_with fail
  go_ret
  exact ⟨rfl, by repeat (first | exact Kept.refl _ _ | exact Kept.refl _ _ | with_reducible refine Kept.alloc ?_ _)⟩
set_option maxRecDepth 100000 in
theorem nl_closed (w : World) : Calls Tryz.prog 24 #[.pointer none] w fun e w' => e = .returned (.bool false) ∧ Same w w' := by
  go_enter Tryz.func24, Tryz.ntmps24
  go_wp2_with fail
  go_ret
  exact ⟨rfl, by repeat (first | exact Kept.refl _ _ | exact Kept.refl _ _ | with_reducible refine Kept.alloc ?_ _)⟩
set_option maxRecDepth 100000 in
theorem nl_bad (w : World) : Calls Tryz.prog 25 #[.pointer none] w fun e w' => e = .returned (.bool false) ∧ Same w w' := by
  go_enter Tryz.func25, Tryz.ntmps25
  go_wp2_with fail
  go_ret
  exact ⟨rfl, by repeat (first | exact Kept.refl _ _ | exact Kept.refl _ _ | with_reducible refine Kept.alloc ?_ _)⟩
set_option maxRecDepth 100000 in
theorem nl_fork (w : World) (d : Option Addr) : Calls Tryz.prog 16 #[.pointer none, .pointer d] w fun e w' => e = .returned (.pointer none) ∧ Same w w' := by
  go_enter Tryz.func16, Tryz.ntmps16
  go_wp2_with fail
  go_ret
  exact ⟨rfl, by repeat (first | exact Kept.refl _ _ | exact Kept.refl _ _ | with_reducible refine Kept.alloc ?_ _)⟩
set_option maxRecDepth 100000 in
theorem nl_fork2 (w : World) (g : Addr) : Calls Tryz.prog 16 #[.pointer (some g), .pointer none] w fun e w' => e = .returned (.pointer none) ∧ Same w w' := by
  go_enter Tryz.func16, Tryz.ntmps16
  go_wp2_with fail
  go_ret
  exact ⟨rfl, by repeat (first | exact Kept.refl _ _ | exact Kept.refl _ _ | with_reducible refine Kept.alloc ?_ _)⟩
set_option maxRecDepth 100000 in
theorem nl_new (w : World) (f c e : Int) : Calls Tryz.prog 12 #[.pointer none, .int .i64 f, .int .i64 c, .int .i64 e] w fun e w' => e = .returned (.tuple #[.pointer none, .int .i64 1]) ∧ Same w w' := by
  go_enter Tryz.func12, Tryz.ntmps12
  go_wp2_with fail
  go_ret2
  exact ⟨rfl, by repeat (first | exact Kept.refl _ _ | exact Kept.refl _ _ | with_reducible refine Kept.alloc ?_ _)⟩
set_option maxRecDepth 100000 in
theorem nl_open (w : World) (f c e : Int) : Calls Tryz.prog 14 #[.pointer none, .int .i64 f, .int .i64 c, .int .i64 e] w fun e w' => e = .returned (.tuple #[.pointer none, .int .i64 1]) ∧ Same w w' := by
  go_enter Tryz.func14, Tryz.ntmps14
  go_wp2_with fail
  refine (nl_new _ _ _ _).mono ?_
  rintro e w3 ⟨rfl, k3⟩
  go_wp2_with fail
  go_ret2
  exact ⟨rfl, by repeat (first | exact k3 | exact Kept.refl _ _ | with_reducible refine Kept.alloc ?_ _)⟩
end Go.Proofs.YtlmpkonfclnceaaGreat
