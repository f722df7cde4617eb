/- Have both logs the same? -/
import Derived.Test.YtlmpkonfclnceaaGreatGWd
namespace Go.Proofs.YtlmpkonfclnceaaGreat
open Go.RowKit Go.Sort

section
variable {P : Program} {md : Region.Mode} {ops : Array Oper} {Q : Exit → Act → World → Prop} {S : World → Prop} {s : Nat}
/-- Take number i first, its slot known; s waits for it, and says so itself. -/
theorem wpT_takeU {i t : Nat} {oi : Oper} {v : Value} {f : Nat} {l : Array Bool} {a : Act} {w : World} (his : (i == s) = false) (hi : ops[i]? = some oi) (hd : oi.dst = some t)
    (hs : Region.noSelect ops = true) (hf : Region.free md ops l i = true) (hr : (Region.ready md ops l).contains i = true) (ha : ancL md ops 1 i s = true)
    (hQ : ∀ c a w, Q (.panic c) (a.put (some t) v) w → Q (.panic c) a w) (hy : YieldsIf P ops S oi v a) (hS : S w) (hD : DownL md ops l)
    (h : DownL md ops (l.setIfInBounds i true) → wpT P md ops Q S s f (l.setIfInBounds i true) (a.put (some t) v) w) : wpT P md ops Q S s (f + 1) l a w := by
  have hr' : i ∈ Region.ready md ops l := by simpa using hr
  refine wpT_first 1 (by simpa using his) hi (Region.noSelect_spec hs) (by rw [hd]; exact hQ) (.inl ⟨ha, fun _ q => q⟩) f l a w hD (Region.free_spec hi hf) hr' hy hS (.inl hS) ?_
  rw [hd]
  exact h (hD.next hr')
end
section
attribute [local go_sem ↓] exec_app semAt_app
attribute [local go_sem] isApp_lit appA appX
set_option maxRecDepth 100000 in
set_option maxHeartbeats 8000000 in
theorem wd_same {w : World} {x d bs cap m g : Nat} {D : Dsk} {L : Lg} {a : Option Addr} {c : Nat} {ha : Option Addr} {hc : Nat} {wa : Option Addr} {wc : Nat} (h : W10 w x d bs cap m g D L a c ha hc wa wc) :
    Calls Tryz.prog 8 #[.pointer (some ⟨x, 0, none⟩)] w fun e w' => e = .returned (.bool true) ∧ Same w w' := by
  have QX := Lib.hid fun (w' : World) (kk : Same w w') => (show (fun w' : World => ∀ i, w'.cell? ⟨x, i, none⟩ = (#[.pointer (some ⟨d, 0, none⟩), .pointer (some ⟨g, 0, none⟩), .slice a D.s.length c, .bool D.off, .int .i64 D.calls, .int .i64 D.after, .bool D.done, .int .i64 (L.first : Nat), .int .i64 (L.count : Nat), .int .i64 (L.epoch : Nat), .int .i64 (L.at_ : Nat), .slice ha L.has.length hc, .slice wa L.wait.length wc, .bool L.closed, .bool L.bad] : Array Value)[i]?) w' from cell_blk (h.box.kept kk (fun h => h)))
  have HI := Lib.hid h
  have K := Lib.hid (show Same w w.drew from (Kept.refl _ w).drew)
  have LO := Lib.hid (Nat.le_trans h.lok.hasl (show 61184 ≤ 1000000 by decide))
  have WO := Lib.hid (Nat.le_trans h.lok.wl (show 61184 ≤ 1000000 by decide))
  have SA := Lib.hid fun w' (kk : Same w w') => same_any (h.disk.same kk) a c (h.ref.s.kept kk (.inr (fun _ _ h => h)))
  simp only [refV] at SA
  have WR := Lib.hid fun w' (kk : Same w w') => wl_records (h.log.i.same kk) LO.out
  have WW := Lib.hid fun w' (kk : Same w w') => wl_waits (h.log.i.same kk) WO.out
  have WE := Lib.hid fun w' (kk : Same w w') => wl_epoch (h.log.i.same kk)
  have WL := Lib.hid fun w' (kk : Same w w') => wl_left (h.log.i.same kk) h.lok.atc h.lok.cnt
  have WK := Lib.hid fun w' (kk : Same w w') => wl_closed (h.log.i.same kk)
  have WB := Lib.hid fun w' (kk : Same w w') => wl_bad (h.log.i.same kk)
  have XL := Lib.hid (rx_left a c D L ha hc wa wc h.lok.atc h.lok.cnt)
  simp only [lgV] at XL
  clear h
  go_enter Tryz.func8, Tryz.ntmps8
  go_wp2_with fail
  refine wp_region_T (S := (fun w' : World => ∀ i, w'.cell? ⟨x, i, none⟩ = (#[.pointer (some ⟨d, 0, none⟩), .pointer (some ⟨g, 0, none⟩), .slice a D.s.length c, .bool D.off, .int .i64 D.calls, .int .i64 D.after, .bool D.done, .int .i64 (L.first : Nat), .int .i64 (L.count : Nat), .int .i64 (L.epoch : Nat), .int .i64 (L.at_ : Nat), .slice ha L.has.length hc, .slice wa L.wait.length wc, .bool L.closed, .bool L.bad] : Array Value)[i]?)) 89 (by kernel_rfl) (QX.out _ (Kept.refl _ _).drew) (fun hHeld hDn => ?_)
  refine wpT_takeW (i := 0) (t := 3) (v := ?_) rfl rfl rfl (by kernel_rfl) (by kernel_rfl) (by kernel_rfl) (fun _ _ _ h => h) (Or.inl ⟨by rfl, ?_⟩) hHeld hDn (fun hDn' => ?_)
  rotate_left
  · (intro w _; go_simp; (try with_reducible rfl))
  clear hDn; have hDn := hDn'; clear hDn'
  simp only [Act.put, List.setIfInBounds_toArray, List.set_cons_zero, List.set_cons_succ]
  refine wpT_takeW (i := 1) (t := 4) (v := ?_) rfl rfl rfl (by kernel_rfl) (by kernel_rfl) (by kernel_rfl) (fun _ _ _ h => h) (Or.inl ⟨by rfl, ?_⟩) hHeld hDn (fun hDn' => ?_)
  rotate_left
  · (intro w _; go_simp; (try with_reducible rfl))
  clear hDn; have hDn := hDn'; clear hDn'
  simp only [Act.put, List.setIfInBounds_toArray, List.set_cons_zero, List.set_cons_succ]
  refine wpT_takeW (i := 2) (t := 5) (v := ?_) rfl rfl rfl (by kernel_rfl) (by kernel_rfl) (by kernel_rfl) (fun _ _ _ h => h) (Or.inl ⟨by rfl, ?_⟩) hHeld hDn (fun hDn' => ?_)
  rotate_left
  · (intro w _; go_simp; (try with_reducible rfl))
  clear hDn; have hDn := hDn'; clear hDn'
  simp only [Act.put, List.setIfInBounds_toArray, List.set_cons_zero, List.set_cons_succ]
  refine wpT_takeU (i := 3) (t := 6) (v := ?_) rfl rfl rfl (by kernel_rfl) (by kernel_rfl) (by kernel_rfl) (by kernel_rfl) (fun _ _ _ h => h) (Or.inl ⟨by rfl, ?_⟩) hHeld hDn (fun hDn' => ?_)
  rotate_left
  · (intro w hSw; (try dsimp only at hSw); go_simp; (try with_reducible rfl))
  clear hDn; have hDn := hDn'; clear hDn'
  simp only [Act.put, List.setIfInBounds_toArray, List.set_cons_zero, List.set_cons_succ]
  refine wpT_takeW (i := 4) (t := 7) (v := ?_) rfl rfl rfl (by kernel_rfl) (by kernel_rfl) (by kernel_rfl) (fun _ _ _ h => h) (Or.inl ⟨by rfl, ?_⟩) hHeld hDn (fun hDn' => ?_)
  rotate_left
  · (intro w _; go_simp; (try with_reducible rfl))
  clear hDn; have hDn := hDn'; clear hDn'
  simp only [Act.put, List.setIfInBounds_toArray, List.set_cons_zero, List.set_cons_succ]
  refine wpT_takeW (i := 5) (t := 8) (v := ?_) rfl rfl rfl (by kernel_rfl) (by kernel_rfl) (by kernel_rfl) (fun _ _ _ h => h) (Or.inl ⟨by rfl, ?_⟩) hHeld hDn (fun hDn' => ?_)
  rotate_left
  · (intro w _; go_simp; (try with_reducible rfl))
  clear hDn; have hDn := hDn'; clear hDn'
  simp only [Act.put, List.setIfInBounds_toArray, List.set_cons_zero, List.set_cons_succ]
  refine wpT_takeW (i := 6) (t := 9) (v := ?_) rfl rfl rfl (by kernel_rfl) (by kernel_rfl) (by kernel_rfl) (fun _ _ _ h => h) (Or.inl ⟨by rfl, ?_⟩) hHeld hDn (fun hDn' => ?_)
  rotate_left
  · (intro w _; go_simp; (try with_reducible rfl))
  clear hDn; have hDn := hDn'; clear hDn'
  simp only [Act.put, List.setIfInBounds_toArray, List.set_cons_zero, List.set_cons_succ]
  refine wpT_takeW (i := 7) (t := 10) (v := ?_) rfl rfl rfl (by kernel_rfl) (by kernel_rfl) (by kernel_rfl) (fun _ _ _ h => h) (Or.inl ⟨by rfl, ?_⟩) hHeld hDn (fun hDn' => ?_)
  rotate_left
  · (intro w _; go_simp; (try with_reducible rfl))
  clear hDn; have hDn := hDn'; clear hDn'
  simp only [Act.put, List.setIfInBounds_toArray, List.set_cons_zero, List.set_cons_succ]
  refine wpT_takeU (i := 8) (t := 11) (v := ?_) rfl rfl rfl (by kernel_rfl) (by kernel_rfl) (by kernel_rfl) (by kernel_rfl) (fun _ _ _ h => h) (Or.inl ⟨by rfl, ?_⟩) hHeld hDn (fun hDn' => ?_)
  rotate_left
  · (intro w hSw; (try dsimp only at hSw); go_simp; (try with_reducible rfl))
  clear hDn; have hDn := hDn'; clear hDn'
  simp only [Act.put, List.setIfInBounds_toArray, List.set_cons_zero, List.set_cons_succ]
  refine wpT_one (i := 9) rfl (by kernel_rfl) hDn (fun K' hK => ?_)
  go_simp
  with_reducible refine (SA.out _ K.out).mono ?_
  rintro e w1 ⟨rfl, k1⟩
  have K2 := Lib.hid (K.out.trans k1)
  clear K k1
  have K := K2
  clear K2
  refine hK.out _ _ ?_ (fun hHeld2 hDn2 => ?_)
  · exact QX.out _ K.out
  clear hK K' hHeld hDn
  have hHeld := hHeld2; have hDn := hDn2
  clear hHeld2 hDn2
  as_aux_lemma =>
    refine wpT_takeW (i := 10) (t := 13) (v := ?_) rfl rfl rfl (by kernel_rfl) (by kernel_rfl) (by kernel_rfl) (fun _ _ _ h => h) (Or.inl ⟨by rfl, ?_⟩) hHeld hDn (fun hDn' => ?_)
    rotate_left
    · (intro w _; go_simp; (try with_reducible rfl))
    clear hDn; have hDn := hDn'; clear hDn'
    simp only [Act.put, List.setIfInBounds_toArray, List.set_cons_zero, List.set_cons_succ]
    refine wpT_takeW (i := 11) (t := 14) (v := ?_) rfl rfl rfl (by kernel_rfl) (by kernel_rfl) (by kernel_rfl) (fun _ _ _ h => h) (Or.inl ⟨by rfl, ?_⟩) hHeld hDn (fun hDn' => ?_)
    rotate_left
    · (intro w _; go_simp; (try with_reducible rfl))
    clear hDn; have hDn := hDn'; clear hDn'
    simp only [Act.put, List.setIfInBounds_toArray, List.set_cons_zero, List.set_cons_succ]
    refine wpT_takeW (i := 12) (t := 15) (v := ?_) rfl rfl rfl (by kernel_rfl) (by kernel_rfl) (by kernel_rfl) (fun _ _ _ h => h) (Or.inl ⟨by rfl, ?_⟩) hHeld hDn (fun hDn' => ?_)
    rotate_left
    · (intro w _; go_simp; (try with_reducible rfl))
    clear hDn; have hDn := hDn'; clear hDn'
    simp only [Act.put, List.setIfInBounds_toArray, List.set_cons_zero, List.set_cons_succ]
    refine wpT_takeW (i := 13) (t := 16) (v := ?_) rfl rfl rfl (by kernel_rfl) (by kernel_rfl) (by kernel_rfl) (fun _ _ _ h => h) (Or.inl ⟨by rfl, ?_⟩) hHeld hDn (fun hDn' => ?_)
    rotate_left
    · (intro w _; go_simp; (try with_reducible rfl))
    clear hDn; have hDn := hDn'; clear hDn'
    simp only [Act.put, List.setIfInBounds_toArray, List.set_cons_zero, List.set_cons_succ]
    refine wpT_takeW (i := 14) (t := 17) (v := ?_) rfl rfl rfl (by kernel_rfl) (by kernel_rfl) (by kernel_rfl) (fun _ _ _ h => h) (Or.inl ⟨by rfl, ?_⟩) hHeld hDn (fun hDn' => ?_)
    rotate_left
    · (intro w _; go_simp; (try with_reducible rfl))
    clear hDn; have hDn := hDn'; clear hDn'
    simp only [Act.put, List.setIfInBounds_toArray, List.set_cons_zero, List.set_cons_succ]
    refine wpT_takeU (i := 15) (t := 18) (v := ?_) rfl rfl rfl (by kernel_rfl) (by kernel_rfl) (by kernel_rfl) (by kernel_rfl) (fun _ _ _ h => h) (Or.inl ⟨by rfl, ?_⟩) hHeld hDn (fun hDn' => ?_)
    rotate_left
    · (intro w hSw; (try dsimp only at hSw); go_simp; (try with_reducible rfl))
    clear hDn; have hDn := hDn'; clear hDn'
    simp only [Act.put, List.setIfInBounds_toArray, List.set_cons_zero, List.set_cons_succ]
    refine wpT_takeW (i := 17) (t := 20) (v := ?_) rfl rfl rfl (by kernel_rfl) (by kernel_rfl) (by kernel_rfl) (fun _ _ _ h => h) (Or.inl ⟨by rfl, ?_⟩) hHeld hDn (fun hDn' => ?_)
    rotate_left
    · (intro w _; go_simp; (try with_reducible rfl))
    clear hDn; have hDn := hDn'; clear hDn'
    simp only [Act.put, List.setIfInBounds_toArray, List.set_cons_zero, List.set_cons_succ]
    refine wpT_takeW (i := 18) (t := 21) (v := ?_) rfl rfl rfl (by kernel_rfl) (by kernel_rfl) (by kernel_rfl) (fun _ _ _ h => h) (Or.inl ⟨by rfl, ?_⟩) hHeld hDn (fun hDn' => ?_)
    rotate_left
    · (intro w _; go_simp; (try with_reducible rfl))
    clear hDn; have hDn := hDn'; clear hDn'
    simp only [Act.put, List.setIfInBounds_toArray, List.set_cons_zero, List.set_cons_succ]
    refine wpT_takeW (i := 19) (t := 22) (v := ?_) rfl rfl rfl (by kernel_rfl) (by kernel_rfl) (by kernel_rfl) (fun _ _ _ h => h) (Or.inl ⟨by rfl, ?_⟩) hHeld hDn (fun hDn' => ?_)
    rotate_left
    · (intro w _; go_simp; (try with_reducible rfl))
    clear hDn; have hDn := hDn'; clear hDn'
    simp only [Act.put, List.setIfInBounds_toArray, List.set_cons_zero, List.set_cons_succ]
    refine wpT_takeW (i := 20) (t := 23) (v := ?_) rfl rfl rfl (by kernel_rfl) (by kernel_rfl) (by kernel_rfl) (fun _ _ _ h => h) (Or.inl ⟨by rfl, ?_⟩) hHeld hDn (fun hDn' => ?_)
    rotate_left
    · (intro w _; go_simp; (try with_reducible rfl))
    clear hDn; have hDn := hDn'; clear hDn'
    simp only [Act.put, List.setIfInBounds_toArray, List.set_cons_zero, List.set_cons_succ]
    refine wpT_takeU (i := 21) (t := 24) (v := ?_) rfl rfl rfl (by kernel_rfl) (by kernel_rfl) (by kernel_rfl) (by kernel_rfl) (fun _ _ _ h => h) (Or.inl ⟨by rfl, ?_⟩) hHeld hDn (fun hDn' => ?_)
    rotate_left
    · (intro w hSw; (try dsimp only at hSw); go_simp; (try with_reducible rfl))
    clear hDn; have hDn := hDn'; clear hDn'
    simp only [Act.put, List.setIfInBounds_toArray, List.set_cons_zero, List.set_cons_succ]
    refine wpT_one (i := 16) rfl (by kernel_rfl) hDn (fun K' hK => ?_)
    go_simp
    with_reducible refine (WR.out _ K.out).mono ?_
    rintro e w2 ⟨⟨v, rfl, ho⟩, k2⟩
    obtain ⟨a5, l5, c5, rfl, hl5, hn5, ha5, hc5⟩ := OwnE.rd ho
    have SM := Lib.hid (rp_same a5 ha l5 L.has.length c5 hc L.has L.has hl5.out rfl (by have := hl5.out; have := LO.out; omega) LO.out HI.out.lok.hb HI.out.lok.hb w2 ha5.out (HI.out.ref.has.same (K.out.trans k2)))
    rw [show decide (L.has = L.has) = true from decide_eq_true rfl] at SM
    clear ho ha5
    have K2 := Lib.hid (K.out.trans k2)
    clear K k2
    have K := K2
    clear K2
    refine hK.out _ _ ?_ (fun hHeld2 hDn2 => ?_)
    · exact QX.out _ K.out
    clear hK K' hHeld hDn
    have hHeld := hHeld2; have hDn := hDn2
    clear hHeld2 hDn2
    as_aux_lemma =>
      refine wpT_one (i := 22) rfl (by kernel_rfl) hDn (fun K' hK => ?_)
      go_simp
      with_reducible refine SM.out.mono ?_
      rintro e w3 ⟨rfl, k3⟩
      clear SM
      have K2 := Lib.hid (K.out.trans k3)
      clear K k3
      have K := K2
      clear K2
      refine hK.out _ _ ?_ (fun hHeld2 hDn2 => ?_)
      · exact QX.out _ K.out
      clear hK K' hHeld hDn
      have hHeld := hHeld2; have hDn := hDn2
      clear hHeld2 hDn2
      as_aux_lemma =>
        refine wpT_takeW (i := 23) (t := 26) (v := ?_) rfl rfl rfl (by kernel_rfl) (by kernel_rfl) (by kernel_rfl) (fun _ _ _ h => h) (Or.inl ⟨by rfl, ?_⟩) hHeld hDn (fun hDn' => ?_)
        rotate_left
        · (intro w _; go_simp; (try with_reducible rfl))
        clear hDn; have hDn := hDn'; clear hDn'
        simp only [Act.put, List.setIfInBounds_toArray, List.set_cons_zero, List.set_cons_succ]
        refine wpT_takeW (i := 24) (t := 27) (v := ?_) rfl rfl rfl (by kernel_rfl) (by kernel_rfl) (by kernel_rfl) (fun _ _ _ h => h) (Or.inl ⟨by rfl, ?_⟩) hHeld hDn (fun hDn' => ?_)
        rotate_left
        · (intro w _; go_simp; (try with_reducible rfl))
        clear hDn; have hDn := hDn'; clear hDn'
        simp only [Act.put, List.setIfInBounds_toArray, List.set_cons_zero, List.set_cons_succ]
        refine wpT_takeW (i := 25) (t := 28) (v := ?_) rfl rfl rfl (by kernel_rfl) (by kernel_rfl) (by kernel_rfl) (fun _ _ _ h => h) (Or.inl ⟨by rfl, ?_⟩) hHeld hDn (fun hDn' => ?_)
        rotate_left
        · (intro w _; go_simp; (try with_reducible rfl))
        clear hDn; have hDn := hDn'; clear hDn'
        simp only [Act.put, List.setIfInBounds_toArray, List.set_cons_zero, List.set_cons_succ]
        refine wpT_takeW (i := 26) (t := 29) (v := ?_) rfl rfl rfl (by kernel_rfl) (by kernel_rfl) (by kernel_rfl) (fun _ _ _ h => h) (Or.inl ⟨by rfl, ?_⟩) hHeld hDn (fun hDn' => ?_)
        rotate_left
        · (intro w _; go_simp; (try with_reducible rfl))
        clear hDn; have hDn := hDn'; clear hDn'
        simp only [Act.put, List.setIfInBounds_toArray, List.set_cons_zero, List.set_cons_succ]
        refine wpT_takeW (i := 27) (t := 30) (v := ?_) rfl rfl rfl (by kernel_rfl) (by kernel_rfl) (by kernel_rfl) (fun _ _ _ h => h) (Or.inl ⟨by rfl, ?_⟩) hHeld hDn (fun hDn' => ?_)
        rotate_left
        · (intro w _; go_simp; (try with_reducible rfl))
        clear hDn; have hDn := hDn'; clear hDn'
        simp only [Act.put, List.setIfInBounds_toArray, List.set_cons_zero, List.set_cons_succ]
        refine wpT_takeU (i := 28) (t := 31) (v := ?_) rfl rfl rfl (by kernel_rfl) (by kernel_rfl) (by kernel_rfl) (by kernel_rfl) (fun _ _ _ h => h) (Or.inl ⟨by rfl, ?_⟩) hHeld hDn (fun hDn' => ?_)
        rotate_left
        · (intro w hSw; (try dsimp only at hSw); go_simp; (try with_reducible rfl))
        clear hDn; have hDn := hDn'; clear hDn'
        simp only [Act.put, List.setIfInBounds_toArray, List.set_cons_zero, List.set_cons_succ]
        refine wpT_takeW (i := 30) (t := 33) (v := ?_) rfl rfl rfl (by kernel_rfl) (by kernel_rfl) (by kernel_rfl) (fun _ _ _ h => h) (Or.inl ⟨by rfl, ?_⟩) hHeld hDn (fun hDn' => ?_)
        rotate_left
        · (intro w _; go_simp; (try with_reducible rfl))
        clear hDn; have hDn := hDn'; clear hDn'
        simp only [Act.put, List.setIfInBounds_toArray, List.set_cons_zero, List.set_cons_succ]
        refine wpT_takeW (i := 31) (t := 34) (v := ?_) rfl rfl rfl (by kernel_rfl) (by kernel_rfl) (by kernel_rfl) (fun _ _ _ h => h) (Or.inl ⟨by rfl, ?_⟩) hHeld hDn (fun hDn' => ?_)
        rotate_left
        · (intro w _; go_simp; (try with_reducible rfl))
        clear hDn; have hDn := hDn'; clear hDn'
        simp only [Act.put, List.setIfInBounds_toArray, List.set_cons_zero, List.set_cons_succ]
        refine wpT_takeW (i := 32) (t := 35) (v := ?_) rfl rfl rfl (by kernel_rfl) (by kernel_rfl) (by kernel_rfl) (fun _ _ _ h => h) (Or.inl ⟨by rfl, ?_⟩) hHeld hDn (fun hDn' => ?_)
        rotate_left
        · (intro w _; go_simp; (try with_reducible rfl))
        clear hDn; have hDn := hDn'; clear hDn'
        simp only [Act.put, List.setIfInBounds_toArray, List.set_cons_zero, List.set_cons_succ]
        refine wpT_takeW (i := 33) (t := 36) (v := ?_) rfl rfl rfl (by kernel_rfl) (by kernel_rfl) (by kernel_rfl) (fun _ _ _ h => h) (Or.inl ⟨by rfl, ?_⟩) hHeld hDn (fun hDn' => ?_)
        rotate_left
        · (intro w _; go_simp; (try with_reducible rfl))
        clear hDn; have hDn := hDn'; clear hDn'
        simp only [Act.put, List.setIfInBounds_toArray, List.set_cons_zero, List.set_cons_succ]
        refine wpT_takeU (i := 34) (t := 37) (v := ?_) rfl rfl rfl (by kernel_rfl) (by kernel_rfl) (by kernel_rfl) (by kernel_rfl) (fun _ _ _ h => h) (Or.inl ⟨by rfl, ?_⟩) hHeld hDn (fun hDn' => ?_)
        rotate_left
        · (intro w hSw; (try dsimp only at hSw); go_simp; (try with_reducible rfl))
        clear hDn; have hDn := hDn'; clear hDn'
        simp only [Act.put, List.setIfInBounds_toArray, List.set_cons_zero, List.set_cons_succ]
        refine wpT_one (i := 29) rfl (by kernel_rfl) hDn (fun K' hK => ?_)
        go_simp
        with_reducible refine (WW.out _ K.out).mono ?_
        rintro e w4 ⟨⟨v, rfl, ho⟩, k4⟩
        obtain ⟨a6, l6, c6, rfl, hl6, hn6, ha6, hc6⟩ := OwnE.rd ho
        have SM := Lib.hid (rp_same a6 wa l6 L.wait.length c6 wc L.wait L.wait hl6.out rfl (by have := hl6.out; have := WO.out; omega) WO.out HI.out.lok.wb HI.out.lok.wb w4 ha6.out (HI.out.ref.wt.same (K.out.trans k4)))
        rw [show decide (L.wait = L.wait) = true from decide_eq_true rfl] at SM
        clear ho ha6
        have K2 := Lib.hid (K.out.trans k4)
        clear K k4
        have K := K2
        clear K2
        refine hK.out _ _ ?_ (fun hHeld2 hDn2 => ?_)
        · exact QX.out _ K.out
        clear hK K' hHeld hDn
        have hHeld := hHeld2; have hDn := hDn2
        clear hHeld2 hDn2
        as_aux_lemma =>
          refine wpT_one (i := 35) rfl (by kernel_rfl) hDn (fun K' hK => ?_)
          go_simp
          with_reducible refine SM.out.mono ?_
          rintro e w5 ⟨rfl, k5⟩
          clear SM
          have K2 := Lib.hid (K.out.trans k5)
          clear K k5
          have K := K2
          clear K2
          refine hK.out _ _ ?_ (fun hHeld2 hDn2 => ?_)
          · exact QX.out _ K.out
          clear hK K' hHeld hDn
          have hHeld := hHeld2; have hDn := hDn2
          clear hHeld2 hDn2
          as_aux_lemma =>
            refine wpT_takeW (i := 36) (t := 39) (v := ?_) rfl rfl rfl (by kernel_rfl) (by kernel_rfl) (by kernel_rfl) (fun _ _ _ h => h) (Or.inl ⟨by rfl, ?_⟩) hHeld hDn (fun hDn' => ?_)
            rotate_left
            · (intro w _; go_simp; (try with_reducible rfl))
            clear hDn; have hDn := hDn'; clear hDn'
            simp only [Act.put, List.setIfInBounds_toArray, List.set_cons_zero, List.set_cons_succ]
            refine wpT_takeW (i := 37) (t := 40) (v := ?_) rfl rfl rfl (by kernel_rfl) (by kernel_rfl) (by kernel_rfl) (fun _ _ _ h => h) (Or.inl ⟨by rfl, ?_⟩) hHeld hDn (fun hDn' => ?_)
            rotate_left
            · (intro w _; go_simp; (try with_reducible rfl))
            clear hDn; have hDn := hDn'; clear hDn'
            simp only [Act.put, List.setIfInBounds_toArray, List.set_cons_zero, List.set_cons_succ]
            refine wpT_takeW (i := 38) (t := 41) (v := ?_) rfl rfl rfl (by kernel_rfl) (by kernel_rfl) (by kernel_rfl) (fun _ _ _ h => h) (Or.inl ⟨by rfl, ?_⟩) hHeld hDn (fun hDn' => ?_)
            rotate_left
            · (intro w _; go_simp; (try with_reducible rfl))
            clear hDn; have hDn := hDn'; clear hDn'
            simp only [Act.put, List.setIfInBounds_toArray, List.set_cons_zero, List.set_cons_succ]
            refine wpT_takeW (i := 39) (t := 42) (v := ?_) rfl rfl rfl (by kernel_rfl) (by kernel_rfl) (by kernel_rfl) (fun _ _ _ h => h) (Or.inl ⟨by rfl, ?_⟩) hHeld hDn (fun hDn' => ?_)
            rotate_left
            · (intro w _; go_simp; (try with_reducible rfl))
            clear hDn; have hDn := hDn'; clear hDn'
            simp only [Act.put, List.setIfInBounds_toArray, List.set_cons_zero, List.set_cons_succ]
            refine wpT_takeW (i := 40) (t := 43) (v := ?_) rfl rfl rfl (by kernel_rfl) (by kernel_rfl) (by kernel_rfl) (fun _ _ _ h => h) (Or.inl ⟨by rfl, ?_⟩) hHeld hDn (fun hDn' => ?_)
            rotate_left
            · (intro w _; go_simp; (try with_reducible rfl))
            clear hDn; have hDn := hDn'; clear hDn'
            simp only [Act.put, List.setIfInBounds_toArray, List.set_cons_zero, List.set_cons_succ]
            refine wpT_takeU (i := 41) (t := 44) (v := ?_) rfl rfl rfl (by kernel_rfl) (by kernel_rfl) (by kernel_rfl) (by kernel_rfl) (fun _ _ _ h => h) (Or.inl ⟨by rfl, ?_⟩) hHeld hDn (fun hDn' => ?_)
            rotate_left
            · (intro w hSw; (try dsimp only at hSw); go_simp; (try with_reducible rfl))
            clear hDn; have hDn := hDn'; clear hDn'
            simp only [Act.put, List.setIfInBounds_toArray, List.set_cons_zero, List.set_cons_succ]
            refine wpT_takeW (i := 43) (t := 46) (v := ?_) rfl rfl rfl (by kernel_rfl) (by kernel_rfl) (by kernel_rfl) (fun _ _ _ h => h) (Or.inl ⟨by rfl, ?_⟩) hHeld hDn (fun hDn' => ?_)
            rotate_left
            · (intro w _; go_simp; (try with_reducible rfl))
            clear hDn; have hDn := hDn'; clear hDn'
            simp only [Act.put, List.setIfInBounds_toArray, List.set_cons_zero, List.set_cons_succ]
            refine wpT_takeW (i := 44) (t := 47) (v := ?_) rfl rfl rfl (by kernel_rfl) (by kernel_rfl) (by kernel_rfl) (fun _ _ _ h => h) (Or.inl ⟨by rfl, ?_⟩) hHeld hDn (fun hDn' => ?_)
            rotate_left
            · (intro w _; go_simp; (try with_reducible rfl))
            clear hDn; have hDn := hDn'; clear hDn'
            simp only [Act.put, List.setIfInBounds_toArray, List.set_cons_zero, List.set_cons_succ]
            refine wpT_takeW (i := 45) (t := 48) (v := ?_) rfl rfl rfl (by kernel_rfl) (by kernel_rfl) (by kernel_rfl) (fun _ _ _ h => h) (Or.inl ⟨by rfl, ?_⟩) hHeld hDn (fun hDn' => ?_)
            rotate_left
            · (intro w _; go_simp; (try with_reducible rfl))
            clear hDn; have hDn := hDn'; clear hDn'
            simp only [Act.put, List.setIfInBounds_toArray, List.set_cons_zero, List.set_cons_succ]
            refine wpT_takeW (i := 46) (t := 49) (v := ?_) rfl rfl rfl (by kernel_rfl) (by kernel_rfl) (by kernel_rfl) (fun _ _ _ h => h) (Or.inl ⟨by rfl, ?_⟩) hHeld hDn (fun hDn' => ?_)
            rotate_left
            · (intro w _; go_simp; (try with_reducible rfl))
            clear hDn; have hDn := hDn'; clear hDn'
            simp only [Act.put, List.setIfInBounds_toArray, List.set_cons_zero, List.set_cons_succ]
            refine wpT_takeU (i := 47) (t := 50) (v := ?_) rfl rfl rfl (by kernel_rfl) (by kernel_rfl) (by kernel_rfl) (by kernel_rfl) (fun _ _ _ h => h) (Or.inl ⟨by rfl, ?_⟩) hHeld hDn (fun hDn' => ?_)
            rotate_left
            · (intro w hSw; (try dsimp only at hSw); go_simp; (try with_reducible rfl))
            clear hDn; have hDn := hDn'; clear hDn'
            simp only [Act.put, List.setIfInBounds_toArray, List.set_cons_zero, List.set_cons_succ]
            refine wpT_one (i := 42) rfl (by kernel_rfl) hDn (fun K' hK => ?_)
            go_simp
            with_reducible refine (WE.out _ K.out).mono ?_
            rintro e w6 ⟨rfl, rfl⟩
            refine hK.out _ _ ?_ (fun hHeld2 hDn2 => ?_)
            · exact QX.out _ K.out
            clear hK K' hHeld hDn
            have hHeld := hHeld2; have hDn := hDn2
            clear hHeld2 hDn2
            as_aux_lemma =>
              refine wpT_takeW (i := 48) (t := 51) (v := ?_) rfl rfl rfl (by kernel_rfl) (by kernel_rfl) (by kernel_rfl) (fun _ _ _ h => h) (Or.inl ⟨by rfl, ?_⟩) hHeld hDn (fun hDn' => ?_)
              rotate_left
              · (intro w _; go_simp; (try with_reducible rfl))
              clear hDn; have hDn := hDn'; clear hDn'
              simp only [Act.put, List.setIfInBounds_toArray, List.set_cons_zero, List.set_cons_succ]
              refine wpT_takeW (i := 49) (t := 52) (v := ?_) rfl rfl rfl (by kernel_rfl) (by kernel_rfl) (by kernel_rfl) (fun _ _ _ h => h) (Or.inl ⟨by rfl, ?_⟩) hHeld hDn (fun hDn' => ?_)
              rotate_left
              · (intro w _; go_simp; (try with_reducible rfl))
              clear hDn; have hDn := hDn'; clear hDn'
              simp only [Act.put, List.setIfInBounds_toArray, List.set_cons_zero, List.set_cons_succ]
              refine wpT_takeW (i := 50) (t := 53) (v := ?_) rfl rfl rfl (by kernel_rfl) (by kernel_rfl) (by kernel_rfl) (fun _ _ _ h => h) (Or.inl ⟨by rfl, ?_⟩) hHeld hDn (fun hDn' => ?_)
              rotate_left
              · (intro w _; go_simp; (try with_reducible rfl))
              clear hDn; have hDn := hDn'; clear hDn'
              simp only [Act.put, List.setIfInBounds_toArray, List.set_cons_zero, List.set_cons_succ]
              refine wpT_takeW (i := 51) (t := 54) (v := ?_) rfl rfl rfl (by kernel_rfl) (by kernel_rfl) (by kernel_rfl) (fun _ _ _ h => h) (Or.inl ⟨by rfl, ?_⟩) hHeld hDn (fun hDn' => ?_)
              rotate_left
              · (intro w _; go_simp; (try with_reducible rfl))
              clear hDn; have hDn := hDn'; clear hDn'
              simp only [Act.put, List.setIfInBounds_toArray, List.set_cons_zero, List.set_cons_succ]
              refine wpT_takeW (i := 52) (t := 55) (v := ?_) rfl rfl rfl (by kernel_rfl) (by kernel_rfl) (by kernel_rfl) (fun _ _ _ h => h) (Or.inl ⟨by rfl, ?_⟩) hHeld hDn (fun hDn' => ?_)
              rotate_left
              · (intro w _; go_simp; (try with_reducible rfl))
              clear hDn; have hDn := hDn'; clear hDn'
              simp only [Act.put, List.setIfInBounds_toArray, List.set_cons_zero, List.set_cons_succ]
              refine wpT_takeW (i := 53) (t := 56) (v := ?_) rfl rfl rfl (by kernel_rfl) (by kernel_rfl) (by kernel_rfl) (fun _ _ _ h => h) (Or.inl ⟨by rfl, ?_⟩) hHeld hDn (fun hDn' => ?_)
              rotate_left
              · (intro w _; go_simp; (try with_reducible rfl))
              clear hDn; have hDn := hDn'; clear hDn'
              simp only [Act.put, List.setIfInBounds_toArray, List.set_cons_zero, List.set_cons_succ]
              refine wpT_takeU (i := 54) (t := 57) (v := ?_) rfl rfl rfl (by kernel_rfl) (by kernel_rfl) (by kernel_rfl) (by kernel_rfl) (fun _ _ _ h => h) (Or.inl ⟨by rfl, ?_⟩) hHeld hDn (fun hDn' => ?_)
              rotate_left
              · (intro w hSw; (try dsimp only at hSw); go_simp; (try with_reducible rfl))
              clear hDn; have hDn := hDn'; clear hDn'
              simp only [Act.put, List.setIfInBounds_toArray, List.set_cons_zero, List.set_cons_succ]
              refine wpT_takeW (i := 56) (t := 59) (v := ?_) rfl rfl rfl (by kernel_rfl) (by kernel_rfl) (by kernel_rfl) (fun _ _ _ h => h) (Or.inl ⟨by rfl, ?_⟩) hHeld hDn (fun hDn' => ?_)
              rotate_left
              · (intro w _; go_simp; (try with_reducible rfl))
              clear hDn; have hDn := hDn'; clear hDn'
              simp only [Act.put, List.setIfInBounds_toArray, List.set_cons_zero, List.set_cons_succ]
              refine wpT_takeW (i := 57) (t := 60) (v := ?_) rfl rfl rfl (by kernel_rfl) (by kernel_rfl) (by kernel_rfl) (fun _ _ _ h => h) (Or.inl ⟨by rfl, ?_⟩) hHeld hDn (fun hDn' => ?_)
              rotate_left
              · (intro w _; go_simp; (try with_reducible rfl))
              clear hDn; have hDn := hDn'; clear hDn'
              simp only [Act.put, List.setIfInBounds_toArray, List.set_cons_zero, List.set_cons_succ]
              refine wpT_takeW (i := 58) (t := 61) (v := ?_) rfl rfl rfl (by kernel_rfl) (by kernel_rfl) (by kernel_rfl) (fun _ _ _ h => h) (Or.inl ⟨by rfl, ?_⟩) hHeld hDn (fun hDn' => ?_)
              rotate_left
              · (intro w _; go_simp; (try with_reducible rfl))
              clear hDn; have hDn := hDn'; clear hDn'
              simp only [Act.put, List.setIfInBounds_toArray, List.set_cons_zero, List.set_cons_succ]
              refine wpT_takeU (i := 59) (t := 62) (v := ?_) rfl rfl rfl (by kernel_rfl) (by kernel_rfl) (by kernel_rfl) (by kernel_rfl) (fun _ _ _ h => h) (Or.inl ⟨by rfl, ?_⟩) hHeld hDn (fun hDn' => ?_)
              rotate_left
              · (intro w hSw; (try dsimp only at hSw); go_simp; (try with_reducible rfl))
              clear hDn; have hDn := hDn'; clear hDn'
              simp only [Act.put, List.setIfInBounds_toArray, List.set_cons_zero, List.set_cons_succ]
              refine wpT_one (i := 55) rfl (by kernel_rfl) hDn (fun K' hK => ?_)
              go_simp
              with_reducible refine (WL.out _ K.out).mono ?_
              rintro e w7 ⟨rfl, k7⟩
              have K2 := Lib.hid (K.out.trans k7)
              clear K k7
              have K := K2
              clear K2
              refine hK.out _ _ ?_ (fun hHeld2 hDn2 => ?_)
              · exact QX.out _ K.out
              clear hK K' hHeld hDn
              have hHeld := hHeld2; have hDn := hDn2
              clear hHeld2 hDn2
              as_aux_lemma =>
                refine wpT_one (i := 60) rfl (by kernel_rfl) hDn (fun K' hK => ?_)
                go_simp
                with_reducible refine (XL.out _).mono ?_
                rintro e w8 ⟨rfl, k8⟩
                have K2 := Lib.hid (K.out.trans k8)
                clear K k8
                have K := K2
                clear K2
                refine hK.out _ _ ?_ (fun hHeld2 hDn2 => ?_)
                · exact QX.out _ K.out
                clear hK K' hHeld hDn
                have hHeld := hHeld2; have hDn := hDn2
                clear hHeld2 hDn2
                as_aux_lemma =>
                  refine wpT_takeW (i := 61) (t := 64) (v := ?_) rfl rfl rfl (by kernel_rfl) (by kernel_rfl) (by kernel_rfl) (fun _ _ _ h => h) (Or.inl ⟨by rfl, ?_⟩) hHeld hDn (fun hDn' => ?_)
                  rotate_left
                  · (intro w _; go_simp; (try with_reducible rfl))
                  clear hDn; have hDn := hDn'; clear hDn'
                  simp only [Act.put, List.setIfInBounds_toArray, List.set_cons_zero, List.set_cons_succ]
                  refine wpT_takeW (i := 62) (t := 65) (v := ?_) rfl rfl rfl (by kernel_rfl) (by kernel_rfl) (by kernel_rfl) (fun _ _ _ h => h) (Or.inl ⟨by rfl, ?_⟩) hHeld hDn (fun hDn' => ?_)
                  rotate_left
                  · (intro w _; go_simp; (try with_reducible rfl))
                  clear hDn; have hDn := hDn'; clear hDn'
                  simp only [Act.put, List.setIfInBounds_toArray, List.set_cons_zero, List.set_cons_succ]
                  refine wpT_takeW (i := 63) (t := 66) (v := ?_) rfl rfl rfl (by kernel_rfl) (by kernel_rfl) (by kernel_rfl) (fun _ _ _ h => h) (Or.inl ⟨by rfl, ?_⟩) hHeld hDn (fun hDn' => ?_)
                  rotate_left
                  · (intro w _; go_simp; (try with_reducible rfl))
                  clear hDn; have hDn := hDn'; clear hDn'
                  simp only [Act.put, List.setIfInBounds_toArray, List.set_cons_zero, List.set_cons_succ]
                  refine wpT_takeW (i := 64) (t := 67) (v := ?_) rfl rfl rfl (by kernel_rfl) (by kernel_rfl) (by kernel_rfl) (fun _ _ _ h => h) (Or.inl ⟨by rfl, ?_⟩) hHeld hDn (fun hDn' => ?_)
                  rotate_left
                  · (intro w _; go_simp; (try with_reducible rfl))
                  clear hDn; have hDn := hDn'; clear hDn'
                  simp only [Act.put, List.setIfInBounds_toArray, List.set_cons_zero, List.set_cons_succ]
                  refine wpT_takeW (i := 65) (t := 68) (v := ?_) rfl rfl rfl (by kernel_rfl) (by kernel_rfl) (by kernel_rfl) (fun _ _ _ h => h) (Or.inl ⟨by rfl, ?_⟩) hHeld hDn (fun hDn' => ?_)
                  rotate_left
                  · (intro w _; go_simp; (try with_reducible rfl))
                  clear hDn; have hDn := hDn'; clear hDn'
                  simp only [Act.put, List.setIfInBounds_toArray, List.set_cons_zero, List.set_cons_succ]
                  refine wpT_takeW (i := 66) (t := 69) (v := ?_) rfl rfl rfl (by kernel_rfl) (by kernel_rfl) (by kernel_rfl) (fun _ _ _ h => h) (Or.inl ⟨by rfl, ?_⟩) hHeld hDn (fun hDn' => ?_)
                  rotate_left
                  · (intro w _; go_simp; (try with_reducible rfl))
                  clear hDn; have hDn := hDn'; clear hDn'
                  simp only [Act.put, List.setIfInBounds_toArray, List.set_cons_zero, List.set_cons_succ]
                  refine wpT_takeU (i := 67) (t := 70) (v := ?_) rfl rfl rfl (by kernel_rfl) (by kernel_rfl) (by kernel_rfl) (by kernel_rfl) (fun _ _ _ h => h) (Or.inl ⟨by rfl, ?_⟩) hHeld hDn (fun hDn' => ?_)
                  rotate_left
                  · (intro w hSw; (try dsimp only at hSw); go_simp; (try with_reducible rfl))
                  clear hDn; have hDn := hDn'; clear hDn'
                  simp only [Act.put, List.setIfInBounds_toArray, List.set_cons_zero, List.set_cons_succ]
                  refine wpT_takeW (i := 69) (t := 72) (v := ?_) rfl rfl rfl (by kernel_rfl) (by kernel_rfl) (by kernel_rfl) (fun _ _ _ h => h) (Or.inl ⟨by rfl, ?_⟩) hHeld hDn (fun hDn' => ?_)
                  rotate_left
                  · (intro w _; go_simp; (try with_reducible rfl))
                  clear hDn; have hDn := hDn'; clear hDn'
                  simp only [Act.put, List.setIfInBounds_toArray, List.set_cons_zero, List.set_cons_succ]
                  refine wpT_takeW (i := 70) (t := 73) (v := ?_) rfl rfl rfl (by kernel_rfl) (by kernel_rfl) (by kernel_rfl) (fun _ _ _ h => h) (Or.inl ⟨by rfl, ?_⟩) hHeld hDn (fun hDn' => ?_)
                  rotate_left
                  · (intro w _; go_simp; (try with_reducible rfl))
                  clear hDn; have hDn := hDn'; clear hDn'
                  simp only [Act.put, List.setIfInBounds_toArray, List.set_cons_zero, List.set_cons_succ]
                  refine wpT_takeW (i := 71) (t := 74) (v := ?_) rfl rfl rfl (by kernel_rfl) (by kernel_rfl) (by kernel_rfl) (fun _ _ _ h => h) (Or.inl ⟨by rfl, ?_⟩) hHeld hDn (fun hDn' => ?_)
                  rotate_left
                  · (intro w _; go_simp; (try with_reducible rfl))
                  clear hDn; have hDn := hDn'; clear hDn'
                  simp only [Act.put, List.setIfInBounds_toArray, List.set_cons_zero, List.set_cons_succ]
                  refine wpT_takeW (i := 72) (t := 75) (v := ?_) rfl rfl rfl (by kernel_rfl) (by kernel_rfl) (by kernel_rfl) (fun _ _ _ h => h) (Or.inl ⟨by rfl, ?_⟩) hHeld hDn (fun hDn' => ?_)
                  rotate_left
                  · (intro w _; go_simp; (try with_reducible rfl))
                  clear hDn; have hDn := hDn'; clear hDn'
                  simp only [Act.put, List.setIfInBounds_toArray, List.set_cons_zero, List.set_cons_succ]
                  refine wpT_takeU (i := 73) (t := 76) (v := ?_) rfl rfl rfl (by kernel_rfl) (by kernel_rfl) (by kernel_rfl) (by kernel_rfl) (fun _ _ _ h => h) (Or.inl ⟨by rfl, ?_⟩) hHeld hDn (fun hDn' => ?_)
                  rotate_left
                  · (intro w hSw; (try dsimp only at hSw); go_simp; (try with_reducible rfl))
                  clear hDn; have hDn := hDn'; clear hDn'
                  simp only [Act.put, List.setIfInBounds_toArray, List.set_cons_zero, List.set_cons_succ]
                  refine wpT_one (i := 68) rfl (by kernel_rfl) hDn (fun K' hK => ?_)
                  go_simp
                  with_reducible refine (WK.out _ K.out).mono ?_
                  rintro e w9 ⟨rfl, rfl⟩
                  refine hK.out _ _ ?_ (fun hHeld2 hDn2 => ?_)
                  · exact QX.out _ K.out
                  clear hK K' hHeld hDn
                  have hHeld := hHeld2; have hDn := hDn2
                  clear hHeld2 hDn2
                  as_aux_lemma =>
                    refine wpT_takeW (i := 74) (t := 77) (v := ?_) rfl rfl rfl (by kernel_rfl) (by kernel_rfl) (by kernel_rfl) (fun _ _ _ h => h) (Or.inl ⟨by rfl, ?_⟩) hHeld hDn (fun hDn' => ?_)
                    rotate_left
                    · (intro w _; go_simp; (try with_reducible rfl))
                    clear hDn; have hDn := hDn'; clear hDn'
                    simp only [Act.put, List.setIfInBounds_toArray, List.set_cons_zero, List.set_cons_succ]
                    refine wpT_takeW (i := 75) (t := 78) (v := ?_) rfl rfl rfl (by kernel_rfl) (by kernel_rfl) (by kernel_rfl) (fun _ _ _ h => h) (Or.inl ⟨by rfl, ?_⟩) hHeld hDn (fun hDn' => ?_)
                    rotate_left
                    · (intro w _; go_simp; (try with_reducible rfl))
                    clear hDn; have hDn := hDn'; clear hDn'
                    simp only [Act.put, List.setIfInBounds_toArray, List.set_cons_zero, List.set_cons_succ]
                    refine wpT_takeW (i := 76) (t := 79) (v := ?_) rfl rfl rfl (by kernel_rfl) (by kernel_rfl) (by kernel_rfl) (fun _ _ _ h => h) (Or.inl ⟨by rfl, ?_⟩) hHeld hDn (fun hDn' => ?_)
                    rotate_left
                    · (intro w _; go_simp; (try with_reducible rfl))
                    clear hDn; have hDn := hDn'; clear hDn'
                    simp only [Act.put, List.setIfInBounds_toArray, List.set_cons_zero, List.set_cons_succ]
                    refine wpT_takeW (i := 77) (t := 80) (v := ?_) rfl rfl rfl (by kernel_rfl) (by kernel_rfl) (by kernel_rfl) (fun _ _ _ h => h) (Or.inl ⟨by rfl, ?_⟩) hHeld hDn (fun hDn' => ?_)
                    rotate_left
                    · (intro w _; go_simp; (try with_reducible rfl))
                    clear hDn; have hDn := hDn'; clear hDn'
                    simp only [Act.put, List.setIfInBounds_toArray, List.set_cons_zero, List.set_cons_succ]
                    refine wpT_takeW (i := 78) (t := 81) (v := ?_) rfl rfl rfl (by kernel_rfl) (by kernel_rfl) (by kernel_rfl) (fun _ _ _ h => h) (Or.inl ⟨by rfl, ?_⟩) hHeld hDn (fun hDn' => ?_)
                    rotate_left
                    · (intro w _; go_simp; (try with_reducible rfl))
                    clear hDn; have hDn := hDn'; clear hDn'
                    simp only [Act.put, List.setIfInBounds_toArray, List.set_cons_zero, List.set_cons_succ]
                    refine wpT_takeW (i := 79) (t := 82) (v := ?_) rfl rfl rfl (by kernel_rfl) (by kernel_rfl) (by kernel_rfl) (fun _ _ _ h => h) (Or.inl ⟨by rfl, ?_⟩) hHeld hDn (fun hDn' => ?_)
                    rotate_left
                    · (intro w _; go_simp; (try with_reducible rfl))
                    clear hDn; have hDn := hDn'; clear hDn'
                    simp only [Act.put, List.setIfInBounds_toArray, List.set_cons_zero, List.set_cons_succ]
                    refine wpT_takeU (i := 80) (t := 83) (v := ?_) rfl rfl rfl (by kernel_rfl) (by kernel_rfl) (by kernel_rfl) (by kernel_rfl) (fun _ _ _ h => h) (Or.inl ⟨by rfl, ?_⟩) hHeld hDn (fun hDn' => ?_)
                    rotate_left
                    · (intro w hSw; (try dsimp only at hSw); go_simp; (try with_reducible rfl))
                    clear hDn; have hDn := hDn'; clear hDn'
                    simp only [Act.put, List.setIfInBounds_toArray, List.set_cons_zero, List.set_cons_succ]
                    refine wpT_takeW (i := 82) (t := 85) (v := ?_) rfl rfl rfl (by kernel_rfl) (by kernel_rfl) (by kernel_rfl) (fun _ _ _ h => h) (Or.inl ⟨by rfl, ?_⟩) hHeld hDn (fun hDn' => ?_)
                    rotate_left
                    · (intro w _; go_simp; (try with_reducible rfl))
                    clear hDn; have hDn := hDn'; clear hDn'
                    simp only [Act.put, List.setIfInBounds_toArray, List.set_cons_zero, List.set_cons_succ]
                    refine wpT_takeW (i := 83) (t := 86) (v := ?_) rfl rfl rfl (by kernel_rfl) (by kernel_rfl) (by kernel_rfl) (fun _ _ _ h => h) (Or.inl ⟨by rfl, ?_⟩) hHeld hDn (fun hDn' => ?_)
                    rotate_left
                    · (intro w _; go_simp; (try with_reducible rfl))
                    clear hDn; have hDn := hDn'; clear hDn'
                    simp only [Act.put, List.setIfInBounds_toArray, List.set_cons_zero, List.set_cons_succ]
                    refine wpT_takeW (i := 84) (t := 87) (v := ?_) rfl rfl rfl (by kernel_rfl) (by kernel_rfl) (by kernel_rfl) (fun _ _ _ h => h) (Or.inl ⟨by rfl, ?_⟩) hHeld hDn (fun hDn' => ?_)
                    rotate_left
                    · (intro w _; go_simp; (try with_reducible rfl))
                    clear hDn; have hDn := hDn'; clear hDn'
                    simp only [Act.put, List.setIfInBounds_toArray, List.set_cons_zero, List.set_cons_succ]
                    refine wpT_takeW (i := 85) (t := 88) (v := ?_) rfl rfl rfl (by kernel_rfl) (by kernel_rfl) (by kernel_rfl) (fun _ _ _ h => h) (Or.inl ⟨by rfl, ?_⟩) hHeld hDn (fun hDn' => ?_)
                    rotate_left
                    · (intro w _; go_simp; (try with_reducible rfl))
                    clear hDn; have hDn := hDn'; clear hDn'
                    simp only [Act.put, List.setIfInBounds_toArray, List.set_cons_zero, List.set_cons_succ]
                    refine wpT_takeU (i := 86) (t := 89) (v := ?_) rfl rfl rfl (by kernel_rfl) (by kernel_rfl) (by kernel_rfl) (by kernel_rfl) (fun _ _ _ h => h) (Or.inl ⟨by rfl, ?_⟩) hHeld hDn (fun hDn' => ?_)
                    rotate_left
                    · (intro w hSw; (try dsimp only at hSw); go_simp; (try with_reducible rfl))
                    clear hDn; have hDn := hDn'; clear hDn'
                    simp only [Act.put, List.setIfInBounds_toArray, List.set_cons_zero, List.set_cons_succ]
                    refine wpT_one (i := 81) rfl (by kernel_rfl) hDn (fun K' hK => ?_)
                    go_simp
                    with_reducible refine (WB.out _ K.out).mono ?_
                    rintro e w9 ⟨rfl, rfl⟩
                    refine hK.out _ _ ?_ (fun hHeld2 hDn2 => ?_)
                    · exact QX.out _ K.out
                    clear hK K' hHeld hDn
                    have hHeld := hHeld2; have hDn := hDn2
                    clear hHeld2 hDn2
                    as_aux_lemma =>
                      refine wpT_takeW (i := 87) (t := 90) (v := ?_) rfl rfl rfl (by kernel_rfl) (by kernel_rfl) (by kernel_rfl) (fun _ _ _ h => h) (Or.inl ⟨by rfl, ?_⟩) hHeld hDn (fun hDn' => ?_)
                      rotate_left
                      · (intro w _; go_simp; (try with_reducible rfl))
                      clear hDn; have hDn := hDn'; clear hDn'
                      simp only [Act.put, List.setIfInBounds_toArray, List.set_cons_zero, List.set_cons_succ]
                      refine wpT_takeW (i := 88) (t := 91) (v := ?_) rfl rfl rfl (by kernel_rfl) (by kernel_rfl) (by kernel_rfl) (fun _ _ _ h => h) (Or.inl ⟨by rfl, ?_⟩) hHeld hDn (fun hDn' => ?_)
                      rotate_left
                      · (intro w _; go_simp; (try with_reducible rfl))
                      clear hDn; have hDn := hDn'; clear hDn'
                      simp only [Act.put, List.setIfInBounds_toArray, List.set_cons_zero, List.set_cons_succ]
                      refine wpT_last rfl (by kernel_rfl) hDn (fun K hK => ?_)
                      go_simp
                      refine hK.out _ _ (fun hDn' => ?_)
                      clear hK K hDn hHeld; have hDn := hDn'; clear hDn'
                      refine wpT_done (by kernel_rfl) ?_ _
                      go_wp2_with fail
                      go_ret
                      exact ⟨rfl, K.out⟩
end
end Go.Proofs.YtlmpkonfclnceaaGreat
