/- The document's log: Sync. -/
import Derived.Test.YtlmpkonfclnceaaGreatRx2
import Derived.Test.YtlmpkonfclnceaaGreatHeldT
namespace Go.Proofs.YtlmpkonfclnceaaGreat
open Go.RowKit Go.Sort

theorem Blk.set5of13 {w : World} {b : Nat} {v0 v1 v2 v3 v4 v5 v6 v7 v8 v9 v10 v11 v12 u0 u1 u2 u3 u4 : Value} {t : TypeId} (h : Blk w b #[v0, v1, v2, v3, v4, v5, v6, v7, v8, v9, v10, v11, v12] t) :
    Blk ((((((w.setCell ⟨b, 0, none⟩ u0).setCell ⟨b, 1, none⟩ u1).setCell ⟨b, 2, none⟩ u2).setCell ⟨b, 3, none⟩ u3).setCell ⟨b, 4, none⟩ u4)) b #[u0, u1, u2, u3, u4, v5, v6, v7, v8, v9, v10, v11, v12] t := by
  have h0 : Blk _ b #[u0, v1, v2, v3, v4, v5, v6, v7, v8, v9, v10, v11, v12] t := h.set 0 u0
  have h1 : Blk _ b #[u0, u1, v2, v3, v4, v5, v6, v7, v8, v9, v10, v11, v12] t := h0.set 1 u1
  have h2 : Blk _ b #[u0, u1, u2, v3, v4, v5, v6, v7, v8, v9, v10, v11, v12] t := h1.set 2 u2
  have h3 : Blk _ b #[u0, u1, u2, u3, v4, v5, v6, v7, v8, v9, v10, v11, v12] t := h2.set 3 u3
  have h4 : Blk _ b #[u0, u1, u2, u3, u4, v5, v6, v7, v8, v9, v10, v11, v12] t := h3.set 4 u4
  exact h4
/-- Sectors that lie apart from the variables. -/
def AwayS (x : Nat) (P : Nat → Prop) (a : Option Addr) (s : List Sec) : Prop := (s = [] ∨ ∀ y, a = some y → y.block ≠ x ∧ y.block ≠ x + 1) ∧ ∀ y, a = some y → P y.block
def SyPost (w : World) (P : Nat → Prop) (R : Lg × Dsk × Nat) (r : Ending) (w' : World) : Prop :=
  (∃ a' c' ha' hc' wa' wc', r = .returned (.tuple #[.agg (lgV a' c' R.2.1 R.1 ha' hc' wa' wc'), .int .i64 (R.2.2 : Nat)]) ∧ RLog w' P a' R.2.1 R.1 ha' hc' wa' wc') ∧ Same w w'
section
attribute [local go_sem ↓] exec_app semAt_app
attribute [local go_sem] isApp_lit appA appX
set_option maxRecDepth 100000 in
set_option maxHeartbeats 4000000 in
theorem rx_sync {w : World} {P : Nat → Prop} {a : Option Addr} {c : Nat} {D : Dsk} {L : Lg} {ha : Option Addr} {hc : Nat} {wa : Option Addr} {wc : Nat} (hP : ∀ j, w.heap.size ≤ j → P j) (h : RLog w P a D L ha hc wa wc) (hD : D.OK) (hok : LOK L D.s.length) :
    Calls Tryz.prog 30 #[.agg (lgV a c D L ha hc wa wc)] w (SyPost w P (syncL L D)) := by
  have HI := Lib.hid h
  have HP := Lib.hid hP
  have HD := Lib.hid hD
  have OK := Lib.hid hok
  obtain ⟨R, hR⟩ : ∃ R, syncL L D = R := ⟨_, rfl⟩
  rw [hR]
  have HR := Lib.hid hR
  clear h hP hD hok hR
  unfold lgV
  go_enter Tryz.func30, Tryz.ntmps30
  go_upto_region 1 with fail
  refine cutWl (fun wn => Fr wn [(w.heap.size, #[.slice a D.s.length c, .bool D.off, .int .i64 D.calls, .int .i64 D.after, .bool D.done, .int .i64 (L.first : Nat), .int .i64 (L.count : Nat), .int .i64 (L.epoch : Nat), .int .i64 (L.at_ : Nat), .slice ha L.has.length hc, .slice wa L.wait.length wc, .bool L.closed, .bool L.bad], 48), (w.heap.size + 1, #[.slice none 0 0, .bool false, .int .i64 0, .int .i64 0, .bool false, .int .i64 0, .int .i64 0, .int .i64 0, .int .i64 0, .slice none 0 0, .slice none 0 0, .bool false, .bool false], 48)] ∧ Same w wn) ⟨⟨(Blk.new _ _ _).alloc _, Blk.new' _ _ _ (by simp), trivial⟩, ((Kept.refl _ _).alloc _).alloc _⟩ ?_
  rintro W ⟨hfr, hk⟩
  obtain ⟨p0, f0, p1, f1, -⟩ := hfr.rules
  have z0 := hfr.1.lt
  have z1 := hfr.2.1.lt
  have F := Lib.hid hfr
  have K := Lib.hid hk
  clear hfr hk
  by_cases hb : L.bad = true
  · have e1 : R = (L, D, 11) := by rw [← HR.out]; unfold syncL aliveE; rw [hb]; rfl
    subst e1
    rw [hb] at p0 F
    go_wp2_with fail
    refine bodyPost_ret (results_two_tmp rfl _ _ (w.heap.size + 1) _ _ _ rfl (Blk.set13 F.out.2.1) Tryz.underlying48 rfl (by kernel_rfl)) rfl ?_
    refine ⟨⟨a, c, ha, hc, wa, wc, ?_, HI.out.same ?_⟩, ?_⟩
    · unfold lgV; rw [hb]; rfl
    · (repeat (first | with_reducible exact K.out | with_reducible refine Kept.setNew ?_ (by dsimp only; omega) _))
    · (repeat (first | with_reducible exact K.out | with_reducible refine Kept.setNew ?_ (by dsimp only; omega) _))
  have hb' : L.bad = false := by cases h : L.bad with | false => rfl | true => exact absurd h hb
  rw [hb'] at p0 F
  by_cases hcl : L.closed = true
  · have e1 : R = (L, D, 11) := by rw [← HR.out]; unfold syncL aliveE; rw [hcl, hb']; rfl
    subst e1
    rw [hcl] at p0 F
    go_wp2_with fail
    refine bodyPost_ret (results_two_tmp rfl _ _ (w.heap.size + 1) _ _ _ rfl (Blk.set13 F.out.2.1) Tryz.underlying48 rfl (by kernel_rfl)) rfl ?_
    refine ⟨⟨a, c, ha, hc, wa, wc, ?_, HI.out.same ?_⟩, ?_⟩
    · unfold lgV; rw [hb', hcl]; rfl
    · (repeat (first | with_reducible exact K.out | with_reducible refine Kept.setNew ?_ (by dsimp only; omega) _))
    · (repeat (first | with_reducible exact K.out | with_reducible refine Kept.setNew ?_ (by dsimp only; omega) _))
  have hcl' : L.closed = false := by cases h : L.closed with | false => rfl | true => exact absurd h hcl
  rw [hcl'] at p0 F
  have hal : aliveE L = 0 := by unfold aliveE; rw [hcl', hb']; rfl
  by_cases hw : L.wait = []
  · have e1 : R = (L, D, 0) := by rw [← HR.out]; unfold syncL; rw [hal, if_neg (by decide), if_pos hw]
    subst e1
    have hwl : L.wait.length = 0 := by rw [hw]; rfl
    rw [hwl] at p0 F
    clear hw
    go_wp2_with fail
    refine bodyPost_ret (results_two_tmp rfl _ _ (w.heap.size + 1) _ _ _ rfl (Blk.set13 F.out.2.1) Tryz.underlying48 rfl (by kernel_rfl)) rfl ?_
    refine ⟨⟨a, c, ha, hc, wa, wc, ?_, HI.out.same ?_⟩, ?_⟩
    · unfold lgV; rw [hb', hcl', hwl]; rfl
    · (repeat (first | with_reducible exact K.out | with_reducible refine Kept.setNew ?_ (by dsimp only; omega) _))
    · (repeat (first | with_reducible exact K.out | with_reducible refine Kept.setNew ?_ (by dsimp only; omega) _))
  have hwl : ¬ (L.wait.length : Int) = 0 := by
    have : L.wait.length ≠ 0 := fun q => hw (List.eq_nil_of_length_eq_zero q)
    omega
  have hwb : ((L.wait.length : Int) == 0) = false := by simpa using hwl
  have hroom := OK.out.room hcl'
  have hcnt := OK.out.cnt
  have hring := OK.out.ring
  have few := HD.out.few
  have PK := Lib.hid fun w' (kk : Same w w') => rq_pack L.epoch L.at_ OK.out.ep wa L.wait.length wc L.wait rfl OK.out.wl OK.out.short OK.out.wb (by omega) w' (HI.out.wt.same kk)
  have e1 : R = if (wrSync D (L.first + L.at_) (packS L.epoch L.at_ L.wait)).2 = 0 then
    ({ L with at_ := L.at_ + prt L.wait, has := L.has ++ L.wait, wait := [] }, (wrSync D (L.first + L.at_) (packS L.epoch L.at_ L.wait)).1, 0)
    else ({ L with bad := true }, wrSync D (L.first + L.at_) (packS L.epoch L.at_ L.wait)) := by
    rw [← HR.out]; unfold syncL; rw [hal, if_neg (by decide), if_neg hw]
  have WB : Hid (∀ x ∈ packS L.epoch L.at_ L.wait, Bts x) := fun x hx => packL_bts (gs_ok OK.out.short OK.out.wb) _ x hx
  have WL : Hid ((packS L.epoch L.at_ L.wait).length = prt L.wait) := packS_len _ _ _
  obtain ⟨cs, hcs⟩ : ∃ cs, packS L.epoch L.at_ L.wait = cs := ⟨_, rfl⟩
  rw [hcs] at e1 WB WL
  simp only [hcs] at PK
  have HRR := Lib.hid e1
  clear e1 hw hal hcs
  go_wp2_with fail
  with_reducible refine (PK.out _ K.out).mono ?_
  rintro r w4 ⟨⟨v4, rfl, ro4⟩, k4⟩
  have RO4 := Lib.hid ro4
  obtain ⟨ra4, rc4, rfl, hrc4⟩ := ro4.len
  have K4 := Lib.hid (K.out.trans k4)
  have F4 := Lib.hid (F.out.same k4)
  have hWz : w.heap.size + 1 < W.heap.size := z1
  have hs4 := k4.size
  obtain ⟨n, hn⟩ : ∃ n, cs.length = n := ⟨_, rfl⟩
  have hnp : n = prt L.wait := by rw [← hn]; exact WL.out
  have AW0 : Hid (AwayS w.heap.size P a D.s) := ⟨(secsAt_lt HI.out.s).imp_right (fun q y hy => by have := q y hy; omega), HI.out.pa⟩
  have HN := Lib.hid hn
  have HNP := Lib.hid hnp
  have hn256 : n ≤ 256 := by omega
  rw [hn]
  clear ro4 k4 PK p0 f0 p1 f1 z0 z1 F K hn hnp
  obtain ⟨p0, f0, p1, f1, -⟩ := F4.out.rules
  have z0 := F4.out.1.lt
  have z1 := F4.out.2.1.lt
  obtain ⟨G, hG⟩ : ∃ G, L.first + L.at_ = G := ⟨_, rfl⟩
  have HG := Lib.hid hG
  obtain ⟨Q, hQ⟩ : ∃ Q, wrW D G cs = Q := ⟨_, rfl⟩
  have HQ := Lib.hid hQ
  have HGI : Hid ((L.first : Int) + (L.at_ : Int) = (G : Int)) := by show _ = _; omega
  have hGl : G + n ≤ 4096 := by have := HNP.out; omega
  clear hQ hG
  go_wp2_with fail
  go_loopw [6, 7] (fun ev t wr => ∃ (i E' : Nat) (D' : Dsk) (a' : Option Addr) (c' : Nat), t = .int .i64 i ∧ ev = .int .i64 (E' : Nat) ∧ i ≤ n ∧ ((E' = 0 ∧ wrW D G (cs.take i) = (D', 0)) ∨ (E' ≠ 0 ∧ Q = (D', E'))) ∧ D'.OK ∧ D'.s.length = D.s.length ∧ SecsAt wr a' D'.s ∧ AwayS w.heap.size P a' D'.s ∧ Fr wr [(w.heap.size, #[.slice a' D'.s.length c', .bool D'.off, .int .i64 D'.calls, .int .i64 D'.after, .bool D'.done, .int .i64 (L.first : Nat), .int .i64 (L.count : Nat), .int .i64 (L.epoch : Nat), .int .i64 (L.at_ : Nat), .slice ha L.has.length hc, .slice wa L.wait.length wc, .bool false, .bool false], 48), (w.heap.size + 1, #[.slice none 0 0, .bool false, .int .i64 0, .int .i64 0, .bool false, .int .i64 0, .int .i64 0, .int .i64 0, .int .i64 0, .slice none 0 0, .slice none 0 0, .bool false, .bool false], 48)] ∧ Kept (fun j => j = w.heap.size) w4 wr ∧ Same w wr) (fun _ t _ => n - (intOf t).toNat)
  case atStart => exact ⟨0, 0, D, a, c, rfl, rfl, by omega, .inl ⟨rfl, rfl⟩, HD.out, rfl, HI.out.s.kept K4.out (.inr (fun _ _ h => h)), AW0.out, F4.out, Kept.refl _ _, K4.out⟩
  case round =>
    clear F4 K4 p0 f0 p1 f1 z0 z1
    obtain ⟨i, E', D', a', c', rfl, rfl, hi, hst, hok', hlen', hsec, haw, hfr, hk4, hk⟩ := hrel
    have ST := Lib.hid hst; have OK' := Lib.hid hok'; have LEN := Lib.hid hlen'; have SEC := Lib.hid hsec; have AW := Lib.hid haw; have F := Lib.hid hfr; have KF := Lib.hid hk4; have K := Lib.hid hk
    have RO := Lib.hid (RO4.out.kept hk4 (fun j hj q => by omega))
    have hks4 := hk4.size
    clear hst hok' hlen' hsec haw hfr hk4 hk
    obtain ⟨p0, f0, p1, f1, -⟩ := F.out.rules; have z0 := F.out.1.lt; have z1 := F.out.2.1.lt
    by_cases he0 : E' = 0
    · subst he0
      have WR : Hid (wrW D G (cs.take i) = (D', 0)) := by
        rcases ST.out with q | q
        · exact q.2
        · exact absurd rfl q.1
      clear ST
      by_cases hgo : i < n
      · obtain ⟨rb, ro, ra, rn, rc, x, rfl, hrb, hrbb, hx, hcx, hrow⟩ := RO.out.get (i := i) (by have := HN.out; omega)
        have g1 : (i : Int) < (n : Int) := by omega
        have g0 : (0 : Int) ≤ (i : Int) := by omega
        have hst := wrW_snoc_ok D G (cs.take i) x (by rw [WR.out])
        rw [← take_succ_chunk hx, WR.out, List.length_take, show min i cs.length = i from by have := HN.out; omega] at hst
        have hsp : cs = cs.take (i + 1) ++ cs.drop (i + 1) := (List.take_append_drop _ _).symm
        have CB := WB.out x (List.mem_of_getElem? hx)
        have WOK := Lib.hid (writeD_ok OK'.out ((G + i : Nat) : Int) CB)
        have WLN := Lib.hid ((writeD_len D' ((G + i : Nat) : Int) x).trans LEN.out)
        have SW := Lib.hid fun w' (kk : Same wr w') => rs_write a' D'.s.length c' D' rfl OK'.out.few OK'.out.aft ((G + i : Nat) : Int) ra rn rc x hrow.len w' (SEC.out.kept kk (.inr (fun _ _ h => h))) (hrow.at_.same kk)
        obtain ⟨V, hV⟩ : ∃ V, writeD D' ((G + i : Nat) : Int) x = V := ⟨_, rfl⟩
        rw [hV] at hst WOK WLN
        simp only [hV] at SW
        have HNX : Hid ((V.2 = 0 ∧ wrW D G (cs.take (i + 1)) = (V.1, 0)) ∨ (V.2 ≠ 0 ∧ Q = (V.1, V.2))) := by
          by_cases hw0 : V.2 = 0
          · exact .inl ⟨hw0, by rw [hst, ← hw0]⟩
          · refine .inr ⟨hw0, HQ.out.symm.trans ?_⟩
            rw [hsp, wrW_err _ _ _ _ (by rw [hst]; exact hw0), hst]
        have KN := Lib.hid (Kept.refl (fun _ => False) wr)
        rw [Int.natCast_add] at SW
        simp only [refV] at SW
        have ex0 : (L.first : Int) + (L.at_ : Int) = (G : Int) := HGI.out
        have ex1 : IntKind.i64.wrap ((L.first : Int) + (L.at_ : Int)) = (G : Int) := by rw [ex0]; exact IntWalk.i64_in _ (by omega)
        have ex2 : IntKind.i64.wrap ((G : Int) + (i : Int)) = (G : Int) + (i : Int) := IntWalk.i64_in _ (by omega)
        have hc9 : ∀ w', Same wr w' → w'.cell? ⟨rb, ro + i, none⟩ = some (.slice ra rn rc) := fun w' kk => (kk.cell (p := ⟨rb, ro + i, none⟩) hrb (fun h => h)).trans hcx
        have HC9 := Lib.hid hc9
        clear hst hsp hV CB ex0 hc9 hrow hx
        go_wp2_with fail
        have QQ : Hid (∀ w', Same wr w' → ((∀ i, w'.cell? ⟨w.heap.size, i, none⟩ = (#[.slice a' D'.s.length c', .bool D'.off, .int .i64 D'.calls, .int .i64 D'.after, .bool D'.done, .int .i64 (L.first : Nat), .int .i64 (L.count : Nat), .int .i64 (L.epoch : Nat), .int .i64 (L.at_ : Nat), .slice ha L.has.length hc, .slice wa L.wait.length wc, .bool false, .bool false] : Array Value)[i]?) ∧ w'.cell? ⟨rb, ro + i, none⟩ = some (.slice ra rn rc))) := fun w' kk => ⟨cell_blk (F.out.1.kept kk (fun h => h)), HC9.out w' kk⟩
        refine wp_region_T (S := fun w' => ((∀ i, w'.cell? ⟨w.heap.size, i, none⟩ = (#[.slice a' D'.s.length c', .bool D'.off, .int .i64 D'.calls, .int .i64 D'.after, .bool D'.done, .int .i64 (L.first : Nat), .int .i64 (L.count : Nat), .int .i64 (L.epoch : Nat), .int .i64 (L.at_ : Nat), .slice ha L.has.length hc, .slice wa L.wait.length wc, .bool false, .bool false] : Array Value)[i]?) ∧ w'.cell? ⟨rb, ro + i, none⟩ = some (.slice ra rn rc))) 18 (by kernel_rfl) (QQ.out _ (Kept.refl _ _).drew) (fun hHeld hDn => ?_)
        refine wpT_take (i := 0) (t := 42) (v := ?_) rfl rfl rfl (by kernel_rfl) (by kernel_rfl) (by kernel_rfl) (by kernel_rfl) (fun _ _ _ h => h) (Or.inl ⟨by rfl, ?_⟩) hHeld hDn (fun hDn' => ?_)
        rotate_left
        · (intro w hSw; (try dsimp only at hSw); go_simp; (try with_reducible rfl))
        clear hDn; have hDn := hDn'; clear hDn'
        simp only [Act.put, List.setIfInBounds_toArray, List.set_cons_zero, List.set_cons_succ]
        refine wpT_take (i := 1) (t := 43) (v := ?_) rfl rfl rfl (by kernel_rfl) (by kernel_rfl) (by kernel_rfl) (by kernel_rfl) (fun _ _ _ h => h) (Or.inl ⟨by rfl, ?_⟩) hHeld hDn (fun hDn' => ?_)
        rotate_left
        · (intro w hSw; (try dsimp only at hSw); go_simp; (try with_reducible rfl))
        clear hDn; have hDn := hDn'; clear hDn'
        simp only [Act.put, List.setIfInBounds_toArray, List.set_cons_zero, List.set_cons_succ]
        refine wpT_take (i := 2) (t := 44) (v := ?_) rfl rfl rfl (by kernel_rfl) (by kernel_rfl) (by kernel_rfl) (by kernel_rfl) (fun _ _ _ h => h) (Or.inl ⟨by rfl, ?_⟩) hHeld hDn (fun hDn' => ?_)
        rotate_left
        · (intro w hSw; (try dsimp only at hSw); go_simp; (try with_reducible rfl))
        clear hDn; have hDn := hDn'; clear hDn'
        simp only [Act.put, List.setIfInBounds_toArray, List.set_cons_zero, List.set_cons_succ]
        refine wpT_take (i := 3) (t := 45) (v := ?_) rfl rfl rfl (by kernel_rfl) (by kernel_rfl) (by kernel_rfl) (by kernel_rfl) (fun _ _ _ h => h) (Or.inl ⟨by rfl, ?_⟩) hHeld hDn (fun hDn' => ?_)
        rotate_left
        · (intro w hSw; (try dsimp only at hSw); go_simp; (try with_reducible rfl))
        clear hDn; have hDn := hDn'; clear hDn'
        simp only [Act.put, List.setIfInBounds_toArray, List.set_cons_zero, List.set_cons_succ]
        refine wpT_take (i := 4) (t := 46) (v := ?_) rfl rfl rfl (by kernel_rfl) (by kernel_rfl) (by kernel_rfl) (by kernel_rfl) (fun _ _ _ h => h) (Or.inl ⟨by rfl, ?_⟩) hHeld hDn (fun hDn' => ?_)
        rotate_left
        · (intro w hSw; (try dsimp only at hSw); go_simp; (try with_reducible rfl))
        clear hDn; have hDn := hDn'; clear hDn'
        simp only [Act.put, List.setIfInBounds_toArray, List.set_cons_zero, List.set_cons_succ]
        refine wpT_take (i := 5) (t := 47) (v := ?_) rfl rfl rfl (by kernel_rfl) (by kernel_rfl) (by kernel_rfl) (by kernel_rfl) (fun _ _ _ h => h) (Or.inl ⟨by rfl, ?_⟩) hHeld hDn (fun hDn' => ?_)
        rotate_left
        · (intro w hSw; (try dsimp only at hSw); go_simp; (try with_reducible rfl))
        clear hDn; have hDn := hDn'; clear hDn'
        simp only [Act.put, List.setIfInBounds_toArray, List.set_cons_zero, List.set_cons_succ]
        refine wpT_take (i := 6) (t := 48) (v := ?_) rfl rfl rfl (by kernel_rfl) (by kernel_rfl) (by kernel_rfl) (by kernel_rfl) (fun _ _ _ h => h) (Or.inl ⟨by rfl, ?_⟩) hHeld hDn (fun hDn' => ?_)
        rotate_left
        · (intro w hSw; (try dsimp only at hSw); go_simp; (try with_reducible rfl))
        clear hDn; have hDn := hDn'; clear hDn'
        simp only [Act.put, List.setIfInBounds_toArray, List.set_cons_zero, List.set_cons_succ]
        refine wpT_take (i := 7) (t := 49) (v := ?_) rfl rfl rfl (by kernel_rfl) (by kernel_rfl) (by kernel_rfl) (by kernel_rfl) (fun _ _ _ h => h) (Or.inl ⟨by rfl, ?_⟩) hHeld hDn (fun hDn' => ?_)
        rotate_left
        · (intro w hSw; (try dsimp only at hSw); go_simp; (try with_reducible rfl))
        clear hDn; have hDn := hDn'; clear hDn'
        simp only [Act.put, List.setIfInBounds_toArray, List.set_cons_zero, List.set_cons_succ]
        refine wpT_take (i := 8) (t := 50) (v := ?_) rfl rfl rfl (by kernel_rfl) (by kernel_rfl) (by kernel_rfl) (by kernel_rfl) (fun _ _ _ h => h) (Or.inl ⟨by rfl, ?_⟩) hHeld hDn (fun hDn' => ?_)
        rotate_left
        · (intro w hSw; (try dsimp only at hSw); go_simp; (try with_reducible rfl))
        clear hDn; have hDn := hDn'; clear hDn'
        simp only [Act.put, List.setIfInBounds_toArray, List.set_cons_zero, List.set_cons_succ]
        refine wpT_take (i := 9) (t := 51) (v := ?_) rfl rfl rfl (by kernel_rfl) (by kernel_rfl) (by kernel_rfl) (by kernel_rfl) (fun _ _ _ h => h) (Or.inl ⟨by rfl, ?_⟩) hHeld hDn (fun hDn' => ?_)
        rotate_left
        · (intro w hSw; (try dsimp only at hSw); go_simp; (try with_reducible rfl))
        clear hDn; have hDn := hDn'; clear hDn'
        simp only [Act.put, List.setIfInBounds_toArray, List.set_cons_zero, List.set_cons_succ]
        refine wpT_take (i := 10) (t := 52) (v := ?_) rfl rfl rfl (by kernel_rfl) (by kernel_rfl) (by kernel_rfl) (by kernel_rfl) (fun _ _ _ h => h) (Or.inl ⟨by rfl, ?_⟩) hHeld hDn (fun hDn' => ?_)
        rotate_left
        · (intro w hSw; (try dsimp only at hSw); go_simp; (try with_reducible rfl))
        clear hDn; have hDn := hDn'; clear hDn'
        simp only [Act.put, List.setIfInBounds_toArray, List.set_cons_zero, List.set_cons_succ]
        refine wpT_take (i := 11) (t := 53) (v := ?_) rfl rfl rfl (by kernel_rfl) (by kernel_rfl) (by kernel_rfl) (by kernel_rfl) (fun _ _ _ h => h) (Or.inl ⟨by rfl, ?_⟩) hHeld hDn (fun hDn' => ?_)
        rotate_left
        · (intro w hSw; (try dsimp only at hSw); go_simp; (try with_reducible rfl))
        clear hDn; have hDn := hDn'; clear hDn'
        simp only [Act.put, List.setIfInBounds_toArray, List.set_cons_zero, List.set_cons_succ]
        refine wpT_take (i := 12) (t := 54) (v := ?_) rfl rfl rfl (by kernel_rfl) (by kernel_rfl) (by kernel_rfl) (by kernel_rfl) (fun _ _ _ h => h) (Or.inl ⟨by rfl, ?_⟩) hHeld hDn (fun hDn' => ?_)
        rotate_left
        · (intro w hSw; (try dsimp only at hSw); go_simp; (try with_reducible rfl))
        clear hDn; have hDn := hDn'; clear hDn'
        simp only [Act.put, List.setIfInBounds_toArray, List.set_cons_zero, List.set_cons_succ]
        refine wpT_one (i := 13) rfl (by kernel_rfl) hDn (fun K hK => ?_)
        go_simp
        refine (SW.out _ (by first | with_reducible exact KN.out | with_reducible exact KN.out.drew)).mono ?_
        rintro e w6 ⟨a6, c6, rfl, ⟨hs6, hf6⟩, k6⟩
        have HS6 := Lib.hid hs6; have HF6 := Lib.hid hf6
        have KN' := Lib.hid (show Same wr w6 from Kept.trans (by first | with_reducible exact KN.out | with_reducible exact KN.out.drew) k6)
        clear KN hs6 hf6 k6; have KN := KN'; clear KN'
        obtain ⟨q1, e1, -⟩ := (F.out.same KN.out).rules
        have y1 := (F.out.same KN.out).1.lt
        simp only [refV]
        refine hK.out _ _ ?_ (fun hHeld2 hDn2 => ?_)
        · exact QQ.out _ KN.out
        clear hK K hHeld hDn
        have hHeld := hHeld2; have hDn := hDn2
        clear hHeld2 hDn2
        refine wpT_takeW (i := 14) (t := 41) (v := ?_) rfl rfl rfl (by kernel_rfl) (by kernel_rfl) (by kernel_rfl) (fun _ _ _ h => h) (Or.inl ⟨by rfl, ?_⟩) hHeld hDn (fun hDn' => ?_)
        rotate_left
        · (intro w _; go_simp; (try with_reducible rfl))
        clear hDn; have hDn := hDn'; clear hDn'
        simp only [Act.put, List.setIfInBounds_toArray, List.set_cons_zero, List.set_cons_succ]
        refine wpT_takeW (i := 15) (t := 56) (v := ?_) rfl rfl rfl (by kernel_rfl) (by kernel_rfl) (by kernel_rfl) (fun _ _ _ h => h) (Or.inl ⟨by rfl, ?_⟩) hHeld hDn (fun hDn' => ?_)
        rotate_left
        · (intro w _; go_simp; (try with_reducible rfl))
        clear hDn; have hDn := hDn'; clear hDn'
        simp only [Act.put, List.setIfInBounds_toArray, List.set_cons_zero, List.set_cons_succ]
        refine wpT_takeW (i := 16) (t := 57) (v := ?_) rfl rfl rfl (by kernel_rfl) (by kernel_rfl) (by kernel_rfl) (fun _ _ _ h => h) (Or.inl ⟨by rfl, ?_⟩) hHeld hDn (fun hDn' => ?_)
        rotate_left
        · (intro w _; go_simp; (try with_reducible rfl))
        clear hDn; have hDn := hDn'; clear hDn'
        simp only [Act.put, List.setIfInBounds_toArray, List.set_cons_zero, List.set_cons_succ]
        refine wpT_takeW (i := 17) (t := 58) (v := ?_) rfl rfl rfl (by kernel_rfl) (by kernel_rfl) (by kernel_rfl) (fun _ _ _ h => h) (Or.inl ⟨by rfl, ?_⟩) hHeld hDn (fun hDn' => ?_)
        rotate_left
        · (intro w _; go_simp; (try with_reducible rfl))
        clear hDn; have hDn := hDn'; clear hDn'
        simp only [Act.put, List.setIfInBounds_toArray, List.set_cons_zero, List.set_cons_succ]
        refine wpT_last rfl (by kernel_rfl) hDn (fun K hK => ?_)
        go_simp
        refine hK.out _ _ (fun hDn' => ?_)
        clear hK K hDn hHeld; have hDn := hDn'; clear hDn'
        refine wpT_takeE (i := 19) (t := 6) (v := ?_) rfl (by kernel_rfl) rfl rfl (by kernel_rfl) (by kernel_rfl) (by kernel_rfl) (fun _ _ _ h => h) (Or.inl ⟨by rfl, ?_⟩) hDn (fun hDn' => ?_)
        rotate_left
        · (intro w _; go_simp; (try with_reducible rfl))
        clear hDn; have hDn := hDn'; clear hDn'
        simp only [Act.put, List.setIfInBounds_toArray, List.set_cons_zero, List.set_cons_succ]
        refine wpT_done (by kernel_rfl) ?_ _
        have K6 := Lib.hid (K.out.trans KN.out)
        have R6 := Lib.hid (F.out.same KN.out)
        have KF6 := Lib.hid (KF.out.trans (KN.out.mono (fun _ _ q => q.elim)))
        have AW6 : Hid (AwayS w.heap.size P a6 V.1.s) := by
          rcases HF6.out with q | q
          · subst q
            refine ⟨?_, AW.out.2⟩
            rcases AW.out.1 with z | z
            · left
              have h1 := WLN.out
              have h2 := LEN.out
              rw [z] at h2
              exact List.eq_nil_of_length_eq_zero (by rw [h1, ← h2]; rfl)
            · exact .inr z
          · exact ⟨.inr (fun y hy => by have : wr.heap.size ≤ y.block := q y hy; omega), fun y hy => HP.out _ (by have : wr.heap.size ≤ y.block := q y hy; omega)⟩
        clear SW SEC OK' RO WR LEN p0 f0 p1 f1 HF6 QQ HC9 KN F KF AW
        go_wp2_with fail
        go_roundw
        case rel =>
          refine ⟨i + 1, V.2, V.1, a6, c6, by go_num, rfl, by omega, HNX.out, WOK.out, WLN.out, ?_, AW6.out, ⟨?_, ?_, trivial⟩, ?_, ?_⟩
          · refine HS6.out.kept (fp := fun j => j = w.heap.size) ?_ (AW6.out.1.imp_right (fun q y hy => (q y hy).1))
            repeat (first | with_reducible exact Kept.refl _ _ | with_reducible refine Kept.drew ?_ | with_reducible refine Kept.setG ?_ _ _)
          · with_reducible refine Blk.set5of13 (v0 := .slice a' D'.s.length c') (v1 := .bool D'.off) (v2 := .int .i64 D'.calls) (v3 := .int .i64 D'.after) (v4 := .bool D'.done) ?_
            exact R6.out.1
          · refine R6.out.2.1.kept (fp := fun j => j = w.heap.size) ?_ (by omega)
            repeat (first | with_reducible exact Kept.refl _ _ | with_reducible refine Kept.drew ?_ | with_reducible refine Kept.setG ?_ _ _)
          · repeat (first | with_reducible exact KF6.out | with_reducible refine Kept.drew ?_ | with_reducible refine Kept.setG ?_ _ _)
          · repeat (first | with_reducible exact K6.out | with_reducible refine Kept.drew ?_ | with_reducible refine Kept.setNew ?_ (by dsimp only; omega) _)
        case measure => simp [intOf]; omega
      · have e : i = n := by omega
        have h1 : ¬ (i : Int) < (n : Int) := by omega
        have hwq : wrW D G cs = (D', 0) := by
          have := WR.out
          rw [List.take_of_length_le (by have := HN.out; omega)] at this
          exact this
        have SY := Lib.hid fun w' (kk : Same wr w') => rs_sync a' D'.s.length c' D' rfl OK'.out.few OK'.out.aft w' (SEC.out.kept kk (.inr (fun _ _ h => h)))
        have SOK := Lib.hid (syncD_ok OK'.out)
        have SLN := Lib.hid (syncD_len D')
        obtain ⟨V, hV⟩ : ∃ V, syncD D' = V := ⟨_, rfl⟩
        have hws : wrSync D (L.first + L.at_) cs = V := by rw [HG.out]; unfold wrSync; rw [hwq, if_pos rfl, hV]
        simp only [hV] at SY
        rw [hV] at SOK SLN
        have hrv := HRR.out
        rw [hws] at hrv
        have HRV := Lib.hid hrv
        clear hV hws hwq e hrv
        simp only [refV] at SY
        go_wp2_with fail
        refine (SY.out _ (Kept.refl _ _)).mono ?_
        rintro e w6 ⟨a6, c6, rfl, ⟨hs6, hf6⟩, k6⟩
        simp only [refV]
        have HS6 := Lib.hid hs6
        have K6 := Lib.hid (K.out.trans k6)
        have F6 := Lib.hid (F.out.same k6)
        have KF6 := Lib.hid (KF.out.trans (k6.mono (fun _ _ q => q.elim)))
        have AW6 : Hid (AwayS w.heap.size P a6 V.1.s) := by
          rcases hf6 with q | q
          · subst q
            refine ⟨?_, AW.out.2⟩
            rcases AW.out.1 with z | z
            · left
              have h1 := SLN.out
              rw [z] at h1
              exact List.eq_nil_of_length_eq_zero h1
            · exact .inr z
          · exact ⟨.inr (fun y hy => by have : wr.heap.size ≤ y.block := q y hy; omega), fun y hy => HP.out _ (by have : wr.heap.size ≤ y.block := q y hy; omega)⟩
        obtain ⟨q0, r0, q1, r1, -⟩ := F6.out.rules
        have y0 := F6.out.1.lt
        have y1 := F6.out.2.1.lt
        have hs6z := k6.size
        clear SY SEC OK' RO WR p0 f0 p1 f1 z0 z1 hs6 hf6 k6 K F KF AW
        by_cases h0 : V.2 = 0
        · have gV : ((V.2 : Nat) : Int) = 0 := by omega
          have gVn : (((V.2 : Nat) : Int) != 0) = false := by simpa using h0
          have HRV' := HRV.out
          rw [if_pos h0] at HRV'
          have HR1 := Lib.hid HRV'
          clear HRV' HRV h0
          go_wp2_with fail
          refine cutWl (fun wn => Fr wn [(w.heap.size, #[.slice a6 V.1.s.length c6, .bool V.1.off, .int .i64 V.1.calls, .int .i64 V.1.after, .bool V.1.done, .int .i64 (L.first : Nat), .int .i64 (L.count : Nat), .int .i64 (L.epoch : Nat), .int .i64 (L.at_ : Nat), .slice ha L.has.length hc, .slice wa L.wait.length wc, .bool false, .bool false], 48), (w.heap.size + 1, #[.slice none 0 0, .bool false, .int .i64 0, .int .i64 0, .bool false, .int .i64 0, .int .i64 0, .int .i64 0, .int .i64 0, .slice none 0 0, .slice none 0 0, .bool false, .bool false], 48)] ∧ Same w wn ∧ SecsAt wn a6 V.1.s ∧ w6.heap.size ≤ wn.heap.size) ?_ ?_
          · refine ⟨⟨?_, ?_, trivial⟩, ?_, ?_, ?_⟩
            · with_reducible refine Blk.set5of13 (v0 := .slice a' D'.s.length c') (v1 := .bool D'.off) (v2 := .int .i64 D'.calls) (v3 := .int .i64 D'.after) (v4 := .bool D'.done) ?_
              exact F6.out.1
            · refine F6.out.2.1.kept (fp := fun j => j = w.heap.size) ?_ (by omega)
              repeat (first | with_reducible exact Kept.refl _ _ | with_reducible refine Kept.setG ?_ _ _)
            · (repeat (first | with_reducible exact K6.out | with_reducible refine Kept.setNew ?_ (by dsimp only; omega) _))
            · refine HS6.out.kept (fp := fun j => j = w.heap.size) ?_ (AW6.out.1.imp_right (fun q y hy => (q y hy).1))
              repeat (first | with_reducible exact Kept.refl _ _ | with_reducible refine Kept.setG ?_ _ _)
            · refine Kept.size (fp := fun j => j = w.heap.size) ?_
              repeat (first | with_reducible exact Kept.refl _ _ | with_reducible refine Kept.setG ?_ _ _)
          · rintro wn ⟨hfn, hkn, hsn, hszn⟩
            have FN := Lib.hid hfn; have KN := Lib.hid hkn; have SN := Lib.hid hsn
            clear hfn hkn hsn q0 r0 q1 r1 y0 y1 F6 K6 KF6 HS6
            obtain ⟨v5, w5, hr5, o5, k5⟩ := txts_append (w := wn.drew) (OwnE.nil wn.drew wn.heap.size 9) (Nat.le_refl _) ha L.has.length hc L.has rfl (HI.out.has.same (KN.out.drew)) HI.out.hnil (by have := OK.out.hasl; simp; omega)
            rw [List.nil_append] at o5
            have k5' : Same wn w5 := (show Same wn wn.drew from (Kept.refl _ _).drew).trans (k5.mono (fun j _ q => by simp [Value.ownBlock] at q))
            obtain ⟨a5, l5, c5, rfl, hl5, hn5, ha5, hc5⟩ := OwnE.rd o5
            obtain ⟨v7, w7, hr7, o7, k7⟩ := txts_append (w := w5) o5 k5'.size wa L.wait.length wc L.wait rfl (HI.out.wt.same (KN.out.trans k5')) HI.out.wnil (by have := OK.out.hasl; have := OK.out.wl; omega)
            have k7' : Same wn w7 := k5'.step k7 (fun j hj q => by have := (o5.far j q).1; omega)
            obtain ⟨a7, l7, c7, rfl, hl7, hn7, ha7, hc7⟩ := OwnE.rd o7
            have K5' := Lib.hid k5'; have K7' := Lib.hid k7'; have O7 := Lib.hid o7
            obtain ⟨aok5, aV5, aW5⟩ := app_of hr5
            obtain ⟨aok7, aV7, aW7⟩ := app_of hr7
            have QQ : Hid (∀ w', Same wn w' → (∀ i, w'.cell? ⟨w.heap.size, i, none⟩ = (#[.slice a6 V.1.s.length c6, .bool V.1.off, .int .i64 V.1.calls, .int .i64 V.1.after, .bool V.1.done, .int .i64 (L.first : Nat), .int .i64 (L.count : Nat), .int .i64 (L.epoch : Nat), .int .i64 (L.at_ : Nat), .slice ha L.has.length hc, .slice wa L.wait.length wc, .bool false, .bool false] : Array Value)[i]?)) := fun w' kk => cell_blk (FN.out.1.kept kk (fun h => h))
            clear hr5 hr7 o5 o7 k5 k7 k5' k7' ha5 ha7
            refine wp_region_T (S := fun w' => (∀ i, w'.cell? ⟨w.heap.size, i, none⟩ = (#[.slice a6 V.1.s.length c6, .bool V.1.off, .int .i64 V.1.calls, .int .i64 V.1.after, .bool V.1.done, .int .i64 (L.first : Nat), .int .i64 (L.count : Nat), .int .i64 (L.epoch : Nat), .int .i64 (L.at_ : Nat), .slice ha L.has.length hc, .slice wa L.wait.length wc, .bool false, .bool false] : Array Value)[i]?)) 8 (by kernel_rfl) (QQ.out _ (Kept.refl _ _).drew) (fun hHeld hDn => ?_)
            refine wpT_take (i := 0) (t := 73) (v := ?_) rfl rfl rfl (by kernel_rfl) (by kernel_rfl) (by kernel_rfl) (by kernel_rfl) (fun _ _ _ h => h) (Or.inl ⟨by rfl, ?_⟩) hHeld hDn (fun hDn' => ?_)
            rotate_left
            · (intro w hSw; (try dsimp only at hSw); go_simp; (try with_reducible rfl))
            clear hDn; have hDn := hDn'; clear hDn'
            simp only [Act.put, List.setIfInBounds_toArray, List.set_cons_zero, List.set_cons_succ]
            refine wpT_take (i := 1) (t := 74) (v := ?_) rfl rfl rfl (by kernel_rfl) (by kernel_rfl) (by kernel_rfl) (by kernel_rfl) (fun _ _ _ h => h) (Or.inl ⟨by rfl, ?_⟩) hHeld hDn (fun hDn' => ?_)
            rotate_left
            · (intro w hSw; (try dsimp only at hSw); go_simp; (try with_reducible rfl))
            clear hDn; have hDn := hDn'; clear hDn'
            simp only [Act.put, List.setIfInBounds_toArray, List.set_cons_zero, List.set_cons_succ]
            refine wpT_take (i := 2) (t := 75) (v := ?_) rfl rfl rfl (by kernel_rfl) (by kernel_rfl) (by kernel_rfl) (by kernel_rfl) (fun _ _ _ h => h) (Or.inl ⟨by rfl, ?_⟩) hHeld hDn (fun hDn' => ?_)
            rotate_left
            · (intro w hSw; (try dsimp only at hSw); go_simp; (try with_reducible rfl))
            clear hDn; have hDn := hDn'; clear hDn'
            simp only [Act.put, List.setIfInBounds_toArray, List.set_cons_zero, List.set_cons_succ]
            refine wpT_take (i := 4) (t := 77) (v := ?_) rfl rfl rfl (by kernel_rfl) (by kernel_rfl) (by kernel_rfl) (by kernel_rfl) (fun _ _ _ h => h) (Or.inl ⟨by rfl, ?_⟩) hHeld hDn (fun hDn' => ?_)
            rotate_left
            · (intro w hSw; (try dsimp only at hSw); go_simp; (try with_reducible rfl))
            clear hDn; have hDn := hDn'; clear hDn'
            simp only [Act.put, List.setIfInBounds_toArray, List.set_cons_zero, List.set_cons_succ]
            refine wpT_take (i := 5) (t := 78) (v := ?_) rfl rfl rfl (by kernel_rfl) (by kernel_rfl) (by kernel_rfl) (by kernel_rfl) (fun _ _ _ h => h) (Or.inl ⟨by rfl, ?_⟩) hHeld hDn (fun hDn' => ?_)
            rotate_left
            · (intro w hSw; (try dsimp only at hSw); go_simp; (try with_reducible rfl))
            clear hDn; have hDn := hDn'; clear hDn'
            simp only [Act.put, List.setIfInBounds_toArray, List.set_cons_zero, List.set_cons_succ]
            refine wpT_one (i := 3) rfl (by kernel_rfl) hDn (fun K hK => ?_)
            go_simp
            refine hK.out _ _ ?_ (fun hHeld2 hDn2 => ?_)
            · exact QQ.out _ K5'.out
            clear hK K hHeld hDn
            have hHeld := hHeld2; have hDn := hDn2
            clear hHeld2 hDn2
            refine wpT_one (i := 6) rfl (by kernel_rfl) hDn (fun K hK => ?_)
            go_simp
            refine hK.out _ _ ?_ (fun hHeld2 hDn2 => ?_)
            · exact QQ.out _ K7'.out
            clear hK K hHeld hDn
            have hHeld := hHeld2; have hDn := hDn2
            clear hHeld2 hDn2
            have F7 := Lib.hid (FN.out.same K7'.out)
            have K7 := Lib.hid (KN.out.trans K7'.out)
            have S7 := Lib.hid (SN.out.kept K7'.out (.inr (fun _ _ h => h)))
            have hWn : w.heap.size + 1 < wn.heap.size := by omega
            obtain ⟨q0, r0, q1, r1, -⟩ := F7.out.rules
            have y0 := F7.out.1.lt
            have y1 := F7.out.2.1.lt
            have wat : IntKind.i64.wrap ((L.at_ : Int) + (n : Int)) = (L.at_ : Int) + (n : Int) := IntWalk.i64_in _ (by omega)
            refine wpT_take (i := 7) (t := 80) (v := ?_) rfl rfl rfl (by kernel_rfl) (by kernel_rfl) (by kernel_rfl) (by kernel_rfl) (fun _ _ _ h => h) (Or.inl ⟨by rfl, ?_⟩) hHeld hDn (fun hDn' => ?_)
            rotate_left
            · (intro w hSw; (try dsimp only at hSw); go_simp; (try with_reducible rfl))
            clear hDn; have hDn := hDn'; clear hDn'
            simp only [Act.put, List.setIfInBounds_toArray, List.set_cons_zero, List.set_cons_succ]
            refine wpT_last rfl (by kernel_rfl) hDn (fun K hK => ?_)
            go_simp
            refine hK.out _ _ (fun hDn' => ?_)
            clear hK K hDn hHeld; have hDn := hDn'; clear hDn'
            refine wpT_done (by kernel_rfl) ?_ _
            clear QQ FN KN SN aok5 aV5 aW5 aok7 aV7 aW7
            have HL7 := hl7
            have A7 := Lib.hid O7.out.at.1
            have B7 := Lib.hid O7.out.atFar
            go_wp2_with fail
            refine bodyPost_ret (results_two_tmp rfl _ _ (w.heap.size + 1) _ _ _ rfl (Blk.set13 (t := 48) (v0 := .slice none 0 0) (v1 := .bool false) (v2 := .int .i64 0) (v3 := .int .i64 0) (v4 := .bool false) (v5 := .int .i64 0) (v6 := .int .i64 0) (v7 := .int .i64 0) (v8 := .int .i64 0) (v9 := .slice none 0 0) (v10 := .slice none 0 0) (v11 := .bool false) (v12 := .bool false) ?_) Tryz.underlying48 rfl (by kernel_rfl)) rfl ?_
            · refine F7.out.2.1.kept (fp := fun j => j = w.heap.size) ?_ (by omega)
              repeat (first | with_reducible exact Kept.refl _ _ | with_reducible refine Kept.setG ?_ _ _)
            rw [HR1.out]
            have hfin : ∀ w', Kept (fun j => j = w.heap.size ∨ j = w.heap.size + 1) w7 w' → RLog w' P a6 V.1 { L with at_ := L.at_ + prt L.wait, has := L.has ++ L.wait, wait := [] } a7 c7 none 0 := by
              intro w' kf
              refine ⟨S7.out.kept kf (AW6.out.1.imp_right (fun q y hy z => by have := q y hy; omega)), A7.out.kept kf (fun y hy z => by have := B7.out y hy; omega), hn7.out, .inl rfl, fun _ => rfl, AW6.out.2, fun y hy => HP.out _ (by have := B7.out y hy; omega), fun y hy => (by cases hy), fun y hy => Nat.lt_of_lt_of_le (ownT_lt O7.out y hy) kf.size, fun y hy => (by cases hy)⟩
            refine ⟨⟨a6, c6, a7, c7, none, 0, ?_, hfin _ ?_⟩, ?_⟩
            · unfold lgV
              rw [hcl', hb', ← HNP.out, Int.natCast_add]
              simp only [List.length_nil]
              rw [hl7.out]
              rfl
            · (repeat (first | with_reducible exact Kept.refl _ _ | with_reducible refine Kept.setCell ?_ (fun _ => by simp) _))
            · (repeat (first | with_reducible exact K7.out | with_reducible refine Kept.setNew ?_ (by dsimp only; omega) _))
        · have gV : ¬ ((V.2 : Nat) : Int) = 0 := by omega
          have gVb : (((V.2 : Nat) : Int) == 0) = false := by simpa using gV
          have gVn : (((V.2 : Nat) : Int) != 0) = true := by simpa using gV
          have HRV' := HRV.out
          rw [if_neg h0] at HRV'
          have HR1 := Lib.hid HRV'
          clear HRV' HRV h0
          go_wp2_with fail
          refine bodyPost_ret (results_two_tmp rfl _ _ (w.heap.size + 1) _ _ _ rfl (Blk.set13 (t := 48) (v0 := .slice none 0 0) (v1 := .bool false) (v2 := .int .i64 0) (v3 := .int .i64 0) (v4 := .bool false) (v5 := .int .i64 0) (v6 := .int .i64 0) (v7 := .int .i64 0) (v8 := .int .i64 0) (v9 := .slice none 0 0) (v10 := .slice none 0 0) (v11 := .bool false) (v12 := .bool false) ?_) Tryz.underlying48 rfl (by kernel_rfl)) rfl ?_
          · refine F6.out.2.1.kept (fp := fun j => j = w.heap.size) ?_ (by omega)
            repeat (first | with_reducible exact Kept.refl _ _ | with_reducible refine Kept.setG ?_ _ _)
          rw [HR1.out]
          refine ⟨⟨_, c6, ha, hc, wa, wc, ?_, ⟨?_, HI.out.has.same ?_, HI.out.hnil, HI.out.wt.same ?_, HI.out.wnil, AW6.out.2, HI.out.ph, HI.out.pw, fun y hy => Nat.lt_of_lt_of_le (HI.out.lh y hy) ?_, fun y hy => Nat.lt_of_lt_of_le (HI.out.lw y hy) ?_⟩⟩, ?_⟩
          · unfold lgV; rw [hcl']; rfl
          · refine HS6.out.kept (fp := fun j => j = w.heap.size ∨ j = w.heap.size + 1) ?_ (AW6.out.1.imp_right (fun q y hy z => by have := q y hy; omega))
            (repeat (first | with_reducible exact Kept.refl _ _ | with_reducible refine Kept.setCell ?_ (fun _ => by simp) _))
          · (repeat (first | with_reducible exact K6.out | with_reducible refine Kept.setNew ?_ (by dsimp only; omega) _))
          · (repeat (first | with_reducible exact K6.out | with_reducible refine Kept.setNew ?_ (by dsimp only; omega) _))
          · refine Kept.size (fp := fun _ => False) ?_
            (repeat (first | with_reducible exact K6.out | with_reducible refine Kept.setNew ?_ (by dsimp only; omega) _))
          · refine Kept.size (fp := fun _ => False) ?_
            (repeat (first | with_reducible exact K6.out | with_reducible refine Kept.setNew ?_ (by dsimp only; omega) _))
          · (repeat (first | with_reducible exact K6.out | with_reducible refine Kept.setNew ?_ (by dsimp only; omega) _))
    · have HRQ : Hid (R = ({ L with bad := true }, D', E')) := by
        rcases ST.out with q | q
        · exact absurd q.1 he0
        · show _ = _
          have h1 : wrSync D (L.first + L.at_) cs = (D', E') := by rw [HG.out]; unfold wrSync; rw [HQ.out, q.2, if_neg q.1]
          rw [HRR.out, h1, if_neg q.1]
      have ge : ¬ (E' : Int) = 0 := by omega
      have geb : ((E' : Int) == 0) = false := by simpa using ge
      have gen : ((E' : Int) != 0) = true := by simpa using ge
      clear ST
      by_cases hgo : i < n
      · have h1 : (i : Int) < (n : Int) := by omega
        go_wp2_with fail
        refine bodyPost_ret (results_two_tmp rfl _ _ (w.heap.size + 1) _ _ _ rfl (Blk.set13 (t := 48) (v0 := .slice none 0 0) (v1 := .bool false) (v2 := .int .i64 0) (v3 := .int .i64 0) (v4 := .bool false) (v5 := .int .i64 0) (v6 := .int .i64 0) (v7 := .int .i64 0) (v8 := .int .i64 0) (v9 := .slice none 0 0) (v10 := .slice none 0 0) (v11 := .bool false) (v12 := .bool false) ?_) Tryz.underlying48 rfl (by kernel_rfl)) rfl ?_
        · refine F.out.2.1.kept (fp := fun j => j = w.heap.size) ?_ (by omega)
          repeat (first | with_reducible exact Kept.refl _ _ | with_reducible refine Kept.setG ?_ _ _)
        rw [HRQ.out]
        refine ⟨⟨_, c', ha, hc, wa, wc, ?_, ⟨?_, HI.out.has.same ?_, HI.out.hnil, HI.out.wt.same ?_, HI.out.wnil, AW.out.2, HI.out.ph, HI.out.pw, fun y hy => Nat.lt_of_lt_of_le (HI.out.lh y hy) ?_, fun y hy => Nat.lt_of_lt_of_le (HI.out.lw y hy) ?_⟩⟩, ?_⟩
        · unfold lgV; rw [hcl']; rfl
        · refine SEC.out.kept (fp := fun j => j = w.heap.size ∨ j = w.heap.size + 1) ?_ (AW.out.1.imp_right (fun q y hy z => by have := q y hy; omega))
          (repeat (first | with_reducible exact Kept.refl _ _ | with_reducible refine Kept.setCell ?_ (fun _ => by simp) _))
        · (repeat (first | with_reducible exact K.out | with_reducible refine Kept.setNew ?_ (by dsimp only; omega) _))
        · (repeat (first | with_reducible exact K.out | with_reducible refine Kept.setNew ?_ (by dsimp only; omega) _))
        · refine Kept.size (fp := fun _ => False) ?_
          (repeat (first | with_reducible exact K.out | with_reducible refine Kept.setNew ?_ (by dsimp only; omega) _))
        · refine Kept.size (fp := fun _ => False) ?_
          (repeat (first | with_reducible exact K.out | with_reducible refine Kept.setNew ?_ (by dsimp only; omega) _))
        · (repeat (first | with_reducible exact K.out | with_reducible refine Kept.setNew ?_ (by dsimp only; omega) _))
      · have h1 : ¬ (i : Int) < (n : Int) := by omega
        go_wp2_with fail
        refine bodyPost_ret (results_two_tmp rfl _ _ (w.heap.size + 1) _ _ _ rfl (Blk.set13 (t := 48) (v0 := .slice none 0 0) (v1 := .bool false) (v2 := .int .i64 0) (v3 := .int .i64 0) (v4 := .bool false) (v5 := .int .i64 0) (v6 := .int .i64 0) (v7 := .int .i64 0) (v8 := .int .i64 0) (v9 := .slice none 0 0) (v10 := .slice none 0 0) (v11 := .bool false) (v12 := .bool false) ?_) Tryz.underlying48 rfl (by kernel_rfl)) rfl ?_
        · refine F.out.2.1.kept (fp := fun j => j = w.heap.size) ?_ (by omega)
          repeat (first | with_reducible exact Kept.refl _ _ | with_reducible refine Kept.setG ?_ _ _)
        rw [HRQ.out]
        refine ⟨⟨_, c', ha, hc, wa, wc, ?_, ⟨?_, HI.out.has.same ?_, HI.out.hnil, HI.out.wt.same ?_, HI.out.wnil, AW.out.2, HI.out.ph, HI.out.pw, fun y hy => Nat.lt_of_lt_of_le (HI.out.lh y hy) ?_, fun y hy => Nat.lt_of_lt_of_le (HI.out.lw y hy) ?_⟩⟩, ?_⟩
        · unfold lgV; rw [hcl']; rfl
        · refine SEC.out.kept (fp := fun j => j = w.heap.size ∨ j = w.heap.size + 1) ?_ (AW.out.1.imp_right (fun q y hy z => by have := q y hy; omega))
          (repeat (first | with_reducible exact Kept.refl _ _ | with_reducible refine Kept.setCell ?_ (fun _ => by simp) _))
        · (repeat (first | with_reducible exact K.out | with_reducible refine Kept.setNew ?_ (by dsimp only; omega) _))
        · (repeat (first | with_reducible exact K.out | with_reducible refine Kept.setNew ?_ (by dsimp only; omega) _))
        · refine Kept.size (fp := fun _ => False) ?_
          (repeat (first | with_reducible exact K.out | with_reducible refine Kept.setNew ?_ (by dsimp only; omega) _))
        · refine Kept.size (fp := fun _ => False) ?_
          (repeat (first | with_reducible exact K.out | with_reducible refine Kept.setNew ?_ (by dsimp only; omega) _))
        · (repeat (first | with_reducible exact K.out | with_reducible refine Kept.setNew ?_ (by dsimp only; omega) _))
end
end Go.Proofs.YtlmpkonfclnceaaGreat
