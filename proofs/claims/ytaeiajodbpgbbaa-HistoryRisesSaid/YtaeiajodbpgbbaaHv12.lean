/- The document's State. -/
import Derived.Test.YtaeiajodbpgbbaaHvS
import Derived.Lib.QuietBelow
import Derived.Deep.QuietTactic
import Derived.BigQuiet
namespace Go.Proofs.Ytaeiajodbpgbbaa
open Go.RowKit Go.Sort Go.Shelf

theorem boInfo : (Try.prog.info? 4).map (fun i => (i.zero, i.size, i.bytes)) = some (some (.bool false), 1, 1) := by kernel_rfl
def boC (d : List Bool) : Array Value := (d.map Value.bool).toArray
theorem boC_get {d : List Bool} {i : Nat} {b : Bool} (h : d[i]? = some b) : (boC d)[i]? = some (.bool b) := by unfold boC; simp [h]
theorem boC_set (d : List Bool) (k : Nat) (b : Bool) : (boC d).setIfInBounds k (.bool b) = boC (d.set k b) := by
  unfold boC
  apply Array.ext'
  simp [List.map_set]
theorem boC_made (n : Nat) : madeCells (Value.bool false).cells (n * 1) = boC (List.replicate n false) := by
  unfold madeCells boC
  apply Array.ext'
  apply List.ext_getElem?
  intro j
  rw [show (Value.bool false).cells = #[Value.bool false] from rfl]
  simp [List.getElem?_replicate]
  by_cases h : j < n
  · simp [h, Nat.mod_one]
  · simp [h]
theorem els_set {w w' : World} {a : Option Addr} {L : List HPr} {r : Nat} {d : List Bool} {t : TypeId} (h : ElsAt prE w a L) (hb : Blk w r (boC d) t) (k : Kept (fun j => j = r) w w') : ElsAt prE w' a L := by
  rcases L with _ | ⟨p, L⟩
  · exact .inl rfl
  · refine h.kept k (fun y hy => ?_)
    subst hy
    obtain ⟨b, off, e, hlt⟩ := h.there (by simp)
    cases e
    intro q
    dsimp only at q
    subst q
    have c := h.get (i := 0) (x := p) rfl 0 (u := encStr p.1) rfl
    rw [cell_blk hb] at c
    unfold boC at c
    simp at c
theorem cntS_made (n : Nat) : cntS (List.replicate n false) = n := by unfold cntS; simp
section
set_option maxRecDepth 100000 in
set_option maxHeartbeats 1600000 in
theorem rf_State (a : Option Addr) (n c : Nat) (l : List HEv) (hn : n = l.length) (hl : n ≤ 40) (at_ : Int) (w : World) (hat : ElsAt evE w a l) (hav : ∀ x, a = some x → x.block < w.heap.size) :
    Calls Try.prog 12 #[.slice a n c, .int .i64 at_] w (OvPost w (stF l at_)) := by
  have HN := Lib.hid hn; have HAT := Lib.hid hat
  obtain ⟨i0, hi, hz0, hz1, hz2⟩ := info_parts boInfo
  have hmk := run_make (P := Try.prog) w 50 4 i0 (.bool false) Try.underlying50 hi hz0 .i64 .i64 (n : Int) (n : Int) (by omega) (by omega) (by rw [hz2]; omega) (by omega)
  rw [hz1, show ((n : Int)).toNat = n from by omega, boC_made] at hmk
  have AV := Lib.hid hav
  clear hn hat hi hz0 hz1 hz2 hav
  go_enter Try.func12, Try.ntmps12
  go_upto_region 3 with fail
  obtain ⟨r, hr⟩ : ∃ r, w.heap.size = r := ⟨_, rfl⟩
  rw [hr]
  refine cutWl (fun wn => Blk wn r (boC (List.replicate n false)) 4 ∧ Same w wn) ⟨Blk.new' _ _ _ hr.symm, (Kept.refl _ _).alloc _⟩ ?_
  rintro w0 ⟨hb0, k0⟩
  have B0 := Lib.hid hb0
  have K0 := Lib.hid k0
  have HR := Lib.hid hr
  clear hb0 k0 hmk hr
  go_loopg [5] n (fun gg v wr => ∃ (d : List Bool) (L : List HPr) (g : SMap) (a1 : Option Addr) (n1 c1 : Nat), v = .slice a1 n1 c1 ∧ d.length = n ∧ cntS d ≤ gg ∧ Blk wr r (boC d) 4 ∧ PrsOf g L ∧ (∀ k, (g k).isSome = true → ∃ e ∈ l, e.key = k) ∧ (stb ltT (remS at_ l d)).foldl (fun g e => ovF g l e.x) g = stF l at_ ∧ n1 = L.length ∧ (a1 = none → c1 = 0) ∧ ElsAt prE wr a1 L ∧ Same w wr)
  case atStart =>
    have hf : (stb ltT (remS at_ l (List.replicate n false))).foldl (fun g e => ovF g l e.x) (fun _ => none) = stF l at_ := by
      rw [HN.out, remS_start]; rfl
    exact ⟨List.replicate n false, [], (fun _ => none), none, 0, 0, rfl, by simp, by rw [cntS_made]; omega, B0.out, ⟨List.Pairwise.nil, fun k v => by simp⟩, (fun k h => by cases h), hf, rfl, fun _ => rfl, Or.inl rfl, K0.out⟩
  case round =>
    clear B0 K0
    obtain ⟨d, L, g, a1, n1, c1, rfl, hdl, hcnt, hb, hL, hgk, hf, hn1, hnil, hat1, hk⟩ := hrel
    have B := Lib.hid hb; have HL := Lib.hid hL; have HG := Lib.hid hgk; have HF := Lib.hid hf; have HN1 := Lib.hid hn1; have HNIL := Lib.hid hnil; have HAT1 := Lib.hid hat1; have KW := Lib.hid hk; have HD := Lib.hid hdl; have HCN := Lib.hid hcnt
    clear hb hL hgk hf hn1 hnil hat1 hk hdl hcnt
    go_wp2_with fail
    generalize wr = wm at *
    go_loopw [7, 8] (fun z t wr => ∃ (i : Nat) (z' : Int), t = .int .i64 i ∧ z = .int .i64 z' ∧ i ≤ n ∧ minAt at_ l d i z' ∧ Same wm wr) (fun _ t _ => n - (intOf t).toNat)
    case atStart => exact ⟨0, -1, rfl, rfl, by omega, .inl ⟨rfl, fun j hj => absurd hj (by omega)⟩, Kept.refl _ _⟩
    case round =>
      obtain ⟨i, z', rfl, rfl, hi, hmin, hk⟩ := hrel
      have K := Lib.hid hk; have HMIN := Lib.hid hmin
      clear hk hmin
      by_cases hgo : i < n
      · have hil : i < l.length := by have := HN.out; omega
        obtain ⟨b, off, rfl, hbl, hc⟩ := ev_at HAT.out hil
        have KT := Lib.hid (KW.out.trans K.out)
        obtain ⟨c0, -, c2, -, -, -⟩ := hc _ KT.out
        obtain ⟨x, hx⟩ : ∃ x, l[i] = x := ⟨_, rfl⟩
        rw [hx] at c0 c2
        have hxl : l[i]? = some x := by rw [List.getElem?_eq_getElem hil, hx]
        obtain ⟨bb, hbb⟩ : ∃ bb, d[i]? = some bb := ⟨_, List.getElem?_eq_getElem (by rw [HD.out]; exact hgo)⟩
        have cd : wr.cell? ⟨r, i, none⟩ = some (.bool bb) := by rw [cell_blk (B.out.kept K.out (fun h => h))]; exact boC_get hbb
        obtain ⟨m1, m2⟩ := minAt_next HMIN.out hxl hbb
        have M1 := Lib.hid m1
        have M2 := Lib.hid m2
        have g1 : (i : Int) < (n : Int) := by omega
        have g0 : (0 : Int) ≤ (i : Int) := by omega
        have qk := fun dq os => cell_regrown (w := wr) c0 dq os
        have qt := fun dq os => cell_regrown (w := wr) c2 dq os
        have qd := fun dq os => cell_regrown (w := wr) cd dq os
        have HX := Lib.hid (And.intro hil hx)
        clear hx hxl hbb m1 m2 c0 c2 cd
        by_cases q1 : x.k = 3
        · have e1 : (((x.k : Nat) : Int) == 3) = true := by simp; omega
          by_cases q2 : x.t ≤ at_
          · have e2 : decide (x.t ≤ at_) = true := decide_eq_true q2
            have CF := Lib.hid (show cmf at_ x = true from by simp [cmf, q1, q2])
            cases bb
            · rcases HMIN.out with ⟨hz, _⟩ | ⟨k, y, hz, hki, hy, _⟩
              · subst hz
                have MX := Lib.hid ((M2.out ⟨CF.out, rfl⟩).1 rfl)
                clear q1 q2 hc
                go_wp2_with fail
                refine wp_region_quiet_below (by kernel_rfl) (by kernel_rfl) ?_
                repeat (first | go_big_quiet_step (fail) | quiet_step (fail))
                refine wpQuiet_nil ?_
                intro _ hw'
                obtain ⟨⟨dq, osq⟩, hw''⟩ := hw'
                subst hw''
                have kq := Lib.hid (show Same wr _ from Kept.of_below (below_regrown wr dq osq))
                have KQ := Lib.hid (K.out.trans kq.out)
                have MN := Lib.hid MX.out
                clear kq
                go_wp2_with fail
                refine ⟨⟨i + 1, (i : Int), by go_num, rfl, by omega, MN.out, KQ.out⟩, by simp [intOf]; omega⟩
              · subst hz
                have hkl : k < l.length := by have := HN.out; omega
                have hyk : l[k] = y := by have := List.getElem?_eq_getElem hkl; rw [hy] at this; simpa using this.symm
                have c2 : wr.cell? ⟨b, off + k * 6 + 2, none⟩ = some (.int .i64 y.t) := by
                  obtain ⟨b', off', e', _, hc'⟩ := ev_at HAT.out hkl
                  cases e'
                  have := (hc' _ KT.out).2.2.1
                  rw [hyk] at this
                  exact this
                have qy := fun dq os => cell_regrown (w := wr) c2 dq os
                have e3 : decide ((k : Int) < 0) = false := decide_eq_false (by omega)
                have g4 : (k : Int) < (n : Int) := by omega
                have g5 : (0 : Int) ≤ (k : Int) := by omega
                have MY := Lib.hid ((M2.out ⟨CF.out, rfl⟩).2 k y rfl hy)
                clear hy hyk c2 q1 q2 hc
                by_cases q4 : x.t < y.t
                · have e4 : decide (x.t < y.t) = true := decide_eq_true q4
                  have MX := Lib.hid (MY.out.1 q4)
                  clear q4
                  go_wp2_with fail
                  refine wp_region_quiet_below (by kernel_rfl) (by kernel_rfl) ?_
                  repeat (first | go_big_quiet_step (fail) | quiet_step (fail))
                  refine wpQuiet_nil ?_
                  intro _ hw'
                  obtain ⟨⟨dq, osq⟩, hw''⟩ := hw'
                  subst hw''
                  have kq := Lib.hid (show Same wr _ from Kept.of_below (below_regrown wr dq osq))
                  have KQ := Lib.hid (K.out.trans kq.out)
                  have MN := Lib.hid MX.out
                  clear kq
                  go_wp2_with fail
                  refine ⟨⟨i + 1, (i : Int), by go_num, rfl, by omega, MN.out, KQ.out⟩, by simp [intOf]; omega⟩
                · have e4 : decide (x.t < y.t) = false := decide_eq_false q4
                  have MX := Lib.hid (MY.out.2 q4)
                  clear q4
                  go_wp2_with fail
                  refine wp_region_quiet_below (by kernel_rfl) (by kernel_rfl) ?_
                  repeat (first | go_big_quiet_step (fail) | quiet_step (fail))
                  refine wpQuiet_nil ?_
                  intro _ hw'
                  obtain ⟨⟨dq, osq⟩, hw''⟩ := hw'
                  subst hw''
                  have kq := Lib.hid (show Same wr _ from Kept.of_below (below_regrown wr dq osq))
                  have KQ := Lib.hid (K.out.trans kq.out)
                  have MN := Lib.hid MX.out
                  clear kq
                  go_wp2_with fail
                  refine ⟨⟨i + 1, (k : Int), by go_num, rfl, by omega, MN.out, KQ.out⟩, by simp [intOf]; omega⟩
            · have MX := Lib.hid (M1.out (fun q => by cases q.2))
              clear q1 q2 hc
              go_wp2_with fail
              refine wp_region_quiet_below (by kernel_rfl) (by kernel_rfl) ?_
              repeat (first | go_big_quiet_step (fail) | quiet_step (fail))
              refine wpQuiet_nil ?_
              intro _ hw'
              obtain ⟨⟨dq, osq⟩, hw''⟩ := hw'
              subst hw''
              have kq := Lib.hid (show Same wr _ from Kept.of_below (below_regrown wr dq osq))
              have KQ := Lib.hid (K.out.trans kq.out)
              have MN := Lib.hid MX.out
              clear kq
              go_wp2_with fail
              refine ⟨⟨i + 1, z', by go_num, rfl, by omega, MN.out, KQ.out⟩, by simp [intOf]; omega⟩
          · have e2 : decide (x.t ≤ at_) = false := decide_eq_false q2
            have MX := Lib.hid (M1.out (fun q => q2 (by have := q.1; simp [cmf] at this; exact this.2)))
            clear q1 q2 hc
            go_wp2_with fail
            refine wp_region_quiet_below (by kernel_rfl) (by kernel_rfl) ?_
            repeat (first | go_big_quiet_step (fail) | quiet_step (fail))
            refine wpQuiet_nil ?_
            intro _ hw'
            obtain ⟨⟨dq, osq⟩, hw''⟩ := hw'
            subst hw''
            have kq := Lib.hid (show Same wr _ from Kept.of_below (below_regrown wr dq osq))
            have KQ := Lib.hid (K.out.trans kq.out)
            have MN := Lib.hid MX.out
            clear kq
            go_wp2_with fail
            refine ⟨⟨i + 1, z', by go_num, rfl, by omega, MN.out, KQ.out⟩, by simp [intOf]; omega⟩
        · have e1 : (((x.k : Nat) : Int) == 3) = false := by simp; omega
          have MX := Lib.hid (M1.out (fun q => q1 (by have := q.1; simp [cmf] at this; exact this.1)))
          clear q1 hc
          go_wp2_with fail
          refine wp_region_quiet_below (by kernel_rfl) (by kernel_rfl) ?_
          repeat (first | go_big_quiet_step (fail) | quiet_step (fail))
          refine wpQuiet_nil ?_
          intro _ hw'
          obtain ⟨⟨dq, osq⟩, hw''⟩ := hw'
          subst hw''
          have kq := Lib.hid (show Same wr _ from Kept.of_below (below_regrown wr dq osq))
          have KQ := Lib.hid (K.out.trans kq.out)
          have MN := Lib.hid MX.out
          clear kq
          go_wp2_with fail
          refine ⟨⟨i + 1, z', by go_num, rfl, by omega, MN.out, KQ.out⟩, by simp [intOf]; omega⟩
      · have hin : i = n := by omega
        have g1 : ¬ (i : Int) < (n : Int) := by omega
        have HM2 := Lib.hid (show minAt at_ l d l.length z' from by rw [← HN.out, ← hin]; exact HMIN.out)
        clear HMIN
        rcases HM2.out with ⟨hz, hno⟩ | ⟨k, x, hz, hkl, hy, hcd, _⟩
        · subst hz
          have RN := Lib.hid (remS_nil at_ l d (fun j hj => by
            obtain ⟨x', e1, _⟩ := hj
            exact hno j (List.getElem?_eq_some_iff.1 e1).1 ⟨x', e1, by assumption⟩))
          have HF2 := Lib.hid (show g = stF l at_ from by have := HF.out; rw [RN.out] at this; exact this)
          rw [HF2.out] at HL
          clear hno
          go_wp2_with fail
          go_ret
          exact ⟨⟨a1, n1, c1, L, rfl, HL.out, HN1.out, HNIL.out, HAT1.out.same K.out⟩, KW.out.trans K.out⟩
        · subst hz
          obtain ⟨PK, PC⟩ := minAt_pick hy HM2.out
          have hdk : d[k]? = some false := by obtain ⟨_, _, h2, _⟩ := PC; exact h2
          have HPK := Lib.hid PK
          have B2 := Lib.hid (B.out.kept K.out (fun h => h))
          have PB := Lib.hid (show Blk (wr.setCell ⟨r, k, none⟩ (.bool true)) r (boC (d.set k true)) 4 from by rw [← boC_set]; exact B2.out.set k (.bool true))
          have CS := Lib.hid (cntS_set d k hdk)
          have cd : wr.cell? ⟨r, k, none⟩ = some (.bool false) := by rw [cell_blk B2.out]; exact boC_get hdk
          have fd : wr.frozen? ⟨r, k, none⟩ = false := B2.out.free k
          have hlk : k < l.length := hkl
          have hyk : l[k] = x := by have := List.getElem?_eq_getElem hlk; rw [hy] at this; simpa using this.symm
          obtain ⟨b, off, rfl, hbl, hc⟩ := ev_at HAT.out hlk
          have KT := Lib.hid (KW.out.trans K.out)
          have KS := Lib.hid (show Same w (wr.setCell ⟨r, k, none⟩ (.bool true)) from Kept.setNew KT.out (by have := HR.out; dsimp only; omega) _)
          obtain ⟨-, c1', -, -, -, -⟩ := hc _ KS.out
          rw [hyk] at c1'
          have XL := Lib.hid (show x ∈ l from hyk ▸ List.getElem_mem hlk)
          have g4 : (k : Int) < (n : Int) := by have := HN.out; omega
          have g5 : (0 : Int) ≤ (k : Int) := by omega
          have g6 : ¬ (k : Int) < 0 := by omega
          have KR := Lib.hid (show Kept (fun j => j = r) wr (wr.setCell ⟨r, k, none⟩ (.bool true)) from Kept.setG (Kept.refl _ _) _ _)
          have OV := Lib.hid (rf_over (some ⟨b, off, none⟩) n c l HN.out (by omega) x.x (wr.setCell ⟨r, k, none⟩ (.bool true)) (HAT.out.same KS.out) g L HL.out HG.out a1 n1 c1 HN1.out HNIL.out (els_set (HAT1.out.same K.out) B2.out KR.out))
          clear PK PC hdk hy hcd hyk hc hkl HM2
          go_wp2_with fail
          with_reducible refine OV.out.mono ?_
          rintro e w5 ⟨⟨a5, n5, c5, L5, rfl, hL5, hn5, hnil5, hat5⟩, k5⟩
          have HL5 := Lib.hid hL5; have HN5 := Lib.hid hn5; have HNIL5 := Lib.hid hnil5; have HAT5 := Lib.hid hat5
          have PB5 := Lib.hid (PB.out.kept k5 (fun h => h))
          have K5 := Lib.hid (KS.out.trans k5)
          have HG5 := Lib.hid (show ∀ k', (ovF g l x.x k').isSome = true → ∃ e ∈ l, e.key = k' from fun k' h => by
            rcases ovF_key l g x.x k' h with h | h
            · exact HG.out k' h
            · exact h)
          have HF5 := Lib.hid (show (stb ltT (remS at_ l (d.set k true))).foldl (fun g e => ovF g l e.x) (ovF g l x.x) = stF l at_ from by
            have := HF.out
            rw [HPK.out] at this
            exact this)
          clear hL5 hn5 hnil5 hat5 k5
          go_wp2_with fail
          go_roundg (cntS (d.set k true))
          case measure => have h1 := CS.out; have h2 := HCN.out; omega
          case rel => exact ⟨d.set k true, L5, _, a5, n5, c5, rfl, by rw [List.length_set]; exact HD.out, Nat.le_refl _, PB5.out, HL5.out, HG5.out, HF5.out, HN5.out, HNIL5.out, HAT5.out, K5.out⟩
end
end Go.Proofs.Ytaeiajodbpgbbaa
