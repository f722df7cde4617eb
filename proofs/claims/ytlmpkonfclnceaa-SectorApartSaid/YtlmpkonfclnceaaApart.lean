/- SectorApart: a sector that is written changes no other one; a loss of power behind a Sync neither. -/
import Derived.Test.YtlmpkonfclnceaaSecRd
import Derived.Test.YtlmpkonfclnceaaStrD
import Derived.Lib.QuietBelow
import Derived.Deep.QuietTactic
import Derived.BigQuiet
namespace Go.Proofs.Ytlmpkonfclnceaa
open Go.RowKit Go.Sort

/-- Any calls. -/
structure AprI (i : Nat) (D : Dsk) : Prop where
  live : Live D
  len : D.s.length = 9
  cal : 0 ≤ D.calls ∧ D.calls ≤ (i : Int)
theorem AprI.start : AprI 0 (newD 9) := ⟨⟨rfl, rfl⟩, by unfold newD secsOf; rw [List.length_replicate]; omega, by simp [newD]⟩
theorem AprI.power {i : Nat} {D : Dsk} (h : AprI i D) (f : List Nat) : AprI (i + 1) (powerD D f) :=
  ⟨⟨rfl, rfl⟩, by show (powS D.s f).length = 9; rw [powS_len, h.len], by have := h.cal; show 0 ≤ D.calls ∧ D.calls ≤ ((i + 1 : Nat) : Int); omega⟩
theorem AprI.idle {i : Nat} {D : Dsk} (h : AprI i D) : AprI (i + 1) D := ⟨h.live, h.len, by have := h.cal; omega⟩
theorem AprI.write {i : Nat} {D : Dsk} (h : AprI i D) (hi : i ≤ 100) (n : Int) {L : List Nat} (hL : L.length = 256) : AprI (i + 1) (writeD D n L).1 := by
  by_cases hn : 0 ≤ n ∧ n < 9
  · obtain ⟨N, hN⟩ : ∃ N : Nat, n = (N : Int) := ⟨n.toNat, by omega⟩
    subst hN
    rw [write_live h.live (by rw [h.len]; omega) hL]
    have := h.cal
    have e : wrap64 (D.calls + 1) = D.calls + 1 := by unfold wrap64; omega
    exact ⟨⟨rfl, rfl⟩, by show (putS D.s N L).length = 9; rw [putS_len, h.len], by show 0 ≤ wrap64 (D.calls + 1) ∧ wrap64 (D.calls + 1) ≤ ((i + 1 : Nat) : Int); rw [e]; omega⟩
  · have e : writeD D n L = (D, errD D n) := by
      unfold writeD
      rw [if_neg]
      intro q
      have := errD_zero q
      rw [h.len] at this
      omega
    rw [e]
    exact h.idle
/-- What is there behind the last writing, a Sync and a loss of power. -/
structure AprE (D E : Dsk) (n A : Nat) : Prop where
  on : E.off = false
  len : E.s.length = 9
  cal : E.calls = D.calls + 2
  has : ∀ j, j < 9 → (E.s.getD j sec0).has = if j = n then fullL A else (D.s.getD j sec0).has
theorem AprI.fin {i : Nat} {D : Dsk} (h : AprI i D) (hi : i ≤ 100) {n A : Nat} (hn : n < 9) {f : List Nat} (hf : Bts f) :
    (writeD D (n : Nat) (fullL A)).2 = 0 ∧ (syncD (writeD D (n : Nat) (fullL A)).1).2 = 0 ∧ AprE D (powerD (syncD (writeD D (n : Nat) (fullL A)).1).1 f) n A := by
  rw [write_live h.live (by rw [h.len]; exact hn) (fullL_len _)]
  refine ⟨rfl, ?_⟩
  rw [sync_live ⟨rfl, rfl⟩]
  have := h.cal
  have e : wrap64 (wrap64 (D.calls + 1) + 1) = D.calls + 2 := by unfold wrap64; omega
  refine ⟨rfl, rfl, by show (powS _ f).length = 9; rw [powS_len, settle_len, putS_len, h.len], e, fun j hj => ?_⟩
  show ((powS (settle (putS D.s n (fullL A))) f).getD j sec0).has = _
  have hw : waitsAt (settle (putS D.s n (fullL A))) j = false := by
    unfold waitsAt
    rw [settle_getD]; rfl
  rw [(powS_at hf j).1 hw, settle_getD]
  show ((putS D.s n (fullL A)).getD j sec0).has = _
  unfold putS
  rw [getD_set]
  by_cases q : j = n
  · rw [if_pos ⟨q, by rw [h.len]; exact hn⟩, if_pos q]
  · rw [if_neg (fun p => q p.1), if_neg q]
theorem tmod9_nat (q : Nat) : (q : Int).tmod 9 = ((q % 9 : Nat) : Int) := by rw [Int.tmod_eq_emod_of_nonneg (by omega)]; omega
theorem tmod8_nat' (q : Nat) : (q : Int).tmod 8 = ((q % 8 : Nat) : Int) := by rw [Int.tmod_eq_emod_of_nonneg (by omega)]; omega

section
variable {P : Program} {md : Region.Mode} {ops : Array Oper} {Q : Exit → Act → World → Prop} {S : World → Prop}
/-- A take at a known slot. -/
theorem take_at {i t : Nat} {oi : Oper} {v : Value} {fuel : Nat} {listed : Array Bool} {a : Act} {w : World} (hi : ops[i]? = some oi) (hd : oi.dst = some t)
    (hs : Region.noSelect ops = true) (hf : Region.free md ops listed i = true) (hr : (Region.ready md ops listed).contains i = true)
    (hQ : ∀ c a w, Q (.panic c) (a.put (some t) v) w → Q (.panic c) a w) (hy : YieldsIf P ops S oi v a) (hS : S w)
    (h : wpAnyH P md ops Q S fuel (listed.setIfInBounds i true) (a.put (some t) v) w) : wpAnyH P md ops Q S (fuel + 1) listed a w :=
  wpAnyH_take hi hs hf hr (by rw [hd]; exact hQ) hy hS (by rw [hd]; exact h)
end
set_option maxRecDepth 100000 in
set_option maxHeartbeats 6000000 in
theorem apart_any (W : World) (a : Option Addr) (len cap0 : Nat) (hacts : len = 0 ∨ ∃ b off, a = some ⟨b, off, none⟩ ∧ b < W.heap.size ∧ ActsAt W b off len) (A : Nat) (hA : A < 256)
    (fa : Option Addr) (fl fc : Nat) (fs : List Nat) (hfl : fl = fs.length) (hfc : fl ≤ fc) (hfb : Bts fs) (hfa : NatsAt W .u8 fa fs) :
    Calls Try.prog 5 #[.slice a len cap0, .int .u8 (A : Nat), .slice fa fl fc] W fun e w' => e = .returned (.bool true) ∧ Same W w' := by
  have HFL := Lib.hid hfl
  clear hfl
  by_cases hbig : 40 < len
  · have h1 : (40 : Int) < (len : Int) := by omega
    go_enter Try.func5, Try.ntmps5
    go_wp2_with fail
    refine (sec_awake _).mono ?_
    rintro e w2 ⟨rfl, k2⟩
    go_wp2_with fail
    go_ret
    exact ⟨rfl, k2⟩
  have h1 : ¬ (40 : Int) < (len : Int) := by omega
  go_enter Try.func5, Try.ntmps5
  go_wp2_with fail
  refine (sd_new 9 W).mono ?_
  rintro e w2 ⟨d, bs, cap, m, rfl, h2, hd, hbs, hm, k2⟩
  have H2 := Lib.hid h2; have K2 := Lib.hid k2
  clear h2 k2
  go_wp2_with fail
  go_loopw [8] (fun iv wr => ∃ (i : Nat) (D : Dsk), iv = .int .i64 (i : Nat) ∧ i ≤ len ∧ AprI i D ∧ DiskIn wr d bs cap m D ∧ Kept (fun _ => False) W wr) (fun iv _ => len - (intOf iv).toNat)
  case atStart => exact ⟨0, newD 9, rfl, by omega, AprI.start, H2.out, K2.out⟩
  case round =>
    clear H2 K2
    obtain ⟨i, D, rfl, hi, hai, hdi, hk⟩ := hrel
    have AI := Lib.hid hai; have DI := Lib.hid hdi; have HK := Lib.hid hk
    clear hai hdi hk
    by_cases hgo : i < len
    · obtain ⟨ab, ao, rfl, hab, hact⟩ := hacts.resolve_left (by omega)
      obtain ⟨k, n, c, u, dn, fa1, fl1, fc1, fs1, ac0⟩ := hact i hgo
      have ac := ac0.same HK.out hab
      have c0 := ac.c0; have c1 := ac.c1; have c2 := ac.c2; have c5 := ac.c5
      have hkb := ac.kb; have hcb := ac.cb
      have P1 := Lib.hid ac.fl_; have P2 := Lib.hid ac.fc_; have P3 := Lib.hid ac.fb; have P4 := Lib.hid ac.at_
      have g1 : (i : Int) < (len : Int) := by omega
      have g0 : (0 : Int) ≤ (i : Int) := by omega
      have ht := tmod8_nat' k
      obtain ⟨r, hr⟩ : ∃ r, k % 8 = r := ⟨_, rfl⟩
      rw [hr] at ht
      clear ac ac0 hact hr
      by_cases h7 : r = 7
      · subst h7
        go_wp2_with fail
        refine (sd_power DI.out fa1 fl1 fc1 fs1 P1.out P2.out P3.out P4.out).mono ?_
        rintro e w3 ⟨rfl, h3, k3⟩
        have H3 := Lib.hid h3; have K3 := Lib.hid (HK.out.own k3 hd hbs hm)
        clear h3 k3 DI HK
        go_wp2_with fail
        go_roundw
        case rel => exact ⟨i + 1, _, by go_num, by omega, AI.out.power fs1, H3.out, K3.out⟩
        case measure => simp [intOf]; omega
      · have h7' : ¬ (r : Int) = 7 := by omega
        by_cases h5 : r < 5
        · have h5' : (r : Int) < 5 := by omega
          have FU := Lib.hid fun w' => full_any c w'
          have LB := Lib.hid (fullL_bts hcb)
          clear P1 P2 P3 P4 hcb
          go_wp2_with fail
          go_region_held3 (fun w' => w'.cell? ⟨ab, ao + i * 6 + 1, none⟩ = some (.int .i64 n) ∧ w'.cell? ⟨ab, ao + i * 6 + 2, none⟩ = some (.int .u8 (c : Nat)))
            (first | exact ⟨c1, c2⟩ | exact ⟨c81, c82⟩ | exact ⟨c91, c92⟩)
            (first
              | (go_at_call 15; refine (FU.out _).mono ?_; rintro e w8 ⟨g, rfl, ho, k8⟩; have K8 := Lib.hid (show Same wr w8 from ⟨k8.os, k8.tape, k8.output, k8.size, k8.block⟩); have HO := Lib.hid ho.nats; have c81 := (K8.out.cell (p := ⟨ab, ao + i * 6 + 1, none⟩) (Nat.lt_of_lt_of_le hab HK.out.size) (fun h => h)).trans c1; have c82 := (K8.out.cell (p := ⟨ab, ao + i * 6 + 2, none⟩) (Nat.lt_of_lt_of_le hab HK.out.size) (fun h => h)).trans c2; clear ho k8)
              | (go_at_call 14; refine (sd_write ((DI.out.same K8.out).same (by first | exact Kept.refl _ _ | exact (Kept.refl _ _).drew)) n (some ⟨g, 0, none⟩) 256 256 (fullL c) (fullL_len c).symm LB.out (HO.out.same (by first | exact Kept.refl _ _ | exact (Kept.refl _ _).drew))).mono ?_; rintro e w9 ⟨rfl, h9, k9⟩; have K9 := Lib.hid (show Kept (dod d bs m) w8 w9 from ⟨k9.os, k9.tape, k9.output, k9.size, k9.block⟩); have D9 := Lib.hid h9; have hab8 := Nat.lt_of_lt_of_le hab (HK.out.trans K8.out).size; have c91 := (K9.out.cell (p := ⟨ab, ao + i * 6 + 1, none⟩) hab8 (by intro q; rcases q with q | q | q <;> (simp only at q; omega))).trans c81; have c92 := (K9.out.cell (p := ⟨ab, ao + i * 6 + 2, none⟩) hab8 (by intro q; rcases q with q | q | q <;> (simp only at q; omega))).trans c82; clear h9 k9))
          all_goals
            have K9' := Lib.hid ((HK.out.trans K8.out).own K9.out hd hbs hm)
            clear K8 K9 HO FU c81 c82 c91 c92 DI HK
            go_wp2_with fail
            go_roundw
            case rel => exact ⟨i + 1, _, by go_num, by omega, AI.out.write (by omega) n (fullL_len c), D9.out, K9'.out⟩
            case measure => simp [intOf]; omega
        · have h5' : ¬ (r : Int) < 5 := by omega
          go_wp2_with fail
          go_roundw
          case rel => exact ⟨i + 1, D, by go_num, by omega, AI.out.idle, DI.out, HK.out⟩
          case measure => simp [intOf]; omega
    · have e : i = len := by omega
      subst e
      have l1 := DI.out.box.lt; have l2 := DI.out.safe.lt; have l3 := DI.out.map.lt
      have ht := tmod9_nat A
      obtain ⟨N, hN⟩ : ∃ N, A % 9 = N := ⟨_, rfl⟩
      rw [hN] at ht
      have hN9 : N < 9 := by omega
      obtain ⟨f1, f2, f3⟩ := AI.out.fin (by omega) hN9 (A := A) hfb
      have FU := Lib.hid fun w' => full_any A w'
      have LB := Lib.hid (fullL_bts hA)
      have LL := Lib.hid (fullL_len A)
      obtain ⟨L, hL⟩ : ∃ L, fullL A = L := ⟨_, rfl⟩
      rw [hL] at f1 f2 f3 FU LB LL
      have F1 := Lib.hid f1; have F2 := Lib.hid f2; have F3 := Lib.hid f3
      have ex : IntKind.i64.wrap (N : Int) = (N : Int) := IntWalk.i64_in _ (by omega)
      have HLL := Lib.hid hL
      clear f1 f2 f3 hL hN
      go_wp2_with fail
      refine (sd_fork DI.out).mono ?_
      rintro e w3 ⟨d2, bs2, cap2, m2, rfl, h3, hd2, hbs2, hm2, k3⟩
      have FK3 := Lib.hid h3; have DI3 := Lib.hid (DI.out.same k3); have K3 := Lib.hid (HK.out.trans k3)
      clear h3 k3 DI HK
      go_wp2_with fail
      refine (FU.out _).mono ?_
      rintro e w4 ⟨g, rfl, ho, k4⟩
      go_wp2_with fail
      refine (sd_write (DI3.out.same k4) (N : Nat) (some ⟨g, 0, none⟩) 256 256 L LL.out.symm LB.out ho.nats).mono ?_
      rintro e w5 ⟨rfl, h5, k5⟩
      rw [F1.out]
      have DI5 := Lib.hid h5; have K5 := Lib.hid ((K3.out.trans k4).own k5 hd hbs hm); have FK5 := Lib.hid ((FK3.out.same k4).kept k5 (by intro q; rcases q with q | q | q <;> omega) (by intro q; rcases q with q | q | q <;> omega) (by intro q; rcases q with q | q | q <;> omega))
      clear h5 k5 k4 ho DI3 FK3 K3
      go_wp2_with fail
      refine (sd_sync DI5.out).mono ?_
      rintro e w6 ⟨rfl, h6, k6⟩
      rw [F2.out]
      have DI6 := Lib.hid h6; have K6 := Lib.hid (K5.out.own k6 hd hbs hm); have FK6 := Lib.hid (FK5.out.kept k6 (by intro q; rcases q with q | q | q <;> omega) (by intro q; rcases q with q | q | q <;> omega) (by intro q; rcases q with q | q | q <;> omega))
      clear h6 k6 DI5 FK5 K5
      go_wp2_with fail
      refine (sd_power DI6.out fa fl fc fs HFL.out hfc hfb (hfa.same K6.out)).mono ?_
      rintro e w7 ⟨rfl, h7, k7⟩
      have DI7 := Lib.hid h7; have K7 := Lib.hid (K6.out.own k7 hd hbs hm); have FK7 := Lib.hid (FK6.out.kept k7 (by intro q; rcases q with q | q | q <;> omega) (by intro q; rcases q with q | q | q <;> omega) (by intro q; rcases q with q | q | q <;> omega))
      clear h7 k7 DI6 FK6 K6 F1 F2
      generalize hE : powerD (syncD (writeD D (N : Nat) L).1).1 fs = E at *
      clear hE
      go_wp2_with fail
      go_loopw [11] (fun jv wr => ∃ j : Nat, jv = .int .i64 (j : Nat) ∧ j ≤ 9 ∧ DiskIn wr d bs cap m E ∧ DiskIn wr d2 bs2 cap2 m2 D ∧ Kept (fun _ => False) W wr) (fun jv _ => 9 - (intOf jv).toNat)
      case atStart => exact ⟨0, rfl, by omega, DI7.out, FK7.out, K7.out⟩
      case round =>
        clear DI7 FK7 K7
        obtain ⟨j, rfl, hj, hde, hdd, hk⟩ := hrel
        have DE := Lib.hid hde; have DD := Lib.hid hdd; have HK := Lib.hid hk
        clear hde hdd hk
        by_cases hgo : j < 9
        · have g1 : (j : Int) < 9 := by omega
          have g0 : (0 : Int) ≤ (j : Int) := by omega
          have hra := read_live F3.out.on (n := j) (by rw [F3.out.len]; exact hgo)
          have hrb := read_live AI.out.live.1 (n := j) (by rw [AI.out.len]; exact hgo)
          have RA := sd_read DE.out (j : Nat)
          have RB := fun w' (k : Same wr w') => sd_read (DD.out.same k) (j : Nat)
          rw [hra] at RA
          rw [hrb] at RB
          have hh := F3.out.has j hgo
          have xl := (getD_ok DD.out.ok.secs j).hasL
          have xe := (getD_ok DE.out.ok.secs j).hasL
          obtain ⟨xa, hxa⟩ : ∃ x, (E.s.getD j sec0).has = x := ⟨_, rfl⟩
          obtain ⟨xb, hxb⟩ : ∃ x, (D.s.getD j sec0).has = x := ⟨_, rfl⟩
          dsimp only at RA RB
          rw [hxa] at RA hh xe
          rw [hxb] at RB hh xl
          rw [HLL.out] at hh
          rw [xe] at RA
          rw [xl] at RB
          have RA := Lib.hid RA; have RB := Lib.hid RB; have XL := Lib.hid xl; have XE := Lib.hid xe; have HH := Lib.hid hh
          clear hra hrb hxa hxb xl xe hh
          go_wp2_with fail
          refine RA.out.mono ?_
          rintro e w8 ⟨pa, ca, rfl, na, -, k8⟩
          go_wp2_with fail
          refine (RB.out _ k8).mono ?_
          rintro e w9 ⟨pb, cb, rfl, nb, -, k9⟩
          have na9 := na.same k9
          have kd : Same w9 w9.drew := (Kept.refl _ w9).drew
          have DE9 := Lib.hid ((DE.out.same k8).same k9); have DD9 := Lib.hid ((DD.out.same k8).same k9); have K9 := Lib.hid ((HK.out.trans k8).trans k9)
          have hh := HH.out
          by_cases hjn : j = N
          · rw [if_pos hjn] at hh
            subst hjn
            subst hh
            have v1 := conv_str pa 256 ca xa w9.drew XE.out.symm (na9.same kd)
            have NA9 := Lib.hid na9
            have SS := Lib.hid fun w' (k : Same w9 w') => conv_str pa 256 ca xa w' XE.out.symm (NA9.out.same k)
            have S2 := Lib.hid fun w' g' (h : NatsAt w' .u8 (some ⟨g', 0, none⟩) xa) => conv_str (some ⟨g', 0, none⟩) 256 256 xa w' XE.out.symm h
            generalize strN xa = sx at *
            clear na nb na9 k8 k9 RA RB kd
            go_wp2_with fail
            refine wp_region_held_drew (S := fun w' => (convert 24 9 (.slice pa 256 ca)).run Try.prog w' = .ok (.string sx) w') (by kernel_rfl) v1 (fun hHeld => ?_)
            refine take_at (i := 0) (t := 100) (v := ?_) rfl rfl (by kernel_rfl) (by kernel_rfl) (by kernel_rfl) (fun _ _ _ h => h) (Or.inl ⟨by rfl, ?_⟩) (by assumption) ?_
            rotate_left
            · (intro w hSw; (try dsimp only at hSw); go_simp; (try with_reducible rfl))
            simp only [Act.put, List.setIfInBounds_toArray, List.set_cons_zero, List.set_cons_succ]
            refine take_at (i := 1) (t := 101) (v := ?_) rfl rfl (by kernel_rfl) (by kernel_rfl) (by kernel_rfl) (fun _ _ _ h => h) (Or.inl ⟨by rfl, ?_⟩) (by assumption) ?_
            rotate_left
            · (intro w hSw; (try dsimp only at hSw); go_simp; (try with_reducible rfl))
            simp only [Act.put, List.setIfInBounds_toArray, List.set_cons_zero, List.set_cons_succ]
            refine take_at (i := 2) (t := 102) (v := ?_) rfl rfl (by kernel_rfl) (by kernel_rfl) (by kernel_rfl) (fun _ _ _ h => h) (Or.inl ⟨by rfl, ?_⟩) (by assumption) ?_
            rotate_left
            · (intro w hSw; (try dsimp only at hSw); go_simp; (try with_reducible rfl))
            simp only [Act.put, List.setIfInBounds_toArray, List.set_cons_zero, List.set_cons_succ]
            refine take_at (i := 3) (t := 103) (v := ?_) rfl rfl (by kernel_rfl) (by kernel_rfl) (by kernel_rfl) (fun _ _ _ h => h) (Or.inl ⟨by rfl, ?_⟩) (by assumption) ?_
            rotate_left
            · (intro w hSw; (try dsimp only at hSw); go_simp; (try with_reducible rfl))
            simp only [Act.put, List.setIfInBounds_toArray, List.set_cons_zero, List.set_cons_succ]
            refine take_at (i := 4) (t := 104) (v := ?_) rfl rfl (by kernel_rfl) (by kernel_rfl) (by kernel_rfl) (fun _ _ _ h => h) (Or.inl ⟨by rfl, ?_⟩) (by assumption) ?_
            rotate_left
            · (intro w hSw; (try dsimp only at hSw); go_simp; (try with_reducible rfl))
            simp only [Act.put, List.setIfInBounds_toArray, List.set_cons_zero, List.set_cons_succ]
            refine take_at (i := 5) (t := 105) (v := ?_) rfl rfl (by kernel_rfl) (by kernel_rfl) (by kernel_rfl) (fun _ _ _ h => h) (Or.inl ⟨by rfl, ?_⟩) (by assumption) ?_
            rotate_left
            · (intro w hSw; (try dsimp only at hSw); go_simp; (try with_reducible rfl))
            simp only [Act.put, List.setIfInBounds_toArray, List.set_cons_zero, List.set_cons_succ]
            refine take_at (i := 6) (t := 106) (v := ?_) rfl rfl (by kernel_rfl) (by kernel_rfl) (by kernel_rfl) (fun _ _ _ h => h) (Or.inl ⟨by rfl, ?_⟩) (by assumption) ?_
            rotate_left
            · (intro w hSw; (try dsimp only at hSw); go_simp; (try with_reducible rfl))
            simp only [Act.put, List.setIfInBounds_toArray, List.set_cons_zero, List.set_cons_succ]
            refine take_at (i := 7) (t := 107) (v := ?_) rfl rfl (by kernel_rfl) (by kernel_rfl) (by kernel_rfl) (fun _ _ _ h => h) (Or.inl ⟨by rfl, ?_⟩) (by assumption) ?_
            rotate_left
            · (intro w hSw; (try dsimp only at hSw); go_simp; (try with_reducible rfl))
            simp only [Act.put, List.setIfInBounds_toArray, List.set_cons_zero, List.set_cons_succ]
            refine take_at (i := 8) (t := 108) (v := ?_) rfl rfl (by kernel_rfl) (by kernel_rfl) (by kernel_rfl) (fun _ _ _ h => h) (Or.inl ⟨by rfl, ?_⟩) (by assumption) ?_
            rotate_left
            · (intro w hSw; (try dsimp only at hSw); go_simp; (try with_reducible rfl))
            simp only [Act.put, List.setIfInBounds_toArray, List.set_cons_zero, List.set_cons_succ]
            refine take_at (i := 9) (t := 109) (v := ?_) rfl rfl (by kernel_rfl) (by kernel_rfl) (by kernel_rfl) (fun _ _ _ h => h) (Or.inl ⟨by rfl, ?_⟩) (by assumption) ?_
            rotate_left
            · (intro w hSw; (try dsimp only at hSw); go_simp; (try with_reducible rfl))
            simp only [Act.put, List.setIfInBounds_toArray, List.set_cons_zero, List.set_cons_succ]
            refine take_at (i := 10) (t := 110) (v := ?_) rfl rfl (by kernel_rfl) (by kernel_rfl) (by kernel_rfl) (fun _ _ _ h => h) (Or.inl ⟨by rfl, ?_⟩) (by assumption) ?_
            rotate_left
            · (intro w hSw; (try dsimp only at hSw); go_simp; (try with_reducible rfl))
            simp only [Act.put, List.setIfInBounds_toArray, List.set_cons_zero, List.set_cons_succ]
            refine take_at (i := 11) (t := 111) (v := undef) rfl rfl (by kernel_rfl) (by kernel_rfl) (by kernel_rfl) (fun _ _ _ h => h) (Or.inr ⟨by rfl, rfl⟩) (by assumption) ?_
            simp only [Act.put, List.setIfInBounds_toArray, List.set_cons_zero, List.set_cons_succ]
            refine take_at (i := 12) (t := 112) (v := undef) rfl rfl (by kernel_rfl) (by kernel_rfl) (by kernel_rfl) (fun _ _ _ h => h) (Or.inr ⟨by rfl, rfl⟩) (by assumption) ?_
            simp only [Act.put, List.setIfInBounds_toArray, List.set_cons_zero, List.set_cons_succ]
            refine take_at (i := 13) (t := 113) (v := undef) rfl rfl (by kernel_rfl) (by kernel_rfl) (by kernel_rfl) (fun _ _ _ h => h) (Or.inr ⟨by rfl, rfl⟩) (by assumption) ?_
            simp only [Act.put, List.setIfInBounds_toArray, List.set_cons_zero, List.set_cons_succ]
            refine take_at (i := 14) (t := 114) (v := undef) rfl rfl (by kernel_rfl) (by kernel_rfl) (by kernel_rfl) (fun _ _ _ h => h) (Or.inr ⟨by rfl, rfl⟩) (by assumption) ?_
            simp only [Act.put, List.setIfInBounds_toArray, List.set_cons_zero, List.set_cons_succ]
            refine take_at (i := 15) (t := 115) (v := undef) rfl rfl (by kernel_rfl) (by kernel_rfl) (by kernel_rfl) (fun _ _ _ h => h) (Or.inr ⟨by rfl, rfl⟩) (by assumption) ?_
            simp only [Act.put, List.setIfInBounds_toArray, List.set_cons_zero, List.set_cons_succ]
            refine take_at (i := 16) (t := 116) (v := ?_) rfl rfl (by kernel_rfl) (by kernel_rfl) (by kernel_rfl) (fun _ _ _ h => h) (Or.inl ⟨by rfl, ?_⟩) (by assumption) ?_
            rotate_left
            · (intro w hSw; (try dsimp only at hSw); go_simp; (try with_reducible rfl))
            simp only [Act.put, List.setIfInBounds_toArray, List.set_cons_zero, List.set_cons_succ]
            refine take_at (i := 17) (t := 117) (v := ?_) rfl rfl (by kernel_rfl) (by kernel_rfl) (by kernel_rfl) (fun _ _ _ h => h) (Or.inl ⟨by rfl, ?_⟩) (by assumption) ?_
            rotate_left
            · (intro w hSw; (try dsimp only at hSw); go_simp; (try with_reducible rfl))
            simp only [Act.put, List.setIfInBounds_toArray, List.set_cons_zero, List.set_cons_succ]
            refine take_at (i := 18) (t := 118) (v := ?_) rfl rfl (by kernel_rfl) (by kernel_rfl) (by kernel_rfl) (fun _ _ _ h => h) (Or.inl ⟨by rfl, ?_⟩) (by assumption) ?_
            rotate_left
            · (intro w hSw; (try dsimp only at hSw); go_simp; (try with_reducible rfl))
            simp only [Act.put, List.setIfInBounds_toArray, List.set_cons_zero, List.set_cons_succ]
            refine take_at (i := 19) (t := 119) (v := ?_) rfl rfl (by kernel_rfl) (by kernel_rfl) (by kernel_rfl) (fun _ _ _ h => h) (Or.inl ⟨by rfl, ?_⟩) (by assumption) ?_
            rotate_left
            · (intro w hSw; (try dsimp only at hSw); go_simp; (try with_reducible rfl))
            simp only [Act.put, List.setIfInBounds_toArray, List.set_cons_zero, List.set_cons_succ]
            refine take_at (i := 20) (t := 120) (v := ?_) rfl rfl (by kernel_rfl) (by kernel_rfl) (by kernel_rfl) (fun _ _ _ h => h) (Or.inl ⟨by rfl, ?_⟩) (by assumption) ?_
            rotate_left
            · (intro w hSw; (try dsimp only at hSw); go_simp; (try with_reducible rfl))
            simp only [Act.put, List.setIfInBounds_toArray, List.set_cons_zero, List.set_cons_succ]
            refine take_at (i := 21) (t := 121) (v := ?_) rfl rfl (by kernel_rfl) (by kernel_rfl) (by kernel_rfl) (fun _ _ _ h => h) (Or.inl ⟨by rfl, ?_⟩) (by assumption) ?_
            rotate_left
            · (intro w hSw; (try dsimp only at hSw); go_simp; (try with_reducible rfl))
            simp only [Act.put, List.setIfInBounds_toArray, List.set_cons_zero, List.set_cons_succ]
            refine take_at (i := 22) (t := 122) (v := ?_) rfl rfl (by kernel_rfl) (by kernel_rfl) (by kernel_rfl) (fun _ _ _ h => h) (Or.inl ⟨by rfl, ?_⟩) (by assumption) ?_
            rotate_left
            · (intro w hSw; (try dsimp only at hSw); go_simp; (try with_reducible rfl))
            simp only [Act.put, List.setIfInBounds_toArray, List.set_cons_zero, List.set_cons_succ]
            refine take_at (i := 23) (t := 123) (v := ?_) rfl rfl (by kernel_rfl) (by kernel_rfl) (by kernel_rfl) (fun _ _ _ h => h) (Or.inl ⟨by rfl, ?_⟩) (by assumption) ?_
            rotate_left
            · (intro w hSw; (try dsimp only at hSw); go_simp; (try with_reducible rfl))
            simp only [Act.put, List.setIfInBounds_toArray, List.set_cons_zero, List.set_cons_succ]
            refine take_at (i := 24) (t := 124) (v := ?_) rfl rfl (by kernel_rfl) (by kernel_rfl) (by kernel_rfl) (fun _ _ _ h => h) (Or.inl ⟨by rfl, ?_⟩) (by assumption) ?_
            rotate_left
            · (intro w hSw; (try dsimp only at hSw); go_simp; (try with_reducible rfl))
            simp only [Act.put, List.setIfInBounds_toArray, List.set_cons_zero, List.set_cons_succ]
            refine take_at (i := 25) (t := 125) (v := ?_) rfl rfl (by kernel_rfl) (by kernel_rfl) (by kernel_rfl) (fun _ _ _ h => h) (Or.inl ⟨by rfl, ?_⟩) (by assumption) ?_
            rotate_left
            · (intro w hSw; (try dsimp only at hSw); go_simp; (try with_reducible rfl))
            simp only [Act.put, List.setIfInBounds_toArray, List.set_cons_zero, List.set_cons_succ]
            refine wpAnyH_ready (rs := [26]) (by kernel_rfl) (by simp) ?_
            refine AllReadyH.cons rfl (fun K hK => ?_) AllReadyH.nil
            go_simp
            refine (FU.out _).mono ?_
            rintro e w10 ⟨g', rfl, ho, k10⟩
            have K10 := Lib.hid (show Same w9 w10 from ⟨k10.os, k10.tape, k10.output, k10.size, k10.block⟩)
            have v10 := SS.out w10 K10.out
            have v11 := S2.out w10 g' ho.nats
            clear ho k10
            dsimp only
            refine hK.out _ _ ?_ (fun hHeld2 => ?_)
            · exact v10
            clear hK K hHeld
            refine wpAnyH_ready (rs := [27]) (by kernel_rfl) (by simp) ?_
            refine AllReadyH.cons rfl (fun K hK => ?_) AllReadyH.nil
            go_simp
            refine hK.out _ _ ?_ (fun hHeld3 => ?_)
            · exact v10
            clear hK K hHeld2
            refine take_at (i := 28) (t := 128) (v := ?_) rfl rfl (by kernel_rfl) (by kernel_rfl) (by kernel_rfl) (fun _ _ _ h => h) (Or.inl ⟨by rfl, ?_⟩) (by assumption) ?_
            rotate_left
            · (intro w hSw; (try dsimp only at hSw); go_simp; (try with_reducible rfl))
            simp only [Act.put, List.setIfInBounds_toArray, List.set_cons_zero, List.set_cons_succ]
            refine take_at (i := 29) (t := 129) (v := ?_) rfl rfl (by kernel_rfl) (by kernel_rfl) (by kernel_rfl) (fun _ _ _ h => h) (Or.inl ⟨by rfl, ?_⟩) (by assumption) ?_
            rotate_left
            · (intro w hSw; (try dsimp only at hSw); go_simp; (try with_reducible rfl))
            simp only [Act.put, List.setIfInBounds_toArray, List.set_cons_zero, List.set_cons_succ]
            refine take_at (i := 30) (t := 130) (v := ?_) rfl rfl (by kernel_rfl) (by kernel_rfl) (by kernel_rfl) (fun _ _ _ h => h) (Or.inl ⟨by rfl, ?_⟩) (by assumption) ?_
            rotate_left
            · (intro w hSw; (try dsimp only at hSw); go_simp; (try with_reducible rfl))
            simp only [Act.put, List.setIfInBounds_toArray, List.set_cons_zero, List.set_cons_succ]
            refine wpAnyH_done (by kernel_rfl) ?_ _
            go_wp2_with fail
            go_roundw
            case rel => exact ⟨j + 1, by go_num, by omega, DE9.out.same K10.out, DD9.out.same K10.out, K9.out.trans K10.out⟩
            case measure => simp [intOf]; omega
          · rw [if_neg hjn] at hh
            subst hh
            have v1 := fun d os => conv_str pa 256 ca xa (grow (redrawn w9 d) os) XE.out.symm (na9.same (Kept.of_below (below_regrown _ d os)))
            have v2 := fun d os => conv_str pb 256 cb xa (grow (redrawn w9 d) os) XE.out.symm (nb.same (Kept.of_below (below_regrown _ d os)))
            have hjn1 : ¬ (j : Int) = (N : Int) := by omega
            generalize strN xa = sx at *
            clear na nb na9 k8 k9 RA RB
            go_wp2_with fail
            refine wp_region_quiet_below (by kernel_rfl) (by kernel_rfl) ?_
            repeat (quiet_step ((fail)))
            refine wpQuiet_nil ?_
            intro _ hw'
            obtain ⟨⟨dq, osq⟩, hw''⟩ := hw'
            subst hw''
            have kq := Lib.hid (show Same w9 _ from Kept.of_below (below_regrown w9 dq osq))
            go_wp2_with fail
            go_roundw
            case rel => exact ⟨j + 1, by go_num, by omega, DE9.out.same kq.out, DD9.out.same kq.out, K9.out.trans kq.out⟩
            case measure => simp [intOf]; omega
        · have e9 : j = 9 := by omega
          subst e9
          obtain ⟨cc, hcc⟩ : ∃ cc, D.calls = cc := ⟨_, rfl⟩
          have hc1 := AI.out.cal
          have CF := sd_calls DD.out
          have CD := sd_calls DE.out
          rw [F3.out.cal, hcc] at CD
          rw [hcc] at CF hc1
          have CF := Lib.hid CF; have CD := Lib.hid CD
          have hc2 : 0 ≤ cc := hc1.1
          have hc3 : cc ≤ 40 := by omega
          clear hcc hc1
          go_wp2_with fail
          refine CF.out.mono ?_
          rintro e w8 ⟨rfl, rfl⟩
          go_wp2_with fail
          refine CD.out.mono ?_
          rintro e w9 ⟨rfl, rfl⟩
          go_wp2_with fail
          refine (sec_awake _).mono ?_
          rintro e w10 ⟨rfl, k10⟩
          go_wp2_with fail
          go_ret
          exact ⟨rfl, HK.out.trans k10⟩
end Go.Proofs.Ytlmpkonfclnceaa
