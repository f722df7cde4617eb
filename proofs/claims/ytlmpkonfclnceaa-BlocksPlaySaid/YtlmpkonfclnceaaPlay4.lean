/- BlocksPlay: the walk. -/
import Derived.Test.YtlmpkonfclnceaaDo4
import Derived.Test.YtlmpkonfclnceaaGBlk
import Derived.Deep.Cut
import Derived.Deep.CutRange
namespace Go.Proofs.Ytlmpkonfclnceaa
open Go.RowKit Go.Sort

/-- The world under a letter, with what is known of it. -/
theorem cutW {P : Program} {c : Code} {Q : Exit → Act → World → Prop} {a : Act} {w : World} (R : World → Prop) (h : R w) (k : ∀ wn, R wn → Code.wp P c Q a wn) : Code.wp P c Q a w := k w h
/-- Both disks, and the variables. -/
structure Both4 (W wr : World) (d bs cap m x y z : Nat) (a : Option Addr) (c : Nat) (D : Dsk) (f q : Int) : Prop where
  b3 : Both3 W wr d bs cap m x a c D
  ar : Blk wr y #[.int .i64 f, .int .i64 q] 67
  ab : Blk wr z #[.int .i64 f, .int .i64 q] 57
theorem Both4.to {W w w' : World} {d bs cap m x y z : Nat} {a : Option Addr} {c : Nat} {D : Dsk} {f q : Int} (h : Both4 W w d bs cap m x y z a c D f q) (k : Same w w') : Both4 W w' d bs cap m x y z a c D f q :=
  ⟨h.b3.to k, h.ar.kept k (fun h => h), h.ab.kept k (fun h => h)⟩
def Some4 (W wr : World) (d bs cap m x y z : Nat) (D : Dsk) (f q : Int) : Prop := ∃ a c, Both4 W wr d bs cap m x y z a c D f q
set_option maxRecDepth 100000 in
set_option maxHeartbeats 1600000 in
theorem play4_any (W : World) (s : Nat) (hs : s < 256) (f q : Int) (a0 : Option Addr) (len cap0 : Nat) (hacts : len = 0 ∨ ∃ b off, a0 = some ⟨b, off, none⟩ ∧ b < W.heap.size ∧ Acts4 W b off len) :
    Calls Try.prog 9 #[.int .u8 (s : Nat), .agg #[.int .i64 f, .int .i64 q], .slice a0 len cap0] W fun e w' => e = .returned (.bool true) ∧ Same W w' := by
  obtain ⟨r, hfew, hr⟩ := few4 W a0 len cap0 16 (by decide) hacts
  have FEW := Lib.hid hfew
  clear hfew
  cases r
  · clear hacts hr
    go_enter Try.func9, Try.ntmps9
    go_wp2_with fail
    refine (FEW.out _ ((Kept.refl _ W).alloc _)).mono ?_
    rintro e w1 ⟨rfl, rfl⟩
    go_wp2_with fail
    refine (aw04 _).mono ?_
    rintro e w9 ⟨rfl, k9⟩
    go_wp2_with fail
    go_ret
    exact ⟨rfl, ((Kept.refl _ W).alloc _).trans k9⟩
  have hl16 : len ≤ 16 := by have := hr rfl; omega
  have ht : (s : Int).tmod 61 = ((s % 61 : Nat) : Int) := by rw [Int.tmod_eq_emod_of_nonneg (by omega)]; omega
  obtain ⟨N, hN⟩ : ∃ N, s % 61 = N := ⟨_, rfl⟩
  rw [hN] at ht
  have hN61 : (N : Int) < 61 := by omega
  clear hr hN
  go_enter Try.func9, Try.ntmps9
  go_wp2_with fail
  have F1 : Hid (Fr (W.alloc (.cells #[.int .i64 f, .int .i64 q] 67)) [(W.heap.size, #[.int .i64 f, .int .i64 q], 67)]) := ⟨Blk.new _ _ _, trivial⟩
  have K1 : Hid (Same W (W.alloc (.cells #[.int .i64 f, .int .i64 q] 67))) := (Kept.refl _ _).alloc _
  refine (FEW.out _ K1.out).mono ?_
  rintro e w1 ⟨rfl, rfl⟩
  go_wp2_with fail
  refine (sd_new N _).mono ?_
  rintro e w2 ⟨d, bs, cap, m, rfl, h2, hd, hbs, hm, k2⟩
  have H2 := Lib.hid h2; have K2 := Lib.hid (K1.out.trans k2); have F2 := Lib.hid (F1.out.same k2)
  have l1 := h2.box.lt; have l2 := h2.safe.lt; have l3 := h2.map.lt
  have hd1 : W.heap.size < d := by simp at hd; omega
  have hbs1 : W.heap.size < bs := by simp at hbs; omega
  have hm1 : W.heap.size < m := by simp at hm; omega
  clear h2 k2 hd hbs hm F1 K1
  go_wp2_with fail
  refine (rs_new N w2).mono ?_
  rintro e w3 ⟨ra, rc, rfl, ⟨hs3, hf3⟩, k3⟩
  have HF3 := Lib.hid (off_next (a := none) (fun y hy => by cases hy) H2.out (Nat.le_refl _) (.inr hf3))
  have H3 := Lib.hid (H2.out.same k3)
  have S3 := Lib.hid hs3
  have K3 := Lib.hid (K2.out.trans k3)
  have F3 := Lib.hid (F2.out.same k3)
  have hz3 := k3.size
  clear H2 K2 F2 hs3 hf3 k3
  obtain ⟨p0, f0, -⟩ := F3.out.rules
  have z0 := F3.out.1.lt
  simp only [refV]
  go_wp2_with fail
  obtain ⟨x, hx⟩ : ∃ x, w3.heap.size = x := ⟨_, rfl⟩
  have dx1 : d < x := by omega
  have dx2 : bs < x := by omega
  have dx3 : m < x := by omega
  have hWx : W.heap.size < x := by omega
  refine cutW (fun wn => Both4 W wn d bs cap m x W.heap.size (x + 1) ra rc (newD (N : Int)) f q) ?_ ?_
  · have k9 : Same w3 ((w3.alloc (.cells #[.slice ra (newD (N : Int)).s.length rc, .bool (newD (N : Int)).off, .int .i64 (newD (N : Int)).calls, .int .i64 (newD (N : Int)).after, .bool (newD (N : Int)).done] 43)).alloc (.cells #[.int .i64 f, .int .i64 q] 57)) := ((Kept.refl _ _).alloc _).alloc _
    rw [← hx]
    exact ⟨⟨H3.out.same k9, S3.out.same k9, HF3.out, (Blk.new _ _ _).alloc _, K3.out.trans k9⟩, F3.out.1.kept k9 (fun h => h), Blk.new' _ _ _ (by simp)⟩
  rw [hx]
  intro wn hB
  have BB := Lib.hid hB
  clear hx hz3 p0 f0 z0 H3 S3 K3 F3 HF3 hB l1 l2 l3
  generalize newD (N : Int) = D0 at *
  obtain ⟨E, hE⟩ : ∃ E, errA D0.s.length f q = E := ⟨_, rfl⟩
  have C1 : Hid (∀ dq os, Calls Try.prog 33 #[.pointer (some ⟨d, 0, none⟩), .agg #[.int .i64 f, .int .i64 q]] (grow (redrawn wn dq) os) fun e w'' => e = .returned (.int .i64 (E : Nat)) ∧ ∃ p : Regrown, w'' = grow (redrawn wn p.d) p.os) := fun dq os => Calls.quiet_sameS (by rw [← hE]; exact bl_check (BB.out.b3.disk.same (Kept.of_below (below_regrown wn dq os))) f q)
  have C2 : Hid (∀ dq os, Calls Try.prog 34 #[.agg #[.slice ra D0.s.length rc, .bool D0.off, .int .i64 D0.calls, .int .i64 D0.after, .bool D0.done], .agg #[.int .i64 f, .int .i64 q]] (grow (redrawn wn dq) os) fun e w'' => e = .returned (.int .i64 (E : Nat)) ∧ ∃ p : Regrown, w'' = grow (redrawn wn p.d) p.os) := fun dq os => Calls.quiet_sameS (by rw [← hE]; exact rb_check ra D0.s.length rc D0 rfl BB.out.b3.disk.ok.few f q _)
  have C3 : Hid (∀ dq os, Calls Try.prog 33 #[.pointer none, .agg #[.int .i64 f, .int .i64 q]] (grow (redrawn wn dq) os) fun e w'' => e = .returned (.int .i64 1) ∧ ∃ p : Regrown, w'' = grow (redrawn wn p.d) p.os) := fun dq os => Calls.quiet_sameS (bl_check_nil f q _)
  have G0 := fun dq os i => cell_blk (BB.out.b3.box.kept (Kept.of_below (below_regrown wn dq os)) (fun h => h)) i
  have G1 := fun dq os i => cell_blk (BB.out.ar.kept (Kept.of_below (below_regrown wn dq os)) (fun h => h)) i
  have G2 := fun dq os i => cell_blk (BB.out.ab.kept (Kept.of_below (below_regrown wn dq os)) (fun h => h)) i
  simp only [refC] at G0
  clear hE
  refine wp_region_quiet_below (by kernel_rfl) (by kernel_rfl) ?_
  repeat (first | go_big_quiet_step (first | with_reducible exact C1.out _ _ | with_reducible exact C2.out _ _ | with_reducible exact C3.out _ _) | quiet_step (first | with_reducible exact C1.out _ _ | with_reducible exact C2.out _ _ | with_reducible exact C3.out _ _))
  refine wpQuiet_nil ?_
  intro _ hw'
  obtain ⟨⟨dq, osq⟩, hw''⟩ := hw'
  subst hw''
  have kq := Lib.hid (show Same wn _ from Kept.of_below (below_regrown wn dq osq))
  have B0 := Lib.hid (BB.out.to kq.out)
  clear kq C1 C2 C3 G0 G1 G2 BB
  generalize hW8 : grow (redrawn wn dq) osq = w8 at *
  clear hW8
  go_wp2_with fail
  go_loopw [11, 12] (fun ov iv wr => ∃ (i : Nat) (D : Dsk) (a : Option Addr) (c : Nat), ov = .bool true ∧ iv = .int .i64 (i : Nat) ∧ i ≤ len ∧ Both4 W wr d bs cap m x W.heap.size (x + 1) a c D f q) (fun _ iv _ => len - (intOf iv).toNat)
  case atStart => exact ⟨0, D0, ra, rc, rfl, rfl, by omega, B0.out⟩
  case round =>
    clear B0
    obtain ⟨i, D, a, c, rfl, rfl, hi, hb⟩ := hrel
    have BB := Lib.hid hb
    have p0 := cell_blk hb.b3.box
    have f0 := fun i => hb.b3.box.free i
    have z0 := hb.b3.box.lt
    have p1 := cell_blk hb.ar
    have p2 := cell_blk hb.ab
    have HK := hb.b3.same
    simp only [refC] at p0
    clear hb
    by_cases hgo : i < len
    · obtain ⟨ab, ao, rfl, hab, hact⟩ := hacts.resolve_left (by omega)
      obtain ⟨k, n, ba, bl, bc, body, ac0⟩ := hact i hgo
      have ac := ac0.same HK hab
      have habr := Nat.lt_of_lt_of_le hab HK.size
      obtain ⟨k2, n2, cc, u, dn, fa, fl, fc, fs, ad0⟩ := ac0.d
      have ad := ad0.same HK hab
      have c0 := ac.c0
      have c1 := ac.c1
      have c2 := ac.c2
      have c3 := ad.c0
      have c4 : wr.cell? ⟨ab, ao + i * 9 + 4, none⟩ = some (.int .i64 n2) := ad.c1
      have c5 : wr.cell? ⟨ab, ao + i * 9 + 5, none⟩ = some (.int .u8 (cc : Nat)) := ad.c2
      have c6 : wr.cell? ⟨ab, ao + i * 9 + 6, none⟩ = some (.int .u8 (u : Nat)) := ad.c3
      have c7 : wr.cell? ⟨ab, ao + i * 9 + 7, none⟩ = some (.bool dn) := ad.c4
      have c8 : wr.cell? ⟨ab, ao + i * 9 + 8, none⟩ = some (.slice fa fl fc) := ad.c5
      have e1 := BB.out.b3.disk.box.lt
      have e2 := BB.out.b3.disk.safe.lt
      have e3 := BB.out.b3.disk.map.lt
      have g1 : (i : Int) < (len : Int) := by omega
      have g0 : (0 : Int) ≤ (i : Int) := by omega
      have hdo : ∀ (j : Nat), W.heap.size ≤ j ∧ (j = W.heap.size ∨ x ≤ j) → ¬ dod d bs m j := by rintro j ⟨h1, h2⟩ (q | q | q) <;> omega
      have hdn : ∀ (j : Nat), j < W.heap.size → ¬ dod d bs m j := by rintro j h1 (q | q | q) <;> omega
      obtain ⟨R, hR⟩ : ∃ R, doB D f q k n body k2 n2 cc u dn fs = R := ⟨_, rfl⟩
      have DO : Hid (∀ w', Same wr w' → Calls Try.prog 35 #[.pointer (some ⟨d, 0, none⟩), .agg #[.slice a D.s.length c, .bool D.off, .int .i64 D.calls, .int .i64 D.after, .bool D.done], .agg #[.int .i64 f, .int .i64 q], .agg #[.int .u8 (k : Nat), .int .i64 n, .slice ba bl bc, .int .u8 (k2 : Nat), .int .i64 n2, .int .u8 (cc : Nat), .int .u8 (u : Nat), .bool dn, .slice fa fl fc]] w' (DoPost4 w' d bs cap m a R)) := fun w' kk => hR ▸ do4_any (BB.out.b3.disk.same kk) a c (BB.out.b3.secs.same kk) BB.out.b3.off f q k n ba bl bc body ac.bl_ ac.bc_ ac.bb (ac.at_.same kk) ((nats_lt ac0.at_).imp id (fun z y hy => hdn _ (z y hy)))
        k2 n2 cc u dn fa fl fc fs ad.kb ad.nb ad.cb ad.ub ad.fl_ ad.fc_ ad.fb (ad.at_.same kk) ((nats_lt ad0.at_).imp id (fun z y hy => hdn _ (z y hy)))
      have hx9 := Lib.hid (hdo x ⟨by omega, .inr (Nat.le_refl _)⟩)
      have HDO := Lib.hid hdo
      have AC0 := Lib.hid ac0
      have HAB := Lib.hid hab
      clear hR ac ad ad0 ac0 hdo hdn hact HK hab
      go_wp2_with fail
      go_cut [11] from 41 to 111 (fun ov wx => ov = .bool true ∧ Some4 W wx d bs cap m x W.heap.size (x + 1) R f q)
      case first =>
        go_region_with (go_at_call 35; refine (DO.out _ (by repeat (first | with_reducible exact Kept.refl _ _ | with_reducible refine Kept.drew ?_))).mono ?_; rintro e w9 ⟨a9, c9, rfl, ⟨hs9, hf9⟩, hd9, k9⟩; simp only [refV]; have HS9 := Lib.hid hs9; have HD9 := Lib.hid hd9; have HF9 := Lib.hid (off_next BB.out.b3.off BB.out.b3.disk (Kept.size (fp := fun _ => False) (by repeat (first | with_reducible exact Kept.refl _ _ | with_reducible refine Kept.drew ?_))) hf9); have K9 := Lib.hid (show Kept (dod d bs m) wr w9 from Kept.trans (by repeat (first | with_reducible exact Kept.refl _ _ | with_reducible refine Kept.drew ?_)) k9); have B9 := Lib.hid (show Blk w9 x (refC a D.s.length c D) 43 from BB.out.b3.box.kept K9.out hx9.out); have r0 := cell_blk B9.out; have s0 := fun i => B9.out.free i; have y0 := B9.out.lt; simp only [refC] at r0; clear hs9 hf9 hd9 k9)
        all_goals
          have KW := Lib.hid (BB.out.b3.same.own K9.out (Nat.le_of_lt hd1) (Nat.le_of_lt hbs1) (Nat.le_of_lt hm1))
          have AR9 := Lib.hid (BB.out.ar.kept K9.out (HDO.out _ ⟨Nat.le_refl _, .inl rfl⟩))
          have AB9 := Lib.hid (BB.out.ab.kept K9.out (HDO.out _ ⟨by omega, .inr (by omega)⟩))
          clear DO
          go_wp2_with fail
          go_meet
          refine ⟨rfl, a9, c9, ⟨?_, ?_, HF9.out, ?_, ?_⟩, ?_, ?_⟩
          · refine HD9.out.kept (fp := fun j => j = x) ?_ (by omega) (by omega) (by omega)
            repeat (first | with_reducible exact Kept.refl _ _ | with_reducible refine Kept.drew ?_ | with_reducible refine Kept.setG ?_ _ _)
          · refine SecsAt.apart HS9.out B9.out ?_ (nostr5 _ _ _ _ _ _ _)
            repeat (first | with_reducible exact Kept.refl _ _ | with_reducible refine Kept.drew ?_ | with_reducible refine Kept.setG ?_ _ _)
          · simp only [refC]
            with_reducible refine Blk.set5 (v0 := .slice a D.s.length c) (v1 := .bool D.off) (v2 := .int .i64 D.calls) (v3 := .int .i64 D.after) (v4 := .bool D.done) ?_
            have b9 : Blk w9 x #[.slice a D.s.length c, .bool D.off, .int .i64 D.calls, .int .i64 D.after, .bool D.done] 43 := B9.out
            repeat (first | with_reducible exact b9 | with_reducible refine Blk.drew ?_)
          · repeat (first | with_reducible exact KW.out | with_reducible refine Kept.drew ?_ | with_reducible refine Kept.setNew ?_ (by dsimp only; omega) _)
          · refine AR9.out.kept (fp := fun j => j = x) ?_ (by omega)
            repeat (first | with_reducible exact Kept.refl _ _ | with_reducible refine Kept.drew ?_ | with_reducible refine Kept.setG ?_ _ _)
          · refine AB9.out.kept (fp := fun j => j = x) ?_ (by omega)
            repeat (first | with_reducible exact Kept.refl _ _ | with_reducible refine Kept.drew ?_ | with_reducible refine Kept.setG ?_ _ _)
      case rest =>
        obtain ⟨rfl, a9, c9, hB9⟩ := hcut
        have B9 := Lib.hid hB9
        have q0 := cell_blk hB9.b3.box
        have q1 := cell_blk hB9.ar
        have q2 := cell_blk hB9.ab
        have y0 := hB9.b3.box.lt
        have d1 := (AC0.out.same hB9.b3.same HAB.out).c1
        have habc := Nat.lt_of_lt_of_le HAB.out hB9.b3.same.size
        simp only [refC] at q0
        obtain ⟨P, hP⟩ : ∃ P, readB R f q n = P := ⟨_, rfl⟩
        obtain ⟨L, hL⟩ : ∃ L, secsA f q n = L := ⟨_, rfl⟩
        have HLL : Hid (L.length ≤ 1000000) := by
          show L.length ≤ 1000000
          rw [← hL]; unfold secsA; split <;> simp
        have RD : Hid (∀ w', Same wc w' → Calls Try.prog 31 #[.pointer (some ⟨d, 0, none⟩), .agg #[.int .i64 f, .int .i64 q], .int .i64 n] w' fun e w'' => Told w' w'' e P) := fun w' kk => hP ▸ bl_read (B9.out.b3.disk.same kk) f q n
        have RF : Hid (∀ w', Same wc w' → Calls Try.prog 36 #[.agg #[.slice a9 R.s.length c9, .bool R.off, .int .i64 R.calls, .int .i64 R.after, .bool R.done], .agg #[.int .i64 f, .int .i64 q], .int .i64 n] w' fun e w'' => Told w' w'' e P) := fun w' kk => hP ▸ rb_read a9 c9 R B9.out.b3.disk.ok f q n w' (B9.out.b3.secs.same kk)
        have SX : Hid (∀ w', Calls Try.prog 32 #[.agg #[.int .i64 f, .int .i64 q], .int .i64 n] w' fun e w'' => ∃ a c, e = .returned (.slice a L.length c) ∧ NatsAt w'' .i64 a L ∧ ((a = none → c = 0) ∧ Far w' a) ∧ Same w' w'') := fun w' => hL ▸ bl_sectors f q n w'
        have SY : Hid (∀ w', Calls Try.prog 38 #[.agg #[.int .i64 f, .int .i64 q], .int .i64 n] w' fun e w'' => ∃ a c, e = .returned (.slice a L.length c) ∧ NatsAt w'' .i64 a L ∧ ((a = none → c = 0) ∧ Far w' a) ∧ Same w' w'') := fun w' => hL ▸ rb_sectors f q n w'
        have QQ : Hid (∀ w', Same wc w' → ((∀ i, w'.cell? ⟨x, i, none⟩ = (#[.slice a9 R.s.length c9, .bool R.off, .int .i64 R.calls, .int .i64 R.after, .bool R.done] : Array Value)[i]?) ∧ (∀ i, w'.cell? ⟨W.heap.size, i, none⟩ = (#[.int .i64 f, .int .i64 q] : Array Value)[i]?) ∧ (∀ i, w'.cell? ⟨x + 1, i, none⟩ = (#[.int .i64 f, .int .i64 q] : Array Value)[i]?) ∧ w'.cell? ⟨ab, ao + i * 9 + 1, none⟩ = some (.int .i64 n))) := by
          intro w' kk
          exact ⟨cell_blk (B9.out.b3.box.kept kk (fun h => h)), cell_blk (B9.out.ar.kept kk (fun h => h)), cell_blk (B9.out.ab.kept kk (fun h => h)), (kk.cell (p := ⟨ab, ao + i * 9 + 1, none⟩) habc (fun h => h)).trans d1⟩
        have KN := Lib.hid (Kept.refl (fun _ => False) wc)
        clear hB9 hP hL BB p0 f0 z0 p1 p2 c0 c1 c2 c3 c4 c5 c6 c7 c8 DO
        go_wp2_with fail
        go_region_held3 (fun w' => ((∀ i, w'.cell? ⟨x + 1, i, none⟩ = (#[.int .i64 f, .int .i64 q] : Array Value)[i]?) ∧ w'.cell? ⟨ab, ao + i * 9 + 1, none⟩ = some (.int .i64 n)))
          ((refine ⟨(QQ.out _ ?_).2.2.1, (QQ.out _ ?_).2.2.2⟩ <;> (first | with_reducible exact KN.out | with_reducible exact KN.out.drew)))
          ((go_at_call 31; refine (RD.out _ (by first | with_reducible exact KN.out | with_reducible exact KN.out.drew)).mono ?_; rintro e w6 ⟨a6, c6, rfl, n6, -, k6⟩; have N6 := Lib.hid n6; have KN' := Lib.hid (show Same wc w6 from Kept.trans (by first | with_reducible exact KN.out | with_reducible exact KN.out.drew) k6); clear KN k6; have KN := KN'; clear KN'))
        have KX := Lib.hid (Kept.refl (fun _ => False) w6)
        go_wp2_with fail
        go_region_held3 (fun w' => ((∀ i, w'.cell? ⟨x, i, none⟩ = (#[.slice a9 R.s.length c9, .bool R.off, .int .i64 R.calls, .int .i64 R.after, .bool R.done] : Array Value)[i]?) ∧ (∀ i, w'.cell? ⟨W.heap.size, i, none⟩ = (#[.int .i64 f, .int .i64 q] : Array Value)[i]?) ∧ w'.cell? ⟨ab, ao + i * 9 + 1, none⟩ = some (.int .i64 n)))
          ((refine ⟨(QQ.out _ ?_).1, (QQ.out _ ?_).2.1, (QQ.out _ ?_).2.2.2⟩ <;> (first | with_reducible exact KN.out | with_reducible exact KN.out.drew)))
          ((go_at_call 36; refine (RF.out _ (by first | with_reducible exact KN.out | with_reducible exact KN.out.drew)).mono ?_; rintro e w7 ⟨a7, c7, rfl, n7, -, k7⟩; have N7 := Lib.hid n7; have N6' := Lib.hid (NatsAt.same (by first | with_reducible exact N6.out | exact N6.out.same (Kept.refl _ _).drew) k7); have KN' := Lib.hid (show Same wc w7 from Kept.trans (by first | with_reducible exact KN.out | with_reducible exact KN.out.drew) k7); clear KN k7; have KN := KN'; clear KN'))
        have QV : Hid (∀ w', Same w7 w' → ((convert 24 9 (.slice a6 P.1.length c6)).run Try.prog w' = .ok (.string (strN P.1)) w' ∧ (convert 24 9 (.slice a7 P.1.length c7)).run Try.prog w' = .ok (.string (strN P.1)) w')) := fun w' kk => ⟨conv_str a6 P.1.length c6 P.1 w' rfl (N6'.out.same kk), conv_str a7 P.1.length c7 P.1 w' rfl (N7.out.same kk)⟩
        have KM := Lib.hid (Kept.refl (fun _ => False) w7)
        clear N6 N6' N7 RD RF KX
        go_wp2_with fail
        go_region_held3 (fun w' => ((∀ i, w'.cell? ⟨W.heap.size, i, none⟩ = (#[.int .i64 f, .int .i64 q] : Array Value)[i]?) ∧ (∀ i, w'.cell? ⟨x + 1, i, none⟩ = (#[.int .i64 f, .int .i64 q] : Array Value)[i]?) ∧ w'.cell? ⟨ab, ao + i * 9 + 1, none⟩ = some (.int .i64 n) ∧ (convert 24 9 (.slice a6 P.1.length c6)).run Try.prog w' = .ok (.string (strN P.1)) w' ∧ (convert 24 9 (.slice a7 P.1.length c7)).run Try.prog w' = .ok (.string (strN P.1)) w'))
          ((refine ⟨(QQ.out _ ?_).2.1, (QQ.out _ ?_).2.2.1, (QQ.out _ ?_).2.2.2, (QV.out _ ?_).1, (QV.out _ ?_).2⟩ <;> (first | with_reducible exact KN.out | with_reducible exact KN.out.drew | with_reducible exact KM.out | with_reducible exact KM.out.drew)))
          (first
            | (go_at_call 32; refine (SX.out _).mono ?_; rintro e w8 ⟨a8, c8, rfl, n8, -, k8⟩; have N8 := Lib.hid n8; have KN' := Lib.hid (show Same wc w8 from Kept.trans (by first | with_reducible exact KN.out | with_reducible exact KN.out.drew) k8); have KM' := Lib.hid (show Same w7 w8 from Kept.trans (by first | with_reducible exact KM.out | with_reducible exact KM.out.drew) k8); clear KN KM k8; have KN := KN'; have KM := KM'; clear KN' KM')
            | (go_at_call 38; refine (SY.out _).mono ?_; rintro e w10 ⟨a10, c10, rfl, n10, -, k10⟩; have N10 := Lib.hid n10; have N8' := Lib.hid (NatsAt.same (by first | with_reducible exact N8.out | exact N8.out.same (Kept.refl _ _).drew) k10); have KN' := Lib.hid (show Same wc w10 from Kept.trans (by first | with_reducible exact KN.out | with_reducible exact KN.out.drew) k10); have KM' := Lib.hid (show Same w7 w10 from Kept.trans (by first | with_reducible exact KM.out | with_reducible exact KM.out.drew) k10); clear KN KM k10; have KN := KN'; have KM := KM'; clear KN' KM')
            | (go_at_call 37; refine (bk_same _ _ _ _ _ L rfl HLL.out _ (by first | with_reducible exact N8'.out | exact N8'.out.same (Kept.refl _ _).drew) (by first | with_reducible exact N10.out | exact N10.out.same (Kept.refl _ _).drew)).mono ?_; rintro e w11 ⟨rfl, k11⟩; have KN' := Lib.hid (show Same wc w11 from Kept.trans (by first | with_reducible exact KN.out | with_reducible exact KN.out.drew) k11); have KM' := Lib.hid (show Same w7 w11 from Kept.trans (by first | with_reducible exact KM.out | with_reducible exact KM.out.drew) k11); clear KN KM k11; have KN := KN'; have KM := KM'; clear KN' KM'))
        have BE := Lib.hid (B9.out.to KN.out)
        clear QQ QV SX SY KM B9 q0 q1 q2
        go_wp2_with fail
        go_roundw
        case rel =>
          exact ⟨i + 1, R, a9, c9, rfl, by go_num, by omega, BE.out⟩
        case measure => simp [intOf]; omega
    · have g1 : ¬ (i : Int) < (len : Int) := by omega
      have SA : Hid (∀ w', Same wr w' → Calls Try.prog 22 #[.pointer (some ⟨d, 0, none⟩), .agg #[.slice a D.s.length c, .bool D.off, .int .i64 D.calls, .int .i64 D.after, .bool D.done]] w' fun e w'' => e = .returned (.int .i64 0) ∧ Same w' w'') := fun w' kk => same_any (BB.out.b3.disk.same kk) a c (BB.out.b3.secs.same kk)
      have SD : Hid (∀ w', Same wr w' → Calls Try.prog 39 #[.pointer (some ⟨d, 0, none⟩), .agg #[.int .i64 f, .int .i64 q]] w' fun e w'' => (∃ v, e = .returned v ∧ OwnN w'' w'.heap.size 3 .i64 v (soundB D f q)) ∧ Same w' w'') := fun w' kk => bl_sound (BB.out.b3.disk.same kk) f q
      have SR : Hid (∀ w', Same wr w' → Calls Try.prog 40 #[.agg #[.slice a D.s.length c, .bool D.off, .int .i64 D.calls, .int .i64 D.after, .bool D.done], .agg #[.int .i64 f, .int .i64 q]] w' fun e w'' => (∃ v, e = .returned v ∧ OwnN w'' w'.heap.size 3 .i64 v (soundB D f q)) ∧ Same w' w'') := fun w' kk => rb_sound a c D BB.out.b3.disk.ok f q w' (BB.out.b3.secs.same kk)
      have HLL : Hid ((soundB D f q).length ≤ 1000000) := by
        show (soundB D f q).length ≤ 1000000
        unfold soundB
        split
        · rename_i he
          have hk : q ≤ 512 := by
            unfold errA at he
            split at he
            · rename_i z; have := mayB_iff.1 z.1; omega
            · cases he
          refine Nat.le_trans (List.length_filter_le _ _) ?_
          rw [List.length_range]; omega
        · simp
      generalize soundB D f q = L at *
      have QQ : Hid (∀ w', Same wr w' → ((∀ i, w'.cell? ⟨x, i, none⟩ = (#[.slice a D.s.length c, .bool D.off, .int .i64 D.calls, .int .i64 D.after, .bool D.done] : Array Value)[i]?) ∧ (∀ i, w'.cell? ⟨W.heap.size, i, none⟩ = (#[.int .i64 f, .int .i64 q] : Array Value)[i]?) ∧ (∀ i, w'.cell? ⟨x + 1, i, none⟩ = (#[.int .i64 f, .int .i64 q] : Array Value)[i]?))) := by
        intro w' kk
        exact ⟨cell_blk (BB.out.b3.box.kept kk (fun h => h)), cell_blk (BB.out.ar.kept kk (fun h => h)), cell_blk (BB.out.ab.kept kk (fun h => h))⟩
      have KN := Lib.hid (Kept.refl (fun _ => False) wr)
      have BW := Lib.hid BB.out.b3.same
      clear BB p0 f0 z0 p1 p2 HK hacts FEW
      go_wp2_with fail
      go_region_held3 (fun w' => ((∀ i, w'.cell? ⟨x, i, none⟩ = (#[.slice a D.s.length c, .bool D.off, .int .i64 D.calls, .int .i64 D.after, .bool D.done] : Array Value)[i]?) ∧ (∀ i, w'.cell? ⟨W.heap.size, i, none⟩ = (#[.int .i64 f, .int .i64 q] : Array Value)[i]?) ∧ (∀ i, w'.cell? ⟨x + 1, i, none⟩ = (#[.int .i64 f, .int .i64 q] : Array Value)[i]?)))
        ((refine QQ.out _ ?_; (first | with_reducible exact KN.out | with_reducible exact KN.out.drew)))
        (first
          | (go_at_call 22; refine (SA.out _ (by first | with_reducible exact KN.out | with_reducible exact KN.out.drew)).mono ?_; rintro e w6 ⟨rfl, k6⟩; have KN' := Lib.hid (show Same wr w6 from Kept.trans (by first | with_reducible exact KN.out | with_reducible exact KN.out.drew) k6); clear KN k6; have KN := KN'; clear KN')
          | (go_at_call 39; refine (SD.out _ (by first | with_reducible exact KN.out | with_reducible exact KN.out.drew)).mono ?_; rintro e w8 ⟨⟨v8, rfl, o8⟩, k8⟩; obtain ⟨a8, l8, c8, rfl, hl8, -, n8, -⟩ := o8.rd; have hl := hl8.out; subst hl; have N8 := n8; clear n8 hl8 o8; have KN' := Lib.hid (show Same wr w8 from Kept.trans (by first | with_reducible exact KN.out | with_reducible exact KN.out.drew) k8); clear KN k8; have KN := KN'; clear KN')
          | (go_at_call 40; refine (SR.out _ (by first | with_reducible exact KN.out | with_reducible exact KN.out.drew)).mono ?_; rintro e w10 ⟨⟨v10, rfl, o10⟩, k10⟩; obtain ⟨a10, l10, c10, rfl, hl10, -, n10, -⟩ := o10.rd; have hl := hl10.out; subst hl; have N10 := n10; have N8' := Lib.hid (NatsAt.same (by first | with_reducible exact N8.out | exact N8.out.same (Kept.refl _ _).drew) k10); clear n10 hl10 o10; have KN' := Lib.hid (show Same wr w10 from Kept.trans (by first | with_reducible exact KN.out | with_reducible exact KN.out.drew) k10); clear KN k10; have KN := KN'; clear KN')
          | (go_at_call 37; refine (bk_same _ _ _ _ _ L rfl HLL.out _ (by first | with_reducible exact N8'.out | exact N8'.out.same (Kept.refl _ _).drew) (by first | with_reducible exact N10.out | exact N10.out.same (Kept.refl _ _).drew)).mono ?_; rintro e w11 ⟨rfl, k11⟩; have KN' := Lib.hid (show Same wr w11 from Kept.trans (by first | with_reducible exact KN.out | with_reducible exact KN.out.drew) k11); clear KN k11; have KN := KN'; clear KN')
          | (go_at_call 29; refine (aw04 _).mono ?_; rintro e w12 ⟨rfl, k12⟩; have KN' := Lib.hid (show Same wr w12 from Kept.trans (by first | with_reducible exact KN.out | with_reducible exact KN.out.drew) k12); clear KN k12; have KN := KN'; clear KN'))
      have KE := Lib.hid (BW.out.trans KN.out)
      go_wp2_with fail
      go_ret
      exact ⟨rfl, KE.out⟩
end Go.Proofs.Ytlmpkonfclnceaa
