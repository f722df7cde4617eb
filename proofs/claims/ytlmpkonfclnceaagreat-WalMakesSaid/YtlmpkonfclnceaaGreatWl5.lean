/- A log in memory: Sync. -/
import Derived.Test.YtlmpkonfclnceaaGreatWl4
import Derived.Deep.RegionHeld3
import Derived.Deep.AppendLies
namespace Go.Proofs.YtlmpkonfclnceaaGreat
open Go.RowKit Go.Sort

/-- The world under a letter, with what is known of it. -/
theorem cutWl {P : Program} {c : Code} {Q : Exit → Act → World → Prop} {a : Act} {w : World} (R : World → Prop) (h : R w) (k : ∀ wn, R wn → Code.wp P c Q a wn) : Code.wp P c Q a w := k w h
theorem packL_bts {e : Nat} {G : List (List (List Nat))} (h : ∀ g ∈ G, TBts g ∧ (bdy g).length ≤ 239) : ∀ (f : Nat) (x : List Nat), x ∈ packL e f G → Bts x := by
  induction G with
  | nil => intro f x hx; cases hx
  | cons g G ih =>
    intro f x hx
    rcases List.mem_cons.1 hx with rfl | hx
    · exact layS_bts _ _ (h g (by simp)).1 (h g (by simp)).2
    · exact ih (fun y hy => h y (by simp [hy])) (f + 1) x hx
theorem gs_ok {l : List (List Nat)} (hs : ∀ s ∈ l, s.length ≤ 238) (hb : TBts l) : ∀ g ∈ gs l, TBts g ∧ (bdy g).length ≤ 239 := by
  suffices h : ∀ n (l : List (List Nat)), l.length ≤ n → (∀ s ∈ l, s.length ≤ 238) → TBts l → ∀ g ∈ gs l, TBts g ∧ (bdy g).length ≤ 239 from h _ l (Nat.le_refl _) hs hb
  intro n
  induction n with
  | zero =>
    intro l hl _ _ g hg
    rw [show l = [] from List.eq_nil_of_length_eq_zero (by omega)] at hg
    cases hg
  | succ n ih =>
    intro l hl hs hb g hg
    by_cases h : l = []
    · subst h; cases hg
    · rw [(gs_cons l h).1] at hg
      rcases List.mem_cons.1 hg with rfl | hg
      · refine ⟨fun s hs' => hb s (List.mem_of_mem_take hs'), ?_⟩
        have := grp_bdy 0 l hs (by omega)
        omega
      · have h1 := (gs_cons l h).2
        exact ih (l.drop (grp 0 l)) (by rw [List.length_drop]; omega) (fun s hs' => hs s (List.mem_of_mem_drop hs')) (fun s hs' => hb s (List.mem_of_mem_drop hs')) g hg
section
attribute [local go_sem ↓] exec_app semAt_app
attribute [local go_sem] isApp_lit appA appX
set_option maxRecDepth 100000 in
set_option maxHeartbeats 1600000 in
theorem wl_syncP {w : World} {g d bs cap m : Nat} {D : Dsk} {L : Lg} {P : Nat → Prop} (hP : ∀ j, w.heap.size ≤ j → P j) (hd : DiskIn w d bs cap m D) (h : LogP w g d bs m L P) (hok : LOK L D.s.length) :
    Calls Tryz.prog 18 #[.pointer (some ⟨g, 0, none⟩)] w fun e w' => e = .returned (.int .i64 ((syncL L D).2.2 : Nat)) ∧ DiskIn w' d bs cap m (syncL L D).2.1 ∧ LogP w' g d bs m (syncL L D).1 P ∧ Kept (fun j => j = g ∨ dod d bs m j) w w' := by
  have HP := Lib.hid hP
  clear hP
  have AL := Lib.hid (wl_alive h.i)
  have HD := Lib.hid hd
  have HI := Lib.hid h
  have hlt := h.i.blk
  have few := hd.ok.few
  obtain ⟨ha, hc, wa, wc, hin, -, -⟩ := h
  have IN := Lib.hid hin
  have OK := Lib.hid hok
  have p0 := cell_blk hin.box
  have f0 := fun i => hin.box.free i
  simp only [lgC] at p0
  have l1 := hd.box.lt; have l2 := hd.safe.lt; have l3 := hd.map.lt
  obtain ⟨E, hE⟩ : ∃ E, aliveE L = E := ⟨_, rfl⟩
  rw [hE] at AL
  clear hd hin hok
  by_cases h0 : E = 0
  · subst h0
    have hcl : L.closed = false ∧ L.bad = false := by
      unfold aliveE at hE
      cases hb : L.bad <;> cases hc : L.closed <;> simp [hb, hc] at hE ⊢
    by_cases hw : L.wait = []
    · have e1 : syncL L D = (L, D, 0) := by unfold syncL; rw [hE, if_neg (by decide), if_pos hw]
      rw [e1]
      have hwl : L.wait.length = 0 := by rw [hw]; rfl
      clear e1 hE hw hcl
      go_enter Tryz.func18, Tryz.ntmps18
      go_wp2_with fail
      with_reducible refine AL.out.mono ?_
      rintro r w1 ⟨rfl, rfl⟩
      go_wp2_with fail
      go_ret
      exact ⟨rfl, HD.out, HI.out, Kept.refl _ _⟩
    · have hwl : ¬ (L.wait.length : Int) = 0 := by
        have : L.wait.length ≠ 0 := fun q => hw (List.eq_nil_of_length_eq_zero q)
        omega
      have hwb : ((L.wait.length : Int) == 0) = false := by simpa using hwl
      have hroom := OK.out.room hcl.1
      have hcnt := OK.out.cnt
      have hring := OK.out.ring
      have hwx : TxOK L.wait := ⟨by have := OK.out.wl; omega, OK.out.short, OK.out.wb⟩
      have PK := Lib.hid fun w' (kk : Same w w') => ws_pack L.epoch L.at_ OK.out.ep wa L.wait.length wc L.wait rfl IN.out.wcap hwx (by omega) w' (IN.out.wt.same kk)
      have e1 : syncL L D = if (wrSync D (L.first + L.at_) (packS L.epoch L.at_ L.wait)).2 = 0 then
        ({ L with at_ := L.at_ + prt L.wait, has := L.has ++ L.wait, wait := [] }, (wrSync D (L.first + L.at_) (packS L.epoch L.at_ L.wait)).1, 0)
        else ({ L with bad := true }, wrSync D (L.first + L.at_) (packS L.epoch L.at_ L.wait)) := by
        unfold syncL; rw [hE, if_neg (by decide), if_neg hw]
      have WB : Hid (∀ x ∈ packS L.epoch L.at_ L.wait, Bts x) := fun x hx => packL_bts (gs_ok OK.out.short OK.out.wb) _ x hx
      have WL : Hid ((packS L.epoch L.at_ L.wait).length = prt L.wait) := packS_len _ _ _
      obtain ⟨cs, hcs⟩ : ∃ cs, packS L.epoch L.at_ L.wait = cs := ⟨_, rfl⟩
      obtain ⟨W, hW⟩ : ∃ W, wrSync D (L.first + L.at_) cs = W := ⟨_, rfl⟩
      rw [hcs, hW] at e1
      rw [hcs] at WB WL
      simp only [hcs] at PK
      rw [e1]
      have HW := Lib.hid hW
      have HCL := Lib.hid hcl
      have QQ : Hid (∀ w', Same w w' → ∀ i, w'.cell? ⟨g, i, none⟩ = (#[.pointer (some ⟨d, 0, none⟩), .int .i64 (L.first : Nat), .int .i64 (L.count : Nat), .int .i64 (L.epoch : Nat), .int .i64 (L.at_ : Nat), .slice ha L.has.length hc, .slice wa L.wait.length wc, .bool L.closed, .bool L.bad] : Array Value)[i]?) := fun w' kk => cell_blk (IN.out.box.kept kk (fun h => h))
      have KN := Lib.hid (Kept.refl (fun _ => False) w)
      by_cases hw0 : W.2 = 0
      · rw [if_pos hw0]
        have HW0 := Lib.hid hw0
        have gw : ((W.2 : Nat) : Int) = 0 := by omega
        clear e1 hE hw hcl hcs hW hwx hw0
        go_enter Tryz.func18, Tryz.ntmps18
        go_wp2_with fail
        with_reducible refine AL.out.mono ?_
        rintro r w1 ⟨rfl, rfl⟩
        go_wp2_with fail
        go_region_held3 (fun w' => ∀ i, w'.cell? ⟨g, i, none⟩ = (#[.pointer (some ⟨d, 0, none⟩), .int .i64 (L.first : Nat), .int .i64 (L.count : Nat), .int .i64 (L.epoch : Nat), .int .i64 (L.at_ : Nat), .slice ha L.has.length hc, .slice wa L.wait.length wc, .bool L.closed, .bool L.bad] : Array Value)[i]?)
          ((refine QQ.out _ ?_; (first | with_reducible exact KN.out | with_reducible exact KN.out.drew)))
          ((go_at_call 46; refine (PK.out _ (by first | with_reducible exact KN.out | with_reducible exact KN.out.drew)).mono ?_; rintro e w5 ⟨⟨v5, rfl, o5⟩, k5⟩; have O5 := Lib.hid o5; have KN' := Lib.hid (show Same w1 w5 from Kept.trans (by first | with_reducible exact KN.out | with_reducible exact KN.out.drew) k5); clear KN o5 k5; have KN := KN'; clear KN'))
        all_goals
          obtain ⟨av, cv, rfl, -⟩ := O5.out.len
          have hwl5 := WL.out
          have hnc : cs.length ≤ 256 := by omega
          have hbase : ∀ j, w1.heap.size ≤ j → ¬ dod d bs m j := by rintro j hj (q | q | q) <;> omega
          have WRC := Lib.hid (wl_write (HD.out.same KN.out) (HI.out.same KN.out) ⟨by omega, by omega⟩ w1.heap.size hbase av cs.length cv cs rfl hnc WB.out (by exact O5.out))
          rw [HW.out] at WRC
          have kp := KN.out.size
          clear QQ PK O5 hwl5 p0 f0 AL hbase
          go_wp2_with fail
          with_reducible refine WRC.out.mono ?_
          rintro e w6 ⟨rfl, d6, g6, k6⟩
          have D6 := Lib.hid d6; have G6 := Lib.hid g6; have K6 := Lib.hid k6
          clear d6 g6 k6
        all_goals
          have g6' : LogP w6 g d bs m L P := by
            have := G6.out
            rw [show decide (W.2 ≠ 0) = L.bad by rw [HCL.out.2, HW0.out]; rfl] at this
            exact this
          obtain ⟨ha6, hc6, wa6, wc6, hin6, -, -⟩ := g6'
          have I6 := Lib.hid hin6
          have p6 := cell_blk hin6.box
          have f6 := fun i => hin6.box.free i
          have z6 := hin6.box.lt
          simp only [lgC] at p6
          clear hin6 G6
          have wr1 : IntKind.i64.wrap ((L.at_ : Int) + (cs.length : Int)) = (L.at_ : Int) + (cs.length : Int) := IntWalk.i64_in _ (by omega)
          go_wp2_with fail
          refine cutWl (fun wn => LogIn wn g d bs m { L with at_ := L.at_ + cs.length } ha6 hc6 wa6 wc6 ∧ DiskIn wn d bs cap m W.1 ∧ Kept (fun j => j = g ∨ dod d bs m j) w1 wn) ?_ ?_
          · have kz : Kept (fun j => j = g) w6 (w6.setCell ⟨g, 4, none⟩ (.int .i64 ((L.at_ : Int) + (cs.length : Int)))) := (Kept.refl _ _).setG _ _
            have hi := I6.out
            refine ⟨⟨?_, hi.has.kept kz (fun y hy => (hi.oh y hy).2.1), hi.hcap, hi.hnil, hi.wt.kept kz (fun y hy => (hi.ow y hy).2.1), hi.wcap, hi.wnil, hi.og, fun y hy => ?_, fun y hy => ?_⟩, ?_, ?_⟩
            · have := hi.box.set 4 (.int .i64 ((L.at_ : Int) + (cs.length : Int)))
              simpa [lgC] using this
            · have q := hi.oh y hy
              exact ⟨q.1, q.2.1, Nat.lt_of_lt_of_le q.2.2.1 kz.size, q.2.2.2⟩
            · have q := hi.ow y hy
              exact ⟨q.1, q.2.1, Nat.lt_of_lt_of_le q.2.2.1 kz.size, q.2.2.2⟩
            · exact D6.out.kept kz (fun q => hi.og (.inl q.symm)) (fun q => hi.og (.inr (.inl q.symm))) (fun q => hi.og (.inr (.inr q.symm)))
            · exact ((KN.out.mono (fun _ _ q => q.elim)).trans K6.out).trans (kz.mono (fun _ _ q => .inl q))
          · clear p6 f6 z6 I6 D6 K6 WRC KN IN HI HD wr1
            rintro wn ⟨hin7, d7, k7⟩
            have IN7 := Lib.hid hin7; have D7 := Lib.hid d7; have K7 := Lib.hid k7
            have z7 := hin7.box.lt
            have p7 := cell_blk hin7.box
            have f7 := fun i => hin7.box.free i
            simp only [lgC] at p7
            have hwpos : 0 < L.wait.length := by omega
            have hlen6 : L.has.length + L.wait.length ≤ 1000000 := by
              have := OK.out.hasl
              have := OK.out.wl
              omega
            have hhl : L.has.length ≤ 1000000 := by omega
            have CLP := Lib.hid fun w' => sl_clip ha6 L.has.length hc6 IN7.out.hcap IN7.out.hnil hhl w'
            clear hin7 d7 k7
            obtain ⟨v9, w9, hrun9, ow9, k9⟩ := clip_append ha6 L.has.length L.has rfl (w := wn.drew) (IN7.out.has.same (Kept.refl _ _).drew) wa6 L.wait.length wc6 L.wait rfl hwpos (IN7.out.wt.same (Kept.refl _ _).drew) hlen6
            obtain ⟨aok9, aV9, aW9⟩ := app_of hrun9
            obtain ⟨a9, l9, c9, rfl, hl9, hn9, ha9, hc9⟩ := OwnE.rd ow9
            have kk9 := Lib.hid (Kept.trans (Kept.refl _ _).drew k9)
            have OW9 := Lib.hid ow9
            have HL9 := hl9
            have HA9 := ha9
            have HN9 := hn9
            have HC9 := hc9
            have pp9 := cell_blk (IN7.out.box.kept kk9.out (fun h => h))
            have ff9 := fun i => (IN7.out.box.kept kk9.out (fun h => h)).free i
            simp only [lgC] at pp9
            clear hrun9 ow9 k9 hl9 hn9 hc9 ha9
            go_region_with (go_at_call 44; (with_reducible refine (CLP.out _).mono ?_); rintro r w2 ⟨rfl, rfl⟩)
            all_goals
              go_wp2_with fail
              go_ret
              have hi := IN7.out
              have hs9 := kk9.out.size
              have F9 : ∀ y, a9 = some y → wn.heap.size ≤ y.block ∧ y.block < w9.heap.size ∧ ∃ b o, y = ⟨b, o, none⟩ := by
                intro y hy
                have := World.ownsRow.lt OW9.out y.block (by rw [hy]; rfl)
                refine ⟨this.1, this.2, ?_⟩
                rcases OW9.out.2 with ⟨q, _⟩ | ⟨g', cap, cur, q, _⟩
                · simp at q; rw [q.1] at hy; cases hy
                · simp at q; rw [q.1] at hy; cases hy; exact ⟨_, _, rfl⟩
              have kz : Kept (fun j => j = g) w9 ((w9.setCell ⟨g, 5, none⟩ (.slice a9 l9 c9)).setCell ⟨g, 6, none⟩ (.slice none 0 0)) := ((Kept.refl _ _).setG _ _).setG _ _
              have dlt := D7.out.box.lt; have blt := D7.out.safe.lt; have mlt := D7.out.map.lt
              refine ⟨rfl, ?_, ⟨a9, c9, none, 0, ⟨?_, HA9.out.kept kz (fun y hy => ?_), ?_, HN9.out, .inl rfl, Nat.le_refl _, fun _ => rfl, hi.og, fun y hy => ?_, fun y hy => (by cases hy)⟩, fun y hy => HP.out _ (Nat.le_trans K7.out.size (F9 y hy).1), fun y hy => (by cases hy)⟩, (K7.out.trans (kk9.out.mono (fun _ _ q => q.elim))).trans (kz.mono (fun _ _ q => .inl q))⟩
              · exact (D7.out.same kk9.out).kept kz (fun q => hi.og (.inl q.symm)) (fun q => hi.og (.inr (.inl q.symm))) (fun q => hi.og (.inr (.inr q.symm)))
              · have := ((hi.box.kept kk9.out (fun h => h)).set 5 (.slice a9 l9 c9)).set 6 (.slice none 0 0)
                rw [HL9.out, WL.out] at this
                rw [HL9.out]
                simpa [lgC] using this
              · have := (F9 y hy).1
                omega
              · show (L.has ++ L.wait).length ≤ c9
                rw [← HL9.out]
                exact HC9.out.1
              · have q := F9 y hy
                refine ⟨by rintro (z | z | z) <;> omega, by omega, Nat.lt_of_lt_of_le q.2.1 kz.size, q.2.2⟩
      · rw [if_neg hw0]
        have gw : ¬ ((W.2 : Nat) : Int) = 0 := by omega
        have HWN := Lib.hid hw0
        clear e1 hE hw hcl hcs hW hwx hw0
        go_enter Tryz.func18, Tryz.ntmps18
        go_wp2_with fail
        with_reducible refine AL.out.mono ?_
        rintro r w1 ⟨rfl, rfl⟩
        go_wp2_with fail
        go_region_held3 (fun w' => ∀ i, w'.cell? ⟨g, i, none⟩ = (#[.pointer (some ⟨d, 0, none⟩), .int .i64 (L.first : Nat), .int .i64 (L.count : Nat), .int .i64 (L.epoch : Nat), .int .i64 (L.at_ : Nat), .slice ha L.has.length hc, .slice wa L.wait.length wc, .bool L.closed, .bool L.bad] : Array Value)[i]?)
          ((refine QQ.out _ ?_; (first | with_reducible exact KN.out | with_reducible exact KN.out.drew)))
          ((go_at_call 46; refine (PK.out _ (by first | with_reducible exact KN.out | with_reducible exact KN.out.drew)).mono ?_; rintro e w5 ⟨⟨v5, rfl, o5⟩, k5⟩; have O5 := Lib.hid o5; have KN' := Lib.hid (show Same w1 w5 from Kept.trans (by first | with_reducible exact KN.out | with_reducible exact KN.out.drew) k5); clear KN o5 k5; have KN := KN'; clear KN'))
        all_goals
          obtain ⟨av, cv, rfl, -⟩ := O5.out.len
          have hwl5 := WL.out
          have hnc : cs.length ≤ 256 := by omega
          have hbase : ∀ j, w1.heap.size ≤ j → ¬ dod d bs m j := by rintro j hj (q | q | q) <;> omega
          have WRC := Lib.hid (wl_write (HD.out.same KN.out) (HI.out.same KN.out) ⟨by omega, by omega⟩ w1.heap.size hbase av cs.length cv cs rfl hnc WB.out (by exact O5.out))
          rw [HW.out] at WRC
          have kp := KN.out.size
          clear QQ PK O5 hwl5 p0 f0 AL hbase
          go_wp2_with fail
          with_reducible refine WRC.out.mono ?_
          rintro e w6 ⟨rfl, d6, g6, k6⟩
          have D6 := Lib.hid d6; have G6 := Lib.hid g6; have K6 := Lib.hid k6
          clear d6 g6 k6
        all_goals
          have g6' := G6.out
          rw [show decide (W.2 ≠ 0) = true by simp [HWN.out]] at g6'
          have G7 := Lib.hid g6'
          clear g6'
          go_wp2_with fail
          go_ret
          exact ⟨rfl, D6.out, G7.out, (KN.out.mono (fun _ _ q => q.elim)).trans K6.out⟩
  · have e1 : syncL L D = (L, D, 11) := by unfold syncL; rw [hE, if_pos h0]
    have e3 : E = 11 := by unfold aliveE at hE; split at hE <;> omega
    rw [e1]
    subst e3
    clear e1 hE
    go_enter Tryz.func18, Tryz.ntmps18
    go_wp2_with fail
    with_reducible refine AL.out.mono ?_
    rintro r w1 ⟨rfl, rfl⟩
    go_wp2_with fail
    go_ret
    exact ⟨rfl, HD.out, HI.out, Kept.refl _ _⟩
theorem wl_sync {w : World} {g d bs cap m : Nat} {D : Dsk} {L : Lg} (hd : DiskIn w d bs cap m D) (h : LogI w g d bs m L) (hok : LOK L D.s.length) :
    Calls Tryz.prog 18 #[.pointer (some ⟨g, 0, none⟩)] w fun e w' => e = .returned (.int .i64 ((syncL L D).2.2 : Nat)) ∧ DiskIn w' d bs cap m (syncL L D).2.1 ∧ LogI w' g d bs m (syncL L D).1 ∧ Kept (fun j => j = g ∨ dod d bs m j) w w' :=
  (wl_syncP (fun _ _ => trivial) hd h.p hok).mono (by rintro e w' ⟨h1, h2, h3, h4⟩; exact ⟨h1, h2, h3.i, h4⟩)
end
end Go.Proofs.YtlmpkonfclnceaaGreat
