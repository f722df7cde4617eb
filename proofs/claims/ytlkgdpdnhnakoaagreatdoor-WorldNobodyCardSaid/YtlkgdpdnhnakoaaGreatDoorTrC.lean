/- TrC: a fresh db is saved: Checkpoint. -/
import Derived.Test.YtlkgdpdnhnakoaaGreatDoorTrW
import Derived.Test.YtlkgdpdnhnakoaaGreatDoorGWl
import Derived.Test.YtlkgdpdnhnakoaaGreatDoorGOr
import Derived.Test.YtlkgdpdnhnakoaaGreatDoorWk
namespace Go.Proofs.YtlkgdpdnhnakoaaGreatDoor
open Go.RowKit Go.Sort Go.Shelf

/-- A fresh db's cells. -/
def dbC (p t t' g o : Nat) : Array Value := #[.pointer (some ⟨p, 0, none⟩), .pointer (some ⟨t, t', none⟩), .pointer (some ⟨g, 0, none⟩), .pointer (some ⟨o, 0, none⟩), .int .i64 0, .slice none 0 0, .slice none 0 0, .bool false]
def hdC : Array Value := #[.int .i64 0, .int .i64 0, .int .i64 2, .int .i64 0, .slice none 0 0]
theorem TabOK.keptF {w w' : World} {fp : Nat → Prop} (h : TabOK w) (k : Kept fp w w') (hn : ¬ fp 1) : TabOK w' := fun i hi => (k.cell (p := ⟨1, i, none⟩) (World.block_lt_of_cell? w ⟨1, 0, none⟩ (h 0 (by decide))) hn).trans (h i hi)
theorem LogI.keptE {w w' : World} {fp : Nat → Prop} {g d bs m : Nat} {L : Lg} (h : LogI w g d bs m L) (k : Kept fp w w') (hg : ¬ fp g) (h1 : L.has = []) (h2 : L.wait = []) : LogI w' g d bs m L := by
  obtain ⟨ha, hc, wa, wc, h⟩ := h
  have t1 : TxtsAt w' ha L.has := by rw [h1]; exact .inl rfl
  have t2 : TxtsAt w' wa L.wait := by rw [h2]; exact .inl rfl
  exact ⟨ha, hc, wa, wc, ⟨h.box.kept k hg, t1, h.hcap, h.hnil, t2, h.wcap, h.wnil, h.og,
    fun y hy => ⟨(h.oh y hy).1, (h.oh y hy).2.1, Nat.lt_of_lt_of_le (h.oh y hy).2.2.1 k.size, (h.oh y hy).2.2.2⟩, fun y hy => ⟨(h.ow y hy).1, (h.ow y hy).2.1, Nat.lt_of_lt_of_le (h.ow y hy).2.2.1 k.size, (h.ow y hy).2.2.2⟩⟩⟩
set_option maxRecDepth 100000 in
theorem lg_bad {w : World} {g d bs m : Nat} {L : Lg} (h : LogI w g d bs m L) (hb : L.bad = false) :
    Calls Tryz.prog 117 #[.pointer (some ⟨g, 0, none⟩)] w fun e w' => e = .returned (.bool false) ∧ w' = w := by
  obtain ⟨ha, hc, wa, wc, h⟩ := h
  have p0 := cell_blk h.box
  simp only [lgC, hb] at p0
  clear h
  go_enter Tryz.func117, Tryz.ntmps117
  go_wp2_with fail
  go_ret
  exact ⟨rfl, rfl⟩
set_option maxRecDepth 100000 in
theorem db_alive {w : World} {x p d bs mp t t' l l' m m' i i' c g o : Nat} {r id : Int} {dirty : Bool} {S : Sto} {L : Lg} (hx : Blk w x (dbC p t t' g o) 107) (hs : StoIn w p d bs mp S) (hb : S.bad = false) (h : TrIn w p t t' l l' m m' i i' c r id dirty) (hl : LogI w g d bs mp L) (hlb : L.bad = false) :
    Calls Tryz.prog 47 #[.pointer (some ⟨x, 0, none⟩)] w fun e w' => e = .returned (.int .i64 0) ∧ w' = w := by
  have p0 := cell_blk hx
  simp only [dbC] at p0
  have SB := Lib.hid (st_Bad hs)
  rw [hb] at SB
  have TB := Lib.hid (tr_bad h)
  have LB := Lib.hid (lg_bad hl hlb)
  clear hx hs hb h hl hlb
  go_enter Tryz.func47, Tryz.ntmps47
  go_wp2_with fail
  refine SB.out.mono ?_
  rintro e w2 ⟨rfl, rfl⟩
  clear SB
  go_wp2_with fail
  refine TB.out.mono ?_
  rintro e w3 ⟨rfl, rfl⟩
  clear TB
  go_wp2_with fail
  refine LB.out.mono ?_
  rintro e w4 ⟨rfl, rfl⟩
  clear LB
  go_wp2_with fail
  go_ret
  exact ⟨rfl, rfl⟩
/-- What is apart from what a save turns. -/
structure ApX (p d bs mp l m j : Nat) : Prop where
  s : ¬ FS p d bs mp j
  l : j ≠ l
  m : j ≠ m
theorem ApX.no {p d bs mp l m j : Nat} (h : ApX p d bs mp l m j) : ¬ (FS p d bs mp j ∨ j = l ∨ j = m) := by
  rintro (q | q | q)
  · exact h.s q
  · exact h.l q
  · exact h.m q
theorem Blk.put5 {w : World} {b : Nat} {v0 v1 v2 v3 v4 u0 u1 u2 u3 u4 : Value} {t : TypeId} (h : Blk w b #[v0, v1, v2, v3, v4] t) : Blk (((((w.setCell ⟨b, 0, none⟩ u0).setCell ⟨b, 1, none⟩ u1).setCell ⟨b, 2, none⟩ u2).setCell ⟨b, 3, none⟩ u3).setCell ⟨b, 4, none⟩ u4) b #[u0, u1, u2, u3, u4] t := ((((h.set 0 u0).set 1 u1).set 2 u2).set 3 u3).set 4 u4
set_option maxRecDepth 100000 in
set_option maxHeartbeats 1600000 in
theorem db_check {w : World} {x p d bs mp t t' l l' m m' i i' c g o : Nat} {r : Int} {S S1 S2 S3 : Sto} {L : Lg} (hT : TabOK w) (hx : Blk w x (dbC p t t' g o) 107) (hs : StoIn w p d bs mp S) (hf : S.Fit) (hsb : S.bad = false) (h : TrIn w p t t' l l' m m' i i' c r (-1) true) (ap : ApT p d bs mp t l m i)
    (hl : LogI w g d bs mp L) (h1 : L.bad = false) (h2 : L.epoch = 1) (h3 : L.has = []) (h4 : L.wait = []) (ho : Ora w o 0 false) (ax : ApX p d bs mp l m x) (ag : ApX p d bs mp l m g) (ao : ApX p d bs mp l m o) (atb : ApX p d bs mp l m 1)
    (hA : S.alloc = (S1, 0, 0)) (hW : S1.wr ((0 : Nat) : Int) [0, 0] = (S2, 0)) (hf2 : S2.Fit) (hC : S2.commit [0, 0, 1, 2, 0, 0] = (S3, 0)) (hr : 1 ≤ r) (hr2 : r ≤ 4096) :
    Calls Tryz.prog 40 #[.pointer (some ⟨x, 0, none⟩)] w fun e w' => e = .returned (.int .i64 0) ∧ Kept (fun j => FS p d bs mp j ∨ j = l ∨ j = m ∨ j = g) w w' := by
  have AV := Lib.hid (db_alive hx hs hsb h hl h1)
  have SV := Lib.hid (tr_Save hT hs hf h ap hA hW hr hr2)
  have p0 := cell_blk hx
  simp only [dbC] at p0
  have XB := Lib.hid hx
  have LI := Lib.hid hl
  have OR := Lib.hid ho
  have TB := Lib.hid hT
  have AX := Lib.hid ax
  have AG := Lib.hid ag
  have AO := Lib.hid ao
  have AT := Lib.hid atb
  have E1 := Lib.hid h2
  have E2 := Lib.hid h3
  have E3 := Lib.hid h4
  have E4 := Lib.hid h1
  have F2 := Lib.hid hf2
  have C2 := Lib.hid hC
  clear hT hx hs hf hsb h ap hl h1 h2 h3 h4 ho ax ag ao atb hA hW hf2 hC hr hr2
  go_enter Tryz.func40, Tryz.ntmps40
  go_wp2_with fail
  refine AV.out.mono ?_
  rintro e w2 ⟨rfl, rfl⟩
  clear AV
  go_wp2_with fail
  refine SV.out.mono ?_
  rintro e w3 ⟨rfl, s3, t3, k3⟩
  have S3 := Lib.hid s3
  have K3 := Lib.hid k3
  have XB3 := Lib.hid (XB.out.kept k3 AX.out.no)
  have LI3 := Lib.hid (LI.out.keptE k3 AG.out.no E2.out E3.out)
  have OR3 := Lib.hid (show Ora w3 o 0 false from OR.out.kept k3 AO.out.no)
  have TB3 := Lib.hid (TB.out.keptF k3 AT.out.no)
  have FL := Lib.hid (fun j (q : FS p d bs mp j) => show j < w3.heap.size from by
    obtain ⟨cap, _, _, _, _, _, _, hb, hd, _⟩ := s3
    rcases q with rfl | rfl | rfl | rfl
    · exact hb.lt
    · exact hd.box.lt
    · exact hd.safe.lt
    · exact hd.map.lt)
  clear p0 s3 t3 k3 XB LI OR TB SV
  have p0 := cell_blk XB3.out
  simp only [dbC] at p0
  have QX := Lib.hid (fun w' (k : Same w3 w') => cell_blk (XB3.out.kept k (fun h => h)))
  have ON := Lib.hid (fun w' (k : Same w3 w') => ora_now o 0 false w' (OR3.out.kept k (fun h => h)))
  have EP := Lib.hid (fun w' (k : Same w3 w') => wl_epoch (LI3.out.same k))
  rw [E1.out] at EP
  simp only [dbC] at QX
  go_wp2_with fail
  refine wp_region_T (S := fun w' => Same w3 w') 20 (by kernel_rfl) (Kept.refl _ _).drew (fun hHeld hDn => ?_)
  refine wpT_zw 0 26 hHeld hDn fun hDn => ?_
  refine wpT_zw 1 27 hHeld hDn fun hDn => ?_
  refine wpT_zw 2 28 hHeld hDn fun hDn => ?_
  refine wpT_zw 3 29 hHeld hDn fun hDn => ?_
  refine wpT_z 4 30 QX hHeld hDn fun hDn => ?_
  refine wpT_zw 6 32 hHeld hDn fun hDn => ?_
  refine wpT_zw 7 33 hHeld hDn fun hDn => ?_
  refine wpT_zw 8 34 hHeld hDn fun hDn => ?_
  refine wpT_z 9 35 QX hHeld hDn fun hDn => ?_
  refine wpT_zw 12 38 hHeld hDn fun hDn => ?_
  refine wpT_zw 13 39 hHeld hDn fun hDn => ?_
  refine wpT_zw 14 40 hHeld hDn fun hDn => ?_
  refine wpT_zw 15 41 hHeld hDn fun hDn => ?_
  refine wpT_z 16 42 QX hHeld hDn fun hDn => ?_
  refine wpT_zw 17 43 hHeld hDn fun hDn => ?_
  refine wpT_two (i := 5) (j := 19) rfl rfl (by kernel_rfl) hDn (fun K' hK => ?_) (fun K' hK => ?_)
  · go_simp
    refine (ON.out _ (Kept.refl _ _).drew).mono ?_
    rintro e w4 ⟨rfl, rfl⟩
    refine hK.out _ _ ((Kept.refl _ _).drew) (fun hHeld2 hDn2 => ?_)
    clear hK K' hHeld hDn
    have hHeld := hHeld2; have hDn := hDn2
    clear hHeld2 hDn2
    refine wpT_two (i := 10) (j := 19) rfl rfl (by kernel_rfl) hDn (fun K' hK => ?_) (fun K' hK => ?_)
    · go_simp
      refine (EP.out _ (Kept.refl _ _).drew).mono ?_
      rintro e w4 ⟨rfl, rfl⟩
      refine hK.out _ _ ((Kept.refl _ _).drew) (fun hHeld2 hDn2 => ?_)
      clear hK K' hHeld hDn
      have hHeld := hHeld2; have hDn := hDn2
      clear hHeld2 hDn2
      refine wpT_zw 11 37 hHeld hDn fun hDn => ?_
      refine wpT_zw 18 44 hHeld hDn fun hDn => ?_
      refine wpT_one (i := 19) rfl (by kernel_rfl) hDn (fun K' hK => ?_)
      go_simp
      refine hK.out _ _ (((Kept.refl _ _).drew).alloc _) (fun hHeld2 hDn2 => ?_)
      clear hK K' hHeld hDn
      have hHeld := hHeld2; have hDn := hDn2
      clear hHeld2 hDn2
      refine wpT_last rfl (by kernel_rfl) hDn (fun K hK => ?_)
      go_simp
      refine hK.out _ _ (fun hDn' => ?_)
      clear hK K hDn hHeld; have hDn := hDn'; clear hDn'
      refine wpT_done (by kernel_rfl) ?_ _
      clear hDn QX ON EP p0
      refine cutE (fun wn => Blk wn w3.heap.size hdC 110 ∧ Same w3 wn) ⟨by first | exact Blk.drew (Blk.new _ _ _) | exact Blk.new _ _ _ | exact Blk.put5 (v0 := .int .i64 0) (v1 := .int .i64 0) (v2 := .int .i64 0) (v3 := .int .i64 0) (v4 := .slice none 0 0) (Blk.drew (Blk.new _ _ _)) | exact Blk.put5 (v0 := .int .i64 0) (v1 := .int .i64 0) (v2 := .int .i64 0) (v3 := .int .i64 0) (v4 := .slice none 0 0) (Blk.new _ _ _), by repeat (first | with_reducible exact Kept.refl _ _ | with_reducible refine Kept.drew ?_ | with_reducible refine Kept.alloc ?_ _ | refine Kept.setNew ?_ (Nat.le_refl _) _)⟩ ?_
      rintro w6 ⟨hb6, k6⟩
      obtain ⟨y, hy⟩ : ∃ y, w3.heap.size = y := ⟨_, rfl⟩
      rw [hy] at hb6
      try rw [hy]
      have HB := Lib.hid hb6
      have K6 := Lib.hid k6
      have XB6 := Lib.hid (XB3.out.kept k6 (fun h => h))
      clear hb6 k6
      have p0 := cell_blk XB6.out
      have q0 := cell_blk HB.out
      simp only [dbC] at p0
      simp only [hdC] at q0
      go_wp2_with fail
      go_loopw [51] (fun t wr => t = .int .i64 0 ∧ wr = w6) (fun _ _ => 0)
      case atStart => exact ⟨rfl, rfl⟩
      case round =>
        obtain ⟨rfl, rfl⟩ := hrel
        have QX := Lib.hid (fun w' (k : Same wr w') => And.intro (cell_blk (XB6.out.kept k (fun h => h))) (cell_blk (HB.out.kept k (fun h => h))))
        simp only [dbC, hdC] at QX
        have HP := Lib.hid (fun w' (k : Same wr w') => head_put w' ((TB3.out.same K6.out).same k))
        have CM := Lib.hid (fun w' (k : Same w3 w') a c7 (hc : 6 ≤ c7) (hat : NatsAt w' .u8 (some a) [0, 0, 1, 2, 0, 0]) (hlo : w3.heap.size ≤ a.block) => st_Commit (S3.out.same k) F2.out (some a) 6 c7 [0, 0, 1, 2, 0, 0] rfl (by intro z hz; simp at hz; omega) hc hat (.inr (fun z hz q => by injection hz with hz; subst hz; have := FL.out _ q; omega)))
        rw [C2.out] at CM
        go_wp2_with fail
        refine wp_region_T (S := fun w' => Same wr w') 6 (by kernel_rfl) (Kept.refl _ _).drew (fun hHeld hDn => ?_)
        refine wpT_zw 0 65 hHeld hDn fun hDn => ?_
        refine wpT_zw 1 66 hHeld hDn fun hDn => ?_
        refine wpT_zw 2 67 hHeld hDn fun hDn => ?_
        refine wpT_z 3 68 QX hHeld hDn fun hDn => ?_
        refine wpT_z 4 69 QX hHeld hDn fun hDn => ?_
        refine wpT_one (i := 5) rfl (by kernel_rfl) hDn (fun K' hK => ?_)
        go_simp
        refine (HP.out _ (Kept.refl _ _).drew).mono ?_
        rintro e w7 ⟨a, c7, rfl, hc7, hat, hlo, k7⟩
        have K7 := Lib.hid (show Same wr w7 from ((Kept.refl _ _).drew).trans k7)
        have CC := Lib.hid hc7
        have NA := Lib.hid hat
        have AB := Lib.hid (show w3.heap.size ≤ a.block from Nat.le_trans K6.out.size hlo)
        clear hc7 hat hlo k7 HP
        refine hK.out _ _ K7.out (fun hHeld2 hDn2 => ?_)
        clear hK K' hHeld hDn
        have hHeld := hHeld2; have hDn := hDn2
        clear hHeld2 hDn2
        refine wpT_last rfl (by kernel_rfl) hDn (fun K hK => ?_)
        go_simp
        refine (CM.out w7 (K6.out.trans K7.out) a c7 CC.out NA.out AB.out).mono ?_
        rintro e w8 ⟨rfl, s8, k8⟩
        have K8 := Lib.hid k8
        have XB8 := Lib.hid ((XB6.out.kept K7.out (fun h => h)).kept k8 AX.out.s)
        have HB8 := Lib.hid ((HB.out.kept K7.out (fun h => h)).kept k8 (fun q => Nat.lt_irrefl _ (Nat.lt_of_lt_of_le (FL.out _ q) (Nat.le_of_eq hy))))
        have LI8 := Lib.hid (((LI3.out.same K6.out).same K7.out).keptE k8 AG.out.s E2.out E3.out)
        refine hK.out _ _ (fun hDn' => ?_)
        clear hK K hDn hHeld s8 k8 CM; have hDn := hDn'; clear hDn'
        refine wpT_ze 7 9 hDn fun hDn => ?_
        refine wpT_done (by kernel_rfl) ?_ _
        clear hDn QX p0 q0
        have p0 := cell_blk XB8.out
        have q0 := cell_blk HB8.out
        simp only [dbC] at p0
        simp only [hdC] at q0
        have RS := Lib.hid (fun w' (k : Same w8 w') => wl_restart (LI8.out.same k) 2)
        have e0 : restartE L 2 = 0 := by unfold restartE; rw [E4.out, E1.out]; rfl
        rw [e0] at RS
        clear e0
        have QX := Lib.hid (fun w' (k : Same w8 w') => And.intro (cell_blk (XB8.out.kept k (fun h => h))) (cell_blk (HB8.out.kept k (fun h => h))))
        simp only [dbC, hdC] at QX
        go_wp2_with fail
        refine wp_region_T (S := fun w' => Same w8 w') 6 (by kernel_rfl) (Kept.refl _ _).drew (fun hHeld hDn => ?_)
        refine wpT_zw 0 78 hHeld hDn fun hDn => ?_
        refine wpT_zw 1 79 hHeld hDn fun hDn => ?_
        refine wpT_zw 2 80 hHeld hDn fun hDn => ?_
        refine wpT_z 3 81 QX hHeld hDn fun hDn => ?_
        refine wpT_zw 4 82 hHeld hDn fun hDn => ?_
        refine wpT_z 5 83 QX hHeld hDn fun hDn => ?_
        refine wpT_last rfl (by kernel_rfl) hDn (fun K hK => ?_)
        go_simp
        refine (RS.out _ (Kept.refl _ _).drew).mono ?_
        rintro e w9 ⟨rfl, -, k9⟩
        have K9 := Lib.hid (show Kept (fun j => j = g) w8 w9 from ((Kept.refl _ _).drew).trans k9)
        refine hK.out _ _ (fun hDn' => ?_)
        clear hK K hDn hHeld k9 RS; have hDn := hDn'; clear hDn'
        refine wpT_ze 7 2 hDn fun hDn => ?_
        refine wpT_done (by kernel_rfl) ?_ _
        clear hDn QX p0 q0
        go_wp2_with fail
        go_ret
        refine ⟨rfl, ?_⟩
        have a1 : Kept (fun j => FS p d bs mp j ∨ j = l ∨ j = m ∨ j = g) w2 w3 := K3.out.mono (fun j _ q => by rcases q with q | q | q; exact .inl q; exact .inr (.inl q); exact .inr (.inr (.inl q)))
        have a2 : Kept (fun j => FS p d bs mp j ∨ j = l ∨ j = m ∨ j = g) w2 w7 := a1.step (K6.out.trans K7.out) (fun _ _ q => q.elim)
        have a3 : Kept (fun j => FS p d bs mp j ∨ j = l ∨ j = m ∨ j = g) w2 w8 := a2.step K8.out (fun _ _ q => .inl q)
        exact a3.step K9.out (fun _ _ q => .inr (.inr (.inr q)))
    · go_simp
      refine hK.out _ _ (((Kept.refl _ _).drew).alloc _) (fun hHeld2 hDn2 => ?_)
      clear hK K' hHeld hDn
      have hHeld := hHeld2; have hDn := hDn2
      clear hHeld2 hDn2
      refine wpT_one (i := 10) rfl (by kernel_rfl) hDn (fun K' hK => ?_)
      go_simp
      refine (EP.out _ (((Kept.refl _ _).drew).alloc _)).mono ?_
      rintro e w4 ⟨rfl, rfl⟩
      refine hK.out _ _ (((Kept.refl _ _).drew).alloc _) (fun hHeld2 hDn2 => ?_)
      clear hK K' hHeld hDn
      have hHeld := hHeld2; have hDn := hDn2
      clear hHeld2 hDn2
      refine wpT_zw 11 37 hHeld hDn fun hDn => ?_
      refine wpT_zw 18 44 hHeld hDn fun hDn => ?_
      refine wpT_last rfl (by kernel_rfl) hDn (fun K hK => ?_)
      go_simp
      refine hK.out _ _ (fun hDn' => ?_)
      clear hK K hDn hHeld; have hDn := hDn'; clear hDn'
      refine wpT_done (by kernel_rfl) ?_ _
      clear hDn QX ON EP p0
      refine cutE (fun wn => Blk wn w3.heap.size hdC 110 ∧ Same w3 wn) ⟨by first | exact Blk.drew (Blk.new _ _ _) | exact Blk.new _ _ _ | exact Blk.put5 (v0 := .int .i64 0) (v1 := .int .i64 0) (v2 := .int .i64 0) (v3 := .int .i64 0) (v4 := .slice none 0 0) (Blk.drew (Blk.new _ _ _)) | exact Blk.put5 (v0 := .int .i64 0) (v1 := .int .i64 0) (v2 := .int .i64 0) (v3 := .int .i64 0) (v4 := .slice none 0 0) (Blk.new _ _ _), by repeat (first | with_reducible exact Kept.refl _ _ | with_reducible refine Kept.drew ?_ | with_reducible refine Kept.alloc ?_ _ | refine Kept.setNew ?_ (Nat.le_refl _) _)⟩ ?_
      rintro w6 ⟨hb6, k6⟩
      obtain ⟨y, hy⟩ : ∃ y, w3.heap.size = y := ⟨_, rfl⟩
      rw [hy] at hb6
      try rw [hy]
      have HB := Lib.hid hb6
      have K6 := Lib.hid k6
      have XB6 := Lib.hid (XB3.out.kept k6 (fun h => h))
      clear hb6 k6
      have p0 := cell_blk XB6.out
      have q0 := cell_blk HB.out
      simp only [dbC] at p0
      simp only [hdC] at q0
      go_wp2_with fail
      go_loopw [51] (fun t wr => t = .int .i64 0 ∧ wr = w6) (fun _ _ => 0)
      case atStart => exact ⟨rfl, rfl⟩
      case round =>
        obtain ⟨rfl, rfl⟩ := hrel
        have QX := Lib.hid (fun w' (k : Same wr w') => And.intro (cell_blk (XB6.out.kept k (fun h => h))) (cell_blk (HB.out.kept k (fun h => h))))
        simp only [dbC, hdC] at QX
        have HP := Lib.hid (fun w' (k : Same wr w') => head_put w' ((TB3.out.same K6.out).same k))
        have CM := Lib.hid (fun w' (k : Same w3 w') a c7 (hc : 6 ≤ c7) (hat : NatsAt w' .u8 (some a) [0, 0, 1, 2, 0, 0]) (hlo : w3.heap.size ≤ a.block) => st_Commit (S3.out.same k) F2.out (some a) 6 c7 [0, 0, 1, 2, 0, 0] rfl (by intro z hz; simp at hz; omega) hc hat (.inr (fun z hz q => by injection hz with hz; subst hz; have := FL.out _ q; omega)))
        rw [C2.out] at CM
        go_wp2_with fail
        refine wp_region_T (S := fun w' => Same wr w') 6 (by kernel_rfl) (Kept.refl _ _).drew (fun hHeld hDn => ?_)
        refine wpT_zw 0 65 hHeld hDn fun hDn => ?_
        refine wpT_zw 1 66 hHeld hDn fun hDn => ?_
        refine wpT_zw 2 67 hHeld hDn fun hDn => ?_
        refine wpT_z 3 68 QX hHeld hDn fun hDn => ?_
        refine wpT_z 4 69 QX hHeld hDn fun hDn => ?_
        refine wpT_one (i := 5) rfl (by kernel_rfl) hDn (fun K' hK => ?_)
        go_simp
        refine (HP.out _ (Kept.refl _ _).drew).mono ?_
        rintro e w7 ⟨a, c7, rfl, hc7, hat, hlo, k7⟩
        have K7 := Lib.hid (show Same wr w7 from ((Kept.refl _ _).drew).trans k7)
        have CC := Lib.hid hc7
        have NA := Lib.hid hat
        have AB := Lib.hid (show w3.heap.size ≤ a.block from Nat.le_trans K6.out.size hlo)
        clear hc7 hat hlo k7 HP
        refine hK.out _ _ K7.out (fun hHeld2 hDn2 => ?_)
        clear hK K' hHeld hDn
        have hHeld := hHeld2; have hDn := hDn2
        clear hHeld2 hDn2
        refine wpT_last rfl (by kernel_rfl) hDn (fun K hK => ?_)
        go_simp
        refine (CM.out w7 (K6.out.trans K7.out) a c7 CC.out NA.out AB.out).mono ?_
        rintro e w8 ⟨rfl, s8, k8⟩
        have K8 := Lib.hid k8
        have XB8 := Lib.hid ((XB6.out.kept K7.out (fun h => h)).kept k8 AX.out.s)
        have HB8 := Lib.hid ((HB.out.kept K7.out (fun h => h)).kept k8 (fun q => Nat.lt_irrefl _ (Nat.lt_of_lt_of_le (FL.out _ q) (Nat.le_of_eq hy))))
        have LI8 := Lib.hid (((LI3.out.same K6.out).same K7.out).keptE k8 AG.out.s E2.out E3.out)
        refine hK.out _ _ (fun hDn' => ?_)
        clear hK K hDn hHeld s8 k8 CM; have hDn := hDn'; clear hDn'
        refine wpT_ze 7 9 hDn fun hDn => ?_
        refine wpT_done (by kernel_rfl) ?_ _
        clear hDn QX p0 q0
        have p0 := cell_blk XB8.out
        have q0 := cell_blk HB8.out
        simp only [dbC] at p0
        simp only [hdC] at q0
        have RS := Lib.hid (fun w' (k : Same w8 w') => wl_restart (LI8.out.same k) 2)
        have e0 : restartE L 2 = 0 := by unfold restartE; rw [E4.out, E1.out]; rfl
        rw [e0] at RS
        clear e0
        have QX := Lib.hid (fun w' (k : Same w8 w') => And.intro (cell_blk (XB8.out.kept k (fun h => h))) (cell_blk (HB8.out.kept k (fun h => h))))
        simp only [dbC, hdC] at QX
        go_wp2_with fail
        refine wp_region_T (S := fun w' => Same w8 w') 6 (by kernel_rfl) (Kept.refl _ _).drew (fun hHeld hDn => ?_)
        refine wpT_zw 0 78 hHeld hDn fun hDn => ?_
        refine wpT_zw 1 79 hHeld hDn fun hDn => ?_
        refine wpT_zw 2 80 hHeld hDn fun hDn => ?_
        refine wpT_z 3 81 QX hHeld hDn fun hDn => ?_
        refine wpT_zw 4 82 hHeld hDn fun hDn => ?_
        refine wpT_z 5 83 QX hHeld hDn fun hDn => ?_
        refine wpT_last rfl (by kernel_rfl) hDn (fun K hK => ?_)
        go_simp
        refine (RS.out _ (Kept.refl _ _).drew).mono ?_
        rintro e w9 ⟨rfl, -, k9⟩
        have K9 := Lib.hid (show Kept (fun j => j = g) w8 w9 from ((Kept.refl _ _).drew).trans k9)
        refine hK.out _ _ (fun hDn' => ?_)
        clear hK K hDn hHeld k9 RS; have hDn := hDn'; clear hDn'
        refine wpT_ze 7 2 hDn fun hDn => ?_
        refine wpT_done (by kernel_rfl) ?_ _
        clear hDn QX p0 q0
        go_wp2_with fail
        go_ret
        refine ⟨rfl, ?_⟩
        have a1 : Kept (fun j => FS p d bs mp j ∨ j = l ∨ j = m ∨ j = g) w2 w3 := K3.out.mono (fun j _ q => by rcases q with q | q | q; exact .inl q; exact .inr (.inl q); exact .inr (.inr (.inl q)))
        have a2 : Kept (fun j => FS p d bs mp j ∨ j = l ∨ j = m ∨ j = g) w2 w7 := a1.step (K6.out.trans K7.out) (fun _ _ q => q.elim)
        have a3 : Kept (fun j => FS p d bs mp j ∨ j = l ∨ j = m ∨ j = g) w2 w8 := a2.step K8.out (fun _ _ q => .inl q)
        exact a3.step K9.out (fun _ _ q => .inr (.inr (.inr q)))
  · go_simp
    refine hK.out _ _ (((Kept.refl _ _).drew).alloc _) (fun hHeld2 hDn2 => ?_)
    clear hK K' hHeld hDn
    have hHeld := hHeld2; have hDn := hDn2
    clear hHeld2 hDn2
    refine wpT_one (i := 5) rfl (by kernel_rfl) hDn (fun K' hK => ?_)
    go_simp
    refine (ON.out _ (((Kept.refl _ _).drew).alloc _)).mono ?_
    rintro e w4 ⟨rfl, rfl⟩
    refine hK.out _ _ (((Kept.refl _ _).drew).alloc _) (fun hHeld2 hDn2 => ?_)
    clear hK K' hHeld hDn
    have hHeld := hHeld2; have hDn := hDn2
    clear hHeld2 hDn2
    refine wpT_one (i := 10) rfl (by kernel_rfl) hDn (fun K' hK => ?_)
    go_simp
    refine (EP.out _ (((Kept.refl _ _).drew).alloc _)).mono ?_
    rintro e w4 ⟨rfl, rfl⟩
    refine hK.out _ _ (((Kept.refl _ _).drew).alloc _) (fun hHeld2 hDn2 => ?_)
    clear hK K' hHeld hDn
    have hHeld := hHeld2; have hDn := hDn2
    clear hHeld2 hDn2
    refine wpT_zw 11 37 hHeld hDn fun hDn => ?_
    refine wpT_zw 18 44 hHeld hDn fun hDn => ?_
    refine wpT_last rfl (by kernel_rfl) hDn (fun K hK => ?_)
    go_simp
    refine hK.out _ _ (fun hDn' => ?_)
    clear hK K hDn hHeld; have hDn := hDn'; clear hDn'
    refine wpT_done (by kernel_rfl) ?_ _
    clear hDn QX ON EP p0
    refine cutE (fun wn => Blk wn w3.heap.size hdC 110 ∧ Same w3 wn) ⟨by first | exact Blk.drew (Blk.new _ _ _) | exact Blk.new _ _ _ | exact Blk.put5 (v0 := .int .i64 0) (v1 := .int .i64 0) (v2 := .int .i64 0) (v3 := .int .i64 0) (v4 := .slice none 0 0) (Blk.drew (Blk.new _ _ _)) | exact Blk.put5 (v0 := .int .i64 0) (v1 := .int .i64 0) (v2 := .int .i64 0) (v3 := .int .i64 0) (v4 := .slice none 0 0) (Blk.new _ _ _), by repeat (first | with_reducible exact Kept.refl _ _ | with_reducible refine Kept.drew ?_ | with_reducible refine Kept.alloc ?_ _ | refine Kept.setNew ?_ (Nat.le_refl _) _)⟩ ?_
    rintro w6 ⟨hb6, k6⟩
    obtain ⟨y, hy⟩ : ∃ y, w3.heap.size = y := ⟨_, rfl⟩
    rw [hy] at hb6
    try rw [hy]
    have HB := Lib.hid hb6
    have K6 := Lib.hid k6
    have XB6 := Lib.hid (XB3.out.kept k6 (fun h => h))
    clear hb6 k6
    have p0 := cell_blk XB6.out
    have q0 := cell_blk HB.out
    simp only [dbC] at p0
    simp only [hdC] at q0
    go_wp2_with fail
    go_loopw [51] (fun t wr => t = .int .i64 0 ∧ wr = w6) (fun _ _ => 0)
    case atStart => exact ⟨rfl, rfl⟩
    case round =>
      obtain ⟨rfl, rfl⟩ := hrel
      have QX := Lib.hid (fun w' (k : Same wr w') => And.intro (cell_blk (XB6.out.kept k (fun h => h))) (cell_blk (HB.out.kept k (fun h => h))))
      simp only [dbC, hdC] at QX
      have HP := Lib.hid (fun w' (k : Same wr w') => head_put w' ((TB3.out.same K6.out).same k))
      have CM := Lib.hid (fun w' (k : Same w3 w') a c7 (hc : 6 ≤ c7) (hat : NatsAt w' .u8 (some a) [0, 0, 1, 2, 0, 0]) (hlo : w3.heap.size ≤ a.block) => st_Commit (S3.out.same k) F2.out (some a) 6 c7 [0, 0, 1, 2, 0, 0] rfl (by intro z hz; simp at hz; omega) hc hat (.inr (fun z hz q => by injection hz with hz; subst hz; have := FL.out _ q; omega)))
      rw [C2.out] at CM
      go_wp2_with fail
      refine wp_region_T (S := fun w' => Same wr w') 6 (by kernel_rfl) (Kept.refl _ _).drew (fun hHeld hDn => ?_)
      refine wpT_zw 0 65 hHeld hDn fun hDn => ?_
      refine wpT_zw 1 66 hHeld hDn fun hDn => ?_
      refine wpT_zw 2 67 hHeld hDn fun hDn => ?_
      refine wpT_z 3 68 QX hHeld hDn fun hDn => ?_
      refine wpT_z 4 69 QX hHeld hDn fun hDn => ?_
      refine wpT_one (i := 5) rfl (by kernel_rfl) hDn (fun K' hK => ?_)
      go_simp
      refine (HP.out _ (Kept.refl _ _).drew).mono ?_
      rintro e w7 ⟨a, c7, rfl, hc7, hat, hlo, k7⟩
      have K7 := Lib.hid (show Same wr w7 from ((Kept.refl _ _).drew).trans k7)
      have CC := Lib.hid hc7
      have NA := Lib.hid hat
      have AB := Lib.hid (show w3.heap.size ≤ a.block from Nat.le_trans K6.out.size hlo)
      clear hc7 hat hlo k7 HP
      refine hK.out _ _ K7.out (fun hHeld2 hDn2 => ?_)
      clear hK K' hHeld hDn
      have hHeld := hHeld2; have hDn := hDn2
      clear hHeld2 hDn2
      refine wpT_last rfl (by kernel_rfl) hDn (fun K hK => ?_)
      go_simp
      refine (CM.out w7 (K6.out.trans K7.out) a c7 CC.out NA.out AB.out).mono ?_
      rintro e w8 ⟨rfl, s8, k8⟩
      have K8 := Lib.hid k8
      have XB8 := Lib.hid ((XB6.out.kept K7.out (fun h => h)).kept k8 AX.out.s)
      have HB8 := Lib.hid ((HB.out.kept K7.out (fun h => h)).kept k8 (fun q => Nat.lt_irrefl _ (Nat.lt_of_lt_of_le (FL.out _ q) (Nat.le_of_eq hy))))
      have LI8 := Lib.hid (((LI3.out.same K6.out).same K7.out).keptE k8 AG.out.s E2.out E3.out)
      refine hK.out _ _ (fun hDn' => ?_)
      clear hK K hDn hHeld s8 k8 CM; have hDn := hDn'; clear hDn'
      refine wpT_ze 7 9 hDn fun hDn => ?_
      refine wpT_done (by kernel_rfl) ?_ _
      clear hDn QX p0 q0
      have p0 := cell_blk XB8.out
      have q0 := cell_blk HB8.out
      simp only [dbC] at p0
      simp only [hdC] at q0
      have RS := Lib.hid (fun w' (k : Same w8 w') => wl_restart (LI8.out.same k) 2)
      have e0 : restartE L 2 = 0 := by unfold restartE; rw [E4.out, E1.out]; rfl
      rw [e0] at RS
      clear e0
      have QX := Lib.hid (fun w' (k : Same w8 w') => And.intro (cell_blk (XB8.out.kept k (fun h => h))) (cell_blk (HB8.out.kept k (fun h => h))))
      simp only [dbC, hdC] at QX
      go_wp2_with fail
      refine wp_region_T (S := fun w' => Same w8 w') 6 (by kernel_rfl) (Kept.refl _ _).drew (fun hHeld hDn => ?_)
      refine wpT_zw 0 78 hHeld hDn fun hDn => ?_
      refine wpT_zw 1 79 hHeld hDn fun hDn => ?_
      refine wpT_zw 2 80 hHeld hDn fun hDn => ?_
      refine wpT_z 3 81 QX hHeld hDn fun hDn => ?_
      refine wpT_zw 4 82 hHeld hDn fun hDn => ?_
      refine wpT_z 5 83 QX hHeld hDn fun hDn => ?_
      refine wpT_last rfl (by kernel_rfl) hDn (fun K hK => ?_)
      go_simp
      refine (RS.out _ (Kept.refl _ _).drew).mono ?_
      rintro e w9 ⟨rfl, -, k9⟩
      have K9 := Lib.hid (show Kept (fun j => j = g) w8 w9 from ((Kept.refl _ _).drew).trans k9)
      refine hK.out _ _ (fun hDn' => ?_)
      clear hK K hDn hHeld k9 RS; have hDn := hDn'; clear hDn'
      refine wpT_ze 7 2 hDn fun hDn => ?_
      refine wpT_done (by kernel_rfl) ?_ _
      clear hDn QX p0 q0
      go_wp2_with fail
      go_ret
      refine ⟨rfl, ?_⟩
      have a1 : Kept (fun j => FS p d bs mp j ∨ j = l ∨ j = m ∨ j = g) w2 w3 := K3.out.mono (fun j _ q => by rcases q with q | q | q; exact .inl q; exact .inr (.inl q); exact .inr (.inr (.inl q)))
      have a2 : Kept (fun j => FS p d bs mp j ∨ j = l ∨ j = m ∨ j = g) w2 w7 := a1.step (K6.out.trans K7.out) (fun _ _ q => q.elim)
      have a3 : Kept (fun j => FS p d bs mp j ∨ j = l ∨ j = m ∨ j = g) w2 w8 := a2.step K8.out (fun _ _ q => .inl q)
      exact a3.step K9.out (fun _ _ q => .inr (.inr (.inr q)))
end Go.Proofs.YtlkgdpdnhnakoaaGreatDoor
