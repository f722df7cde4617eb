/- StoreKeeps: the walk. -/
import Derived.Test.YtmiglhlbhbfodaaGreatDoorAct7
import Derived.Test.YtmiglhlbhbfodaaGreatDoorImg7
import Derived.Deep.CutRange
import Derived.Deep.CutBlock
import Derived.LoopTactic
namespace Go.Proofs.YtmiglhlbhbfodaaGreatDoor
open Go.RowKit Go.Sort Go.Shelf

/-- A store, a last image, and what is known of them. -/
structure KeA (W wr : World) (p d bs m : Nat) (S : Sto) (last : List Nat) (n : Nat) : Prop where
  st : StoIn wr p d bs m S
  sk : SK S last n
  k : Same W wr
  new : W.heap.size ≤ p
/-- An act's nine cells. -/
def actC (k : Nat) (n : Int) (ba : Option Addr) (bl bc : Nat) (k2 : Nat) (n2 : Int) (c u : Nat) (dn : Bool) (fa : Option Addr) (fl fc : Nat) : Array Value :=
  #[.int .u8 (k : Nat), .int .i64 n, .slice ba bl bc, .int .u8 (k2 : Nat), .int .i64 n2, .int .u8 (c : Nat), .int .u8 (u : Nat), .bool dn, .slice fa fl fc]
/-- What a round's first half leaves: a store that is well, or a disk that is off. -/
def KeM (W wx : World) (d bs m X : Nat) (cs : Array Value) (n : Nat) (xv lv nv : Value) : Prop :=
  ∃ (p : Nat) (S : Sto) (last next : List Nat), xv = .pointer (some ⟨p, 0, none⟩) ∧ lv = .string (strN last) ∧ nv = .string (strN next) ∧ Bts last ∧ Bts next ∧ StoIn wx p d bs m S ∧ Same W wx ∧ W.heap.size ≤ p ∧ Blk wx X cs 36 ∧
    ((S.D.off = false ∧ SK S last n) ∨ (S.D.off = true ∧ UP S.D last next n))
theorem StoIn.setD {w w' : World} {p d bs m cap' : Nat} {S : Sto} {D : Dsk} (h : StoIn w p d bs m S) (k : Kept (fun g => g = d) w w') (hd : DiskIn w' d bs cap' m D) : StoIn w' p d bs m { S with D := D } := by
  obtain ⟨cap, wa, wc, ba, bc, na, nc, h1, h2, h3, h4, h5, h6, h7, h8, h9, h10, h11, h12⟩ := h
  have kk : Kept (FS p d bs m) w w' := k.mono (fun g _ q => .inr (.inl q))
  exact ⟨cap', wa, wc, ba, bc, na, nc, h1.kept k (fun q => h12 (.inl q)), hd, h3.kept kk h9 h10, h4.kept kk h11, h5, h6, h7, h8, h9, h10, h11, h12⟩
theorem UP.up {D : Dsk} {x y : List Nat} {n m : Nat} (h : UP D x y n) (q : n ≤ m) : UP D x y m := fun f hf => by
  obtain ⟨S', o1, o2⟩ := h f hf
  exact ⟨S', o1, o2.elim (fun z => .inl (z.more q)) (fun z => .inr (z.more q))⟩
theorem imgS_split (S : Sto) : imgS S = S.r.body ++ (imgS S).drop S.r.body.length ∧ nextL S = fun b => b ++ (imgS S).drop S.r.body.length := by
  have e : (imgS S).drop S.r.body.length = [124] ++ (List.range S.nsize).flatMap fun n => if bitN S.nwords n = true then recD S.D.s S.r.ring S.nsize n else [] := by
    unfold imgS imgD
    rw [List.drop_left]
  rw [e]
  exact ⟨rfl, rfl⟩
theorem SK.ibts {S : Sto} {last : List Nat} {n : Nat} (h : SK S last n) : Bts last := by
  rw [h.img]
  exact imgD_bts h.ok.secs _ _ h.r.ok.bts _
theorem SK.image {w : World} {p d bs m : Nat} {S : Sto} {last : List Nat} {n : Nat} (hs : StoIn w p d bs m S) (h : SK S last n) :
    Calls Tryz.prog 10 #[.pointer (some ⟨p, 0, none⟩)] w (ImgPost w p d bs m S) :=
  st_image hs h.fit h.ok h.on h.good h.r.ok.body (by rw [h.size]; decide)
set_option maxRecDepth 100000 in
set_option maxHeartbeats 6400000 in
theorem keeps_any (W : World) (hT : TabOK W) (a : Option Addr) (len cap : Nat) (hacts : len = 0 ∨ ∃ b off, a = some ⟨b, off, none⟩ ∧ b < W.heap.size ∧ Acts7 W b off len) :
    Calls Tryz.prog 3 #[.slice a len cap] W fun e W' => e = .returned (.bool true) ∧ Same W W' := by
  have TB := Lib.hid hT
  obtain ⟨r, hfew, hr⟩ := few7 W a len cap 30 (by decide) hacts
  have FEW := Lib.hid (hfew W (Kept.refl _ _))
  clear hfew hT
  cases r with
  | false =>
    clear hr hacts
    go_enter Tryz.func3, Tryz.ntmps3
    go_wp2_with fail
    with_reducible refine FEW.out.mono ?_
    rintro e w1 ⟨rfl, rfl⟩
    clear FEW
    go_wp2_with fail
    with_reducible refine (aw07 _ (TB.out.same (Kept.refl _ _))).mono ?_
    rintro e wz ⟨rfl, kz⟩
    have KZ := Lib.hid (Kept.trans (Kept.refl _ _) kz)
    clear kz
    go_wp2_with fail
    go_ret
    exact ⟨rfl, KZ.out⟩
  | true =>
    have hl := hr rfl
    have HA := Lib.hid hacts
    clear hr hacts
    go_enter Tryz.func3, Tryz.ntmps3
    go_wp2_with fail
    with_reducible refine FEW.out.mono ?_
    rintro e w1 ⟨rfl, rfl⟩
    clear FEW
    go_wp2_with fail
    with_reducible refine (sd_new 60 w1).mono ?_
    rintro e w2 ⟨d, bs, cap0, m, rfl, h1, hd, hbs, hm, k2⟩
    have H1 := Lib.hid h1
    have K2 := Lib.hid k2
    have DB := Lib.hid (show ∀ g, dod d bs m g → w1.heap.size ≤ g from fun g hg => by rcases hg with q | q | q <;> omega)
    have FM := Lib.hid (st_Format H1.out 4)
    rw [k_fmt] at FM
    unfold FmtPost at FM
    dsimp only at FM
    clear h1 k2
    go_wp2_with fail
    with_reducible refine FM.out.mono ?_
    rintro e w3 ⟨⟨p0, rfl, s3, hp⟩, k3⟩
    have S3 := Lib.hid s3
    have hp1 : w1.heap.size ≤ p0 := Nat.le_trans K2.out.size hp
    have K3 := Lib.hid (K2.out.newer k3 DB.out)
    have IM := Lib.hid (k_start.image S3.out)
    unfold ImgPost at IM
    clear s3 k3 FM H1 K2 hp
    go_wp2_with fail
    with_reducible refine IM.out.mono ?_
    rintro e w4 ⟨rfl, s4, k4⟩
    have KE := Lib.hid (show KeA w1 w4 p0 d bs m kS0 (imgS kS0) 1 from ⟨s4, k_start, K3.out.newer k4 (fun g hg => by omega), hp1⟩)
    clear s4 k4 IM S3 K3
    generalize imgS kS0 = L0 at KE ⊢
    go_wp2_with fail
    go_loopw [4, 6, 7] (fun xv lv t wr => ∃ (i p : Nat) (S : Sto) (last : List Nat), xv = .pointer (some ⟨p, 0, none⟩) ∧ lv = .string (strN last) ∧ t = .int .i64 i ∧ i ≤ len ∧ KeA w1 wr p d bs m S last (1 + 2 * i)) (fun _ _ t _ => len - (intOf t).toNat)
    case atStart => exact ⟨0, p0, kS0, L0, rfl, rfl, rfl, by omega, KE.out⟩
    case round =>
      clear KE
      obtain ⟨i, p, S, last, rfl, rfl, rfl, hi, hke⟩ := hrel
      have GA := Lib.hid hke
      clear hke
      by_cases hgo : i < len
      · have g1 : (i : Int) < (len : Int) := by omega
        have g0 : (0 : Int) ≤ (i : Int) := by omega
        obtain ⟨b, off, rfl, hb, hall⟩ := HA.out.resolve_left (by omega)
        obtain ⟨k, n, ba, bl, bc, bo, hact⟩ := hall i hgo
        have AC := Lib.hid (hact.same GA.out.k hb)
        obtain ⟨k2, n2, c, u, dn, fa, fl, fc, fs, hd0⟩ := hact.d
        have NF1 := Lib.hid hd0.at_
        have hd2 := hd0.same GA.out.k hb
        obtain ⟨c0, c1, c2, -, -, -, -, -, -, -⟩ := AC.out
        obtain ⟨c3, c4, c5, c6, c7, c8, -, nb2, -, -, fl_, fc_, fb, fat⟩ := hd2
        have FA := Lib.hid (And.intro fl_ (And.intro fc_ (And.intro fb fat)))
        have NB2 := Lib.hid nb2
        obtain ⟨kk, hkk⟩ : ∃ kk, k % 10 = kk := ⟨_, rfl⟩
        have e8 : (k : Int) % 10 = (kk : Int) := by omega
        have hkl : kk < 10 := by omega
        clear hall hkk fl_ fc_ fb fat nb2 hd0
        go_upto_region 12 with fail
        refine cutWl (fun wn => Blk wn wr.heap.size (actC k n ba bl bc k2 n2 c u dn fa fl fc) 36 ∧ Same wr wn) ⟨Blk.new _ _ _, (Kept.refl _ _).alloc _⟩ ?_
        rintro wn ⟨hbx, kn⟩
        have KN := Lib.hid (GA.out.k.trans kn)
        have ST := Lib.hid (GA.out.st.same kn)
        have SKh := Lib.hid GA.out.sk
        have BX := Lib.hid hbx
        have FX := Lib.hid (show ¬ FS p d bs m wr.heap.size from fun q => by have := GA.out.st.ltF _ q; omega)
        have PN0 : ∀ g, FS p d bs m g → w1.heap.size ≤ g := fun g hg => hg.elim (fun q => by have := GA.out.new; omega) (DB.out g)
        have PN := Lib.hid (show ∀ g, FS p d bs m g → w1.heap.size ≤ g from fun g hg => hg.elim (fun q => by have := GA.out.new; omega) (DB.out g))
        have HP := Lib.hid GA.out.new
        have BO := Lib.hid (show bl = bo.length ∧ bl ≤ bc ∧ Bts bo from ⟨AC.out.bl_, AC.out.bc_, AC.out.bb⟩)
        have NX := Lib.hid (show w1.heap.size ≤ wr.heap.size from GA.out.k.size)
        have BA := Lib.hid (show bo = [] ∨ Apt ba (FS p d bs m) from hact.at_.elim .inl (fun ⟨y, o, e, hy, _⟩ => .inr fun x hx q => by rw [e] at hx; cases hx; have := PN0 _ q; dsimp only at this; omega))
        have FAo := Lib.hid (show fl = fs.length ∧ fl ≤ fc ∧ Bts fs from ⟨FA.out.1, FA.out.2.1, FA.out.2.2.1⟩)
        have NBO := Lib.hid (AC.out.at_.same kn)
        have NFA := Lib.hid (FA.out.2.2.2.same kn)
        clear hbx kn c0 c1 c2 c3 c4 c5 c6 c7 c8 AC FA GA hact PN0
        generalize wr.heap.size = X at *
        have pc := cell_blk BX.out
        have fX := fun i => BX.out.free i
        have zX := BX.out.lt
        unfold actC at pc
        go_upto_region 13 with fail
        go_upto_block 2 with fail
        go_cut [4, 6, 9] from 29 to 152 (fun xv lv nv wx => KeM w1 wx d bs m X (actC k n ba bl bc k2 n2 c u dn fa fl fc) (3 + 2 * i) xv lv nv)
        case first =>
          have hcase : (kk = 0 ∨ kk = 1 ∨ kk = 2) ∨ kk = 5 ∨ kk = 7 ∨ kk = 8 ∨ (kk = 3 ∨ kk = 4) ∨ kk = 6 ∨ kk = 9 := by omega
          clear hkl
          rcases hcase with h | h | h | h | h | h | h
          · rcases h with rfl | rfl | rfl
            · have AL := Lib.hid (st_Alloc ST.out SKh.out.fit (TB.out.same KN.out))
              unfold StPost at AL
              generalize S.alloc.2.1 = q1 at AL
              generalize S.alloc.2.2 = q2 at AL
              go_wp2_with fail
              with_reducible refine AL.out.mono ?_
              rintro e wa ⟨rfl, sa, ka⟩
              have SA := Lib.hid sa
              have KA := Lib.hid (KN.out.newer ka (fun g hg => PN.out g (.inl hg)))
              have BA' := Lib.hid (BX.out.kept ka (fun q => FX.out (.inl q)))
              clear sa ka AL pc fX zX
              go_wp2_with fail
              go_meet
              exact ⟨p, S.alloc.1, last, last, rfl, rfl, rfl, SKh.out.ibts, SKh.out.ibts, SA.out, KA.out, HP.out, BA'.out, .inl ⟨SKh.out.alloc.on, SKh.out.alloc.more (by omega)⟩⟩
            · have AL := Lib.hid (st_Alloc ST.out SKh.out.fit (TB.out.same KN.out))
              unfold StPost at AL
              generalize S.alloc.2.1 = q1 at AL
              generalize S.alloc.2.2 = q2 at AL
              go_wp2_with fail
              with_reducible refine AL.out.mono ?_
              rintro e wa ⟨rfl, sa, ka⟩
              have SA := Lib.hid sa
              have KA := Lib.hid (KN.out.newer ka (fun g hg => PN.out g (.inl hg)))
              have BA' := Lib.hid (BX.out.kept ka (fun q => FX.out (.inl q)))
              clear sa ka AL pc fX zX
              go_wp2_with fail
              go_meet
              exact ⟨p, S.alloc.1, last, last, rfl, rfl, rfl, SKh.out.ibts, SKh.out.ibts, SA.out, KA.out, HP.out, BA'.out, .inl ⟨SKh.out.alloc.on, SKh.out.alloc.more (by omega)⟩⟩
            · have AL := Lib.hid (st_Alloc ST.out SKh.out.fit (TB.out.same KN.out))
              unfold StPost at AL
              generalize S.alloc.2.1 = q1 at AL
              generalize S.alloc.2.2 = q2 at AL
              go_wp2_with fail
              with_reducible refine AL.out.mono ?_
              rintro e wa ⟨rfl, sa, ka⟩
              have SA := Lib.hid sa
              have KA := Lib.hid (KN.out.newer ka (fun g hg => PN.out g (.inl hg)))
              have BA' := Lib.hid (BX.out.kept ka (fun q => FX.out (.inl q)))
              clear sa ka AL pc fX zX
              go_wp2_with fail
              go_meet
              exact ⟨p, S.alloc.1, last, last, rfl, rfl, rfl, SKh.out.ibts, SKh.out.ibts, SA.out, KA.out, HP.out, BA'.out, .inl ⟨SKh.out.alloc.on, SKh.out.alloc.more (by omega)⟩⟩
          · subst h
            have FR := Lib.hid (st_Free ST.out n)
            go_wp2_with fail
            with_reducible refine FR.out.mono ?_
            rintro e wa ⟨rfl, sa, ka⟩
            have SA := Lib.hid sa
            have KA := Lib.hid (KN.out.newer ka (fun g hg => PN.out g (.inl hg)))
            have BA' := Lib.hid (BX.out.kept ka (fun q => FX.out (.inl q)))
            clear sa ka FR pc fX zX
            go_wp2_with fail
            go_meet
            exact ⟨p, (S.free n).1, last, last, rfl, rfl, rfl, SKh.out.ibts, SKh.out.ibts, SA.out, KA.out, HP.out, BA'.out, .inl ⟨(SKh.out.free n).on, (SKh.out.free n).more (by omega)⟩⟩
          · subst h
            have FR := Lib.hid (st_Forget ST.out)
            go_wp2_with fail
            with_reducible refine FR.out.mono ?_
            rintro e wa ⟨rfl, sa, ka⟩
            have SA := Lib.hid sa
            have KA := Lib.hid (KN.out.newer ka (fun g hg => PN.out g (.inl hg)))
            have BA' := Lib.hid (BX.out.kept ka (fun q => FX.out (.inl q)))
            clear sa ka FR pc fX zX
            go_wp2_with fail
            go_meet
            exact ⟨p, S.forget.1, last, last, rfl, rfl, rfl, SKh.out.ibts, SKh.out.ibts, SA.out, KA.out, HP.out, BA'.out, .inl ⟨SKh.out.forget.on, SKh.out.forget.more (by omega)⟩⟩
          · subst h
            obtain ⟨A, hA⟩ : ∃ A, wrap64 ((IntKind.u64.wrap n2).tmod 9) = A := ⟨_, rfl⟩
            have hA2 : 0 ≤ A ∧ A < 9 := by
              rw [← hA, IntKind.wrap_u64, Int.tmod_eq_emod_of_nonneg (by omega)]
              unfold wrap64
              omega
            obtain ⟨cap', hd'⟩ := ST.out.disk
            have BR := Lib.hid (sd_break hd' A (by omega) dn)
            have KB := Lib.hid (SKh.out.brk hA2.1 (by omega) dn)
            generalize (breakD S.D A dn).2 = q2 at BR
            clear hd' hA2
            go_wp2_with fail
            with_reducible refine BR.out.mono ?_
            rintro e wa ⟨rfl, da, ka⟩
            have SA := Lib.hid (ST.out.setD ka da)
            have KA := Lib.hid (KN.out.newer ka (fun g hg => PN.out g (.inr (.inl hg))))
            have BA' := Lib.hid (BX.out.kept ka (fun q => FX.out (.inr (.inl q))))
            clear da ka BR pc fX zX
            go_wp2_with fail
            go_meet
            exact ⟨p, { S with D := (breakD S.D A dn).1 }, last, last, rfl, rfl, rfl, SKh.out.ibts, SKh.out.ibts, SA.out, KA.out, HP.out, BA'.out, .inl ⟨KB.out.on, KB.out.more (by omega)⟩⟩
          · obtain ⟨h1, h2, h3⟩ := BO.out
            have WR := Lib.hid (st_Write ST.out n ba bl bc bo h1 h3 h2 NBO.out)
            unfold StPost at WR
            have HW := Lib.hid (SKh.out.write (by omega) n h3)
            obtain ⟨q, hq⟩ : ∃ q, S.wr n bo = q := ⟨_, rfl⟩
            rw [hq] at WR HW
            clear h1 h2 h3 hq
            rcases h with rfl | rfl
            · go_wp2_with fail
              with_reducible refine WR.out.mono ?_
              rintro e wa ⟨rfl, sa, ka⟩
              have SA := Lib.hid sa
              have KA := Lib.hid (KN.out.newer ka PN.out)
              have BA' := Lib.hid (BX.out.kept ka FX.out)
              clear sa ka WR pc fX zX
              go_wp2_with fail
              go_meet
              refine ⟨p, q.1, last, last, rfl, rfl, rfl, SKh.out.ibts, SKh.out.ibts, SA.out, KA.out, HP.out, BA'.out, ?_⟩
              by_cases hoff : q.1.D.off = false
              · exact .inl ⟨hoff, (HW.out.1 hoff).more (by omega)⟩
              · have hoff' : q.1.D.off = true := by simpa using hoff
                exact .inr ⟨hoff', (HW.out.2 hoff').up (by omega)⟩
            · go_wp2_with fail
              with_reducible refine WR.out.mono ?_
              rintro e wa ⟨rfl, sa, ka⟩
              have SA := Lib.hid sa
              have KA := Lib.hid (KN.out.newer ka PN.out)
              have BA' := Lib.hid (BX.out.kept ka FX.out)
              clear sa ka WR pc fX zX
              go_wp2_with fail
              go_meet
              refine ⟨p, q.1, last, last, rfl, rfl, rfl, SKh.out.ibts, SKh.out.ibts, SA.out, KA.out, HP.out, BA'.out, ?_⟩
              by_cases hoff : q.1.D.off = false
              · exact .inl ⟨hoff, (HW.out.1 hoff).more (by omega)⟩
              · have hoff' : q.1.D.off = true := by simpa using hoff
                exact .inr ⟨hoff', (HW.out.2 hoff').up (by omega)⟩
          · subst h
            obtain ⟨h1, h2, h3⟩ := BO.out
            have CM := Lib.hid (fun w' (k : Same w1 w1) (hs : StoIn w' p d bs m S) (hn : NatsAt w' .u8 ba bo) => st_Commit hs SKh.out.fit ba bl bc bo h1 h3 h2 hn BA.out)
            unfold StPost at CM
            by_cases h700 : 700 < bo.length
            · have e5 : S.commit bo = (S, 5) := by unfold Sto.commit; rw [SKh.out.good, if_neg (by decide), if_pos h700]
              have CM2 := Lib.hid (CM.out wn (Kept.refl _ _) ST.out NBO.out)
              rw [e5] at CM2
              rw [← h1] at h700
              have g7 : ¬ (bl : Int) ≤ 700 := by omega
              clear h1 h2 h3 CM e5 h700
              go_wp2_with fail
              with_reducible refine CM2.out.mono ?_
              rintro e wa ⟨rfl, sa, ka⟩
              have SA := Lib.hid sa
              have KA := Lib.hid (KN.out.newer ka PN.out)
              have BA' := Lib.hid (BX.out.kept ka FX.out)
              clear sa ka CM2 pc fX zX
              go_wp2_with fail
              go_meet
              exact ⟨p, S, last, last, rfl, rfl, rfl, SKh.out.ibts, SKh.out.ibts, SA.out, KA.out, HP.out, BA'.out, .inl ⟨SKh.out.on, SKh.out.more (by omega)⟩⟩
            · have KC := Lib.hid (SKh.out.commit (by omega) h3 (by omega))
              have g7 : (bl : Int) ≤ 700 := by omega
              have NP := Lib.hid (fun w' (k : Kept (fun g => g = p) wn w') => NBO.out.kept' k (BA.out.imp (fun z => z) (fun z x hx q => z x hx (.inl q))))
              have QX := Lib.hid (fun w' (kq : Kept (fun g => g = p) wn w') => show (∀ i, w'.cell? ⟨X, i, none⟩ = (actC k n ba bl bc k2 n2 c u dn fa fl fc)[i]?) ∧ (convert 32 9 (.slice ba bl bc)).run Tryz.prog w' = .ok (.string (strN bo)) w' ∧ True ∧ True from ⟨cell_blk (BX.out.kept kq (fun q => FX.out (.inl q))), conv_str ba bl bc bo w' h1 (NP.out w' kq), trivial, trivial⟩)
              unfold actC at QX
              have IM := Lib.hid (fun w' (k : Same wn w') => SKh.out.image (ST.out.same k))
              unfold ImgPost at IM
              have HB7 := Lib.hid (And.intro h1 (And.intro h3 h700))
              clear h1 h2 h3 h700
              go_wp2_with fail
              refine wp_region_T (S := fun w' => Kept (fun g => g = p) wn w') 10 (by kernel_rfl) (Kept.refl _ _).drew (fun hHeld hDn => ?_)
              refine wpT_take (i := 0) (t := 64) (v := ?_) rfl rfl rfl (by kernel_rfl) (by kernel_rfl) (by kernel_rfl) (by kernel_rfl) (fun _ _ _ h => h) (Or.inl ⟨by rfl, ?_⟩) hHeld hDn (fun hDn' => ?_)
              rotate_left
              · (intro w hSw; have hQX := QX.out w hSw; obtain ⟨s1, s2, s3, s4⟩ := hQX; go_simp; (try with_reducible rfl))
              clear hDn; have hDn := hDn'; clear hDn'
              simp only [Act.put, List.setIfInBounds_toArray, List.set_cons_zero, List.set_cons_succ]
              refine wpT_take (i := 1) (t := 65) (v := ?_) rfl rfl rfl (by kernel_rfl) (by kernel_rfl) (by kernel_rfl) (by kernel_rfl) (fun _ _ _ h => h) (Or.inl ⟨by rfl, ?_⟩) hHeld hDn (fun hDn' => ?_)
              rotate_left
              · (intro w hSw; have hQX := QX.out w hSw; obtain ⟨s1, s2, s3, s4⟩ := hQX; go_simp; (try with_reducible rfl))
              clear hDn; have hDn := hDn'; clear hDn'
              simp only [Act.put, List.setIfInBounds_toArray, List.set_cons_zero, List.set_cons_succ]
              refine wpT_take (i := 2) (t := 66) (v := ?_) rfl rfl rfl (by kernel_rfl) (by kernel_rfl) (by kernel_rfl) (by kernel_rfl) (fun _ _ _ h => h) (Or.inl ⟨by rfl, ?_⟩) hHeld hDn (fun hDn' => ?_)
              rotate_left
              · (intro w hSw; have hQX := QX.out w hSw; obtain ⟨s1, s2, s3, s4⟩ := hQX; go_simp; (try with_reducible rfl))
              clear hDn; have hDn := hDn'; clear hDn'
              simp only [Act.put, List.setIfInBounds_toArray, List.set_cons_zero, List.set_cons_succ]
              refine wpT_take (i := 3) (t := 67) (v := ?_) rfl rfl rfl (by kernel_rfl) (by kernel_rfl) (by kernel_rfl) (by kernel_rfl) (fun _ _ _ h => h) (Or.inl ⟨by rfl, ?_⟩) hHeld hDn (fun hDn' => ?_)
              rotate_left
              · (intro w hSw; have hQX := QX.out w hSw; obtain ⟨s1, s2, s3, s4⟩ := hQX; go_simp; (try with_reducible rfl))
              clear hDn; have hDn := hDn'; clear hDn'
              simp only [Act.put, List.setIfInBounds_toArray, List.set_cons_zero, List.set_cons_succ]
              refine wpT_take (i := 5) (t := 69) (v := ?_) rfl rfl rfl (by kernel_rfl) (by kernel_rfl) (by kernel_rfl) (by kernel_rfl) (fun _ _ _ h => h) (Or.inl ⟨by rfl, ?_⟩) hHeld hDn (fun hDn' => ?_)
              rotate_left
              · (intro w hSw; have hQX := QX.out w hSw; obtain ⟨s1, s2, s3, s4⟩ := hQX; go_simp; (try with_reducible rfl))
              clear hDn; have hDn := hDn'; clear hDn'
              simp only [Act.put, List.setIfInBounds_toArray, List.set_cons_zero, List.set_cons_succ]
              refine wpT_one (i := 4) rfl (by kernel_rfl) hDn (fun K' hK => ?_)
              go_simp
              with_reducible refine (IM.out _ ((Kept.refl _ _).drew)).mono ?_
              rintro e wa ⟨rfl, sa, ka⟩
              have SA := Lib.hid sa
              have PA := Lib.hid (show Kept (fun g => g = p) wn wa from ((Kept.refl _ _).drew).trans ka)
              have BD := Lib.hid (st_Body sa)
              refine hK.out _ _ PA.out (fun hHeld2 hDn2 => ?_)
              clear hK K' hHeld hDn sa ka IM
              have hHeld := hHeld2; have hDn := hDn2
              clear hHeld2 hDn2
              refine wpT_one (i := 6) rfl (by kernel_rfl) hDn (fun K' hK => ?_)
              go_simp
              with_reducible refine BD.out.mono ?_
              rintro e wb ⟨⟨v6, rfl, o6⟩, k6⟩
              obtain ⟨a6, l6, c6, rfl, hl6, -, -, -⟩ := o6.rd
              have SB := Lib.hid (SA.out.same k6)
              have PB := Lib.hid (PA.out.trans (k6.mono (fun _ _ q => q.elim)))
              have IL := Lib.hid (show imgS S = S.r.body ++ (imgS S).drop S.r.body.length ∧ l6 = S.r.body.length from ⟨(imgS_split S).1, hl6.out⟩)
              refine hK.out _ _ PB.out (fun hHeld2 hDn2 => ?_)
              clear hK K' hHeld hDn o6 k6 BD hl6 SA PA
              have hHeld := hHeld2; have hDn := hDn2
              clear hHeld2 hDn2
              have HIL := Lib.hid (show (imgS S).length ≤ 13000 from by
                have h1 := imgTo_len (S := S) SKh.out.ok.secs S.nsize
                rw [imgTo_all] at h1
                have h2 := SKh.out.r.ok.body
                have h3 := SKh.out.size
                rw [h3] at h1
                omega)
              obtain ⟨T, hT'⟩ : ∃ T, (imgS S).drop S.r.body.length = T := ⟨_, rfl⟩
              have HT := Lib.hid hT'
              have hle : l6 ≤ (strN (imgS S)).size := by rw [strN_size]; have h1 := IL.out.1; have h2 := congrArg List.length h1; rw [List.length_append] at h2; have := IL.out.2; omega
              have hcut : (strN (imgS S)).extract l6 (strN (imgS S)).size = strN T := by
                rw [strN_size, strN_cut, List.take_of_length_le (Nat.le_refl _), IL.out.2, hT']
              have happ := strN_app bo T
              have had : ((strN bo).size : Int) + ((strN T).size : Int) ≤ 9223372036854775807 := by
                rw [strN_size, strN_size, ← hT', List.length_drop]
                have := HIL.out; have := HB7.out.2.2
                omega
              have had3 : (9223372036854775807 < (strN bo).size + (strN T).size) = False := eq_false (by omega)
              clear hT'
              refine wpT_take (i := 7) (t := 71) (v := ?_) rfl rfl rfl (by kernel_rfl) (by kernel_rfl) (by kernel_rfl) (by kernel_rfl) (fun _ _ _ h => h) (Or.inl ⟨by rfl, ?_⟩) hHeld hDn (fun hDn' => ?_)
              rotate_left
              · (intro w hSw; have hQX := QX.out w hSw; obtain ⟨s1, s2, s3, s4⟩ := hQX; go_simp; (try with_reducible rfl))
              clear hDn; have hDn := hDn'; clear hDn'
              simp only [Act.put, List.setIfInBounds_toArray, List.set_cons_zero, List.set_cons_succ]
              refine wpT_take (i := 8) (t := 72) (v := ?_) rfl rfl rfl (by kernel_rfl) (by kernel_rfl) (by kernel_rfl) (by kernel_rfl) (fun _ _ _ h => h) (Or.inl ⟨by rfl, ?_⟩) hHeld hDn (fun hDn' => ?_)
              rotate_left
              · (intro w hSw; have hQX := QX.out w hSw; obtain ⟨s1, s2, s3, s4⟩ := hQX; go_simp; (try with_reducible rfl))
              clear hDn; have hDn := hDn'; clear hDn'
              simp only [Act.put, List.setIfInBounds_toArray, List.set_cons_zero, List.set_cons_succ]
              refine wpT_take (i := 9) (t := 73) (v := ?_) rfl rfl rfl (by kernel_rfl) (by kernel_rfl) (by kernel_rfl) (by kernel_rfl) (fun _ _ _ h => h) (Or.inl ⟨by rfl, ?_⟩) hHeld hDn (fun hDn' => ?_)
              rotate_left
              · (intro w hSw; have hQX := QX.out w hSw; obtain ⟨s1, s2, s3, s4⟩ := hQX; go_simp; (try with_reducible rfl))
              clear hDn; have hDn := hDn'; clear hDn'
              simp only [Act.put, List.setIfInBounds_toArray, List.set_cons_zero, List.set_cons_succ]
              refine wpT_last rfl (by kernel_rfl) hDn (fun K hK => ?_)
              go_simp
              refine hK.out _ _ (fun hDn' => ?_)
              clear hK K hDn hHeld; have hDn := hDn'; clear hDn'
              refine wpT_done (by kernel_rfl) ?_ _
              have NL := Lib.hid (show bo ++ T = nextL S bo from by rw [(imgS_split S).2, HT.out])
              rw [NL.out]
              have NB := Lib.hid (show Bts (nextL S bo) from imgD_bts SKh.out.ok.secs _ _ HB7.out.2.1 _)
              have CM2 := Lib.hid (CM.out wb (Kept.refl _ _) SB.out (NP.out wb PB.out))
              obtain ⟨q, hq⟩ : ∃ q, S.commit bo = q := ⟨_, rfl⟩
              rw [hq] at CM2 KC
              have KB := Lib.hid (KN.out.newer PB.out (fun g hg => by have := HP.out; omega))
              have BB := Lib.hid (BX.out.kept PB.out (fun q => FX.out (.inl q)))
              clear hDn QX CM hle hcut happ had had3 hq pc fX zX NL NP
              have pc := cell_blk BB.out
              unfold actC at pc
              go_wp2_with fail
              with_reducible refine CM2.out.mono ?_
              rintro e wc ⟨rfl, sc, kc⟩
              have SC := Lib.hid sc
              have KC2 := Lib.hid (KB.out.newer kc PN.out)
              have BC := Lib.hid (BB.out.kept kc FX.out)
              clear sc kc CM2 pc SB PB KB BB
              by_cases h0 : q.2 = 0
              · have K0 := Lib.hid (KC.out.1 h0)
                rw [h0]
                simp only [Int.natCast_zero]
                clear h0
                go_wp2_with fail
                go_meet
                exact ⟨p, q.1, nextL S bo, nextL S bo, rfl, rfl, rfl, NB.out, NB.out, SC.out, KC2.out, HP.out, BC.out, .inl ⟨K0.out.1, K0.out.2.more (by omega)⟩⟩
              · have K0 := Lib.hid (KC.out.2 h0)
                have g9 : ((q.2 : Nat) : Int) ≠ 0 := by omega
                have g10 : (((q.2 : Nat) : Int) == 0) = false := by simp; omega
                clear h0
                go_wp2_with fail
                go_meet
                exact ⟨p, q.1, last, nextL S bo, rfl, rfl, rfl, SKh.out.ibts, NB.out, SC.out, KC2.out, HP.out, BC.out, .inr ⟨K0.out.1, K0.out.2.up (by omega)⟩⟩
          · subst h
            obtain ⟨cap', hd'⟩ := ST.out.disk
            have PW := Lib.hid (sd_power hd' fa fl fc fs FAo.out.1 FAo.out.2.1 FAo.out.2.2 NFA.out)
            obtain ⟨S2, o1, o2⟩ := SKh.out.power (by omega) fs FAo.out.2.2
            have SK2 := Lib.hid (o2.elim (fun z => z) (fun z => z))
            have O1 := Lib.hid o1
            clear hd' o1 o2
            go_wp2_with fail
            with_reducible refine PW.out.mono ?_
            rintro e wa ⟨rfl, da, ka⟩
            have OP := Lib.hid (st_open da)
            rw [O1.out, show (powerD S.D fs).off = false from rfl] at OP
            unfold OpenPost at OP
            have KA := Lib.hid (KN.out.newer ka DB.out)
            have BA' := Lib.hid (BX.out.kept ka (fun q => FX.out (.inr q)))
            clear da ka PW pc fX zX
            go_wp2_with fail
            with_reducible refine OP.out.mono ?_
            rintro e wb ⟨hq, kb⟩
            rw [if_neg (by decide)] at hq
            obtain ⟨p2, rfl, sb, hp2⟩ := hq
            have IM := Lib.hid (SK2.out.image sb)
            unfold ImgPost at IM
            rw [SK2.out.imgNow (openS_now O1.out).1] at IM
            have KB := Lib.hid (KA.out.trans kb)
            have BB := Lib.hid (BA'.out.kept kb (fun q => q))
            have HP2 := Lib.hid (show w1.heap.size ≤ p2 ∧ ¬ X = p2 from ⟨Nat.le_trans KA.out.size hp2, by have := BA'.out.lt; omega⟩)
            clear sb kb hp2 OP KA BA'
            go_wp2_with fail
            with_reducible refine IM.out.mono ?_
            rintro e wc ⟨rfl, sc, kc⟩
            have SC := Lib.hid sc
            have KC := Lib.hid (KB.out.newer kc (fun g hg => by have := HP2.out.1; omega))
            have BC := Lib.hid (BB.out.kept kc HP2.out.2)
            clear sc kc IM KB BB
            go_wp2_with fail
            go_meet
            exact ⟨p2, S2, last, last, rfl, rfl, rfl, SKh.out.ibts, SKh.out.ibts, SC.out, KC.out, HP2.out.1, BC.out, .inl ⟨SK2.out.on, SK2.out.more (by omega)⟩⟩
        case rest =>
          unfold KeM at hcut
          obtain ⟨p2, S2, last2, next2, rfl, rfl, rfl, hb1, hb2, hs, hk, hp2, hbx, hst⟩ := hcut
          obtain ⟨cap', hd'⟩ := hs.disk
          have OF := Lib.hid (sd_off hd')
          have HB := Lib.hid (And.intro hb1 hb2)
          have SS := Lib.hid hs; have KW := Lib.hid hk; have BW := Lib.hid hbx
          have pc := cell_blk BW.out
          unfold actC at pc
          clear hb1 hb2 hs hk hbx
          rcases hst with ⟨hoff, hsk⟩ | ⟨hoff, hup⟩
          · rw [hoff] at OF
            have S3 := Lib.hid hsk
            clear hoff hsk hd'
            go_wp2_with fail
            with_reducible refine OF.out.mono ?_
            rintro e wa ⟨rfl, rfl⟩
            clear OF pc
            go_wp2_with fail
            go_roundw
            case rel => exact ⟨i + 1, p2, S2, last2, rfl, rfl, by go_num, by omega, ⟨SS.out, S3.out.more (by omega), KW.out, hp2⟩⟩
            case measure => simp [intOf]; omega
          · rw [hoff] at OF
            have PW := Lib.hid (sd_power hd' fa fl fc fs FAo.out.1 FAo.out.2.1 FAo.out.2.2 (NF1.out.same KW.out))
            obtain ⟨S3, o1, o2⟩ := hup fs FAo.out.2.2
            have O1 := Lib.hid o1; have O2 := Lib.hid o2
            clear hoff hup hd' o1 o2
            go_wp2_with fail
            with_reducible refine OF.out.mono ?_
            rintro e wa ⟨rfl, rfl⟩
            clear OF
            go_wp2_with fail
            with_reducible refine PW.out.mono ?_
            rintro e wb ⟨rfl, db, kb⟩
            have OP := Lib.hid (st_open db)
            rw [O1.out, show (powerD S2.D fs).off = false from rfl] at OP
            unfold OpenPost at OP
            have KB := Lib.hid (KW.out.newer kb DB.out)
            clear db kb PW pc
            go_wp2_with fail
            with_reducible refine OP.out.mono ?_
            rintro e wc ⟨hq, kc⟩
            rw [if_neg (by decide)] at hq
            obtain ⟨p3, rfl, sc, hp3⟩ := hq
            have SC := Lib.hid sc
            have KC := Lib.hid (KB.out.trans kc)
            have HP3 := Lib.hid (show w1.heap.size ≤ p3 from Nat.le_trans KB.out.size hp3)
            clear sc kc hp3 OP KB
            rcases O2.out with z | z
            · have SK3 := Lib.hid z
              have IM := Lib.hid (SK3.out.image SC.out)
              unfold ImgPost at IM
              rw [SK3.out.imgNow (openS_now O1.out).1] at IM
              clear z O2
              go_wp2_with fail
              with_reducible refine IM.out.mono ?_
              rintro e wd ⟨rfl, sd, kd⟩
              have SD := Lib.hid sd
              have KD := Lib.hid (KC.out.newer kd (fun g hg => by have := HP3.out; omega))
              clear sd kd IM SC KC
              go_wp2_with fail
              go_roundw
              case rel => exact ⟨i + 1, p3, S3, last2, rfl, rfl, by go_num, by omega, ⟨SD.out, SK3.out.more (by omega), KD.out, HP3.out⟩⟩
              case measure => simp [intOf]; omega
            · have SK3 := Lib.hid z
              have IM := Lib.hid (SK3.out.image SC.out)
              unfold ImgPost at IM
              rw [SK3.out.imgNow (openS_now O1.out).1] at IM
              clear z O2
              by_cases heq : next2 = last2
              · subst heq
                go_wp2_with fail
                with_reducible refine IM.out.mono ?_
                rintro e wd ⟨rfl, sd, kd⟩
                have SD := Lib.hid sd
                have KD := Lib.hid (KC.out.newer kd (fun g hg => by have := HP3.out; omega))
                clear sd kd IM SC KC
                go_wp2_with fail
                go_roundw
                case rel => exact ⟨i + 1, p3, S3, next2, rfl, rfl, by go_num, by omega, ⟨SD.out, SK3.out.more (by omega), KD.out, HP3.out⟩⟩
                case measure => simp [intOf]; omega
              · have q1 : ((strN next2).toList == (strN last2).toList) = false := by rw [str_beq HB.out.2 HB.out.1]; exact decide_eq_false heq
                have q2 : (!((strN next2).toList == (strN last2).toList)) = true := by rw [q1]; rfl
                have q3 : ((strN next2).toList != (strN last2).toList) = true := q2
                clear heq
                go_wp2_with fail
                with_reducible refine IM.out.mono ?_
                rintro e wd ⟨rfl, sd, kd⟩
                have SD := Lib.hid sd
                have KD := Lib.hid (KC.out.newer kd (fun g hg => by have := HP3.out; omega))
                clear sd kd IM SC KC
                go_wp2_with fail
                go_roundw
                case rel => exact ⟨i + 1, p3, S3, next2, rfl, rfl, by go_num, by omega, ⟨SD.out, SK3.out.more (by omega), KD.out, HP3.out⟩⟩
                case measure => simp [intOf]; omega
      · have g1 : ¬ (i : Int) < (len : Int) := by omega
        go_wp2_with fail
        with_reducible refine (aw07 _ (TB.out.same GA.out.k)).mono ?_
        rintro e wz ⟨rfl, kz⟩
        have KZ := Lib.hid (Kept.trans GA.out.k kz)
        clear kz
        go_wp2_with fail
        go_ret
        exact ⟨rfl, KZ.out⟩
end Go.Proofs.YtmiglhlbhbfodaaGreatDoor
