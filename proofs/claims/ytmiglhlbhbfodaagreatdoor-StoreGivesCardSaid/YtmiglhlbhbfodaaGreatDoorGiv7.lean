/- StoreGives: the walk. -/
import Derived.Test.YtmiglhlbhbfodaaGreatDoorAct7
import Derived.Test.YtmiglhlbhbfodaaGreatDoorGAw7
import Derived.Test.YtmiglhlbhbfodaaGreatDoorGGiv
import Derived.Test.YtmiglhlbhbfodaaGreatDoorBm7
namespace Go.Proofs.YtmiglhlbhbfodaaGreatDoor
open Go.RowKit Go.Sort Go.Shelf

/-- What is known at a round's head. -/
structure GivA (W wr : World) (p d bs m : Nat) (S : Sto) (n N size : Nat) : Prop where
  st : StoIn wr p d bs m S
  gi : GI S n N
  sz : S.nsize = size
  k : Same W wr
theorem alloc_size (S : Sto) : S.alloc.1.nsize = S.nsize := by
  unfold Sto.alloc
  split
  · rfl
  · split <;> rfl
theorem free_size (S : Sto) (n : Int) : (S.free n).1.nsize = S.nsize := by
  unfold Sto.free
  split <;> rfl
set_option maxRecDepth 100000 in
set_option maxHeartbeats 6400000 in
theorem gives_any (W : World) (hT : TabOK W) (s : Nat) (hs : s < 256) (a : Option Addr) (len cap : Nat) (hacts : len = 0 ∨ ∃ b off, a = some ⟨b, off, none⟩ ∧ b < W.heap.size ∧ Acts7 W b off len) :
    Calls Tryz.prog 4 #[.int .u8 (s : Nat), .slice a len cap] W fun e W' => e = .returned (.bool true) ∧ Same W W' := by
  have TB := Lib.hid hT
  obtain ⟨r, hfew, hr⟩ := few7 W a len cap 30 (by decide) hacts
  have FEW := Lib.hid (hfew W (Kept.refl _ _))
  clear hfew hT
  cases r with
  | false =>
    clear hr hacts hs
    go_enter Tryz.func4, Tryz.ntmps4
    go_wp2_with fail
    with_reducible refine FEW.out.mono ?_
    rintro e w1 ⟨rfl, rfl⟩
    clear FEW
    go_wp2_with fail
    with_reducible refine (aw07 _ (TB.out.same (Kept.refl _ _))).mono ?_
    rintro e wz ⟨rfl, kz⟩
    have KZ := Lib.hid (Kept.trans (Kept.refl _ _) kz)
    clear kz
    go_wp2_with fail
    go_ret
    exact ⟨rfl, KZ.out⟩
  | true =>
    have hl := hr rfl
    have HA := Lib.hid hacts
    have hN : (40 : Int) + ((s : Int) % 61) = ((40 + s % 61 : Nat) : Int) := by omega
    obtain ⟨N, hNN⟩ : ∃ N, 40 + s % 61 = N := ⟨_, rfl⟩
    rw [hNN] at hN
    have gt : wrap64 (40 + (wrap64 (s : Int)).tmod 61) = (N : Int) := by
      rw [show wrap64 (s : Int) = (s : Int) from by unfold wrap64; omega, Int.tmod_eq_emod_of_nonneg (by omega), hN]
      unfold wrap64
      omega
    have N1 : 40 ≤ N ∧ N ≤ 100 := by omega
    have NB := Lib.hid N1
    obtain ⟨S0, e0, gi0, sz0, -⟩ := fmt_gi N1.1 N1.2
    have GI0 := Lib.hid gi0
    obtain ⟨size, hsize⟩ : ∃ size, S0.nsize = size := ⟨_, rfl⟩
    have HSZ := Lib.hid hsize
    obtain ⟨q, hq⟩ : ∃ q, fmtS (newD (N : Nat)) 4 = q := ⟨_, rfl⟩
    have E0 := Lib.hid e0
    rw [hq] at E0
    have HQ := Lib.hid hq
    clear hr hacts e0 gi0 sz0 hsize hq N1 hs hN hNN
    go_enter Tryz.func4, Tryz.ntmps4
    go_wp2_with fail
    with_reducible refine FEW.out.mono ?_
    rintro e w1 ⟨rfl, rfl⟩
    clear FEW
    go_wp2_with fail
    with_reducible refine (sd_new (N : Nat) w1).mono ?_
    rintro e w2 ⟨d, bs, cap0, m, rfl, h1, hd, hbs, hm, k2⟩
    have H1 := Lib.hid h1
    have K2 := Lib.hid k2
    have DB := Lib.hid (show ∀ g, dod d bs m g → w1.heap.size ≤ g from fun g hg => by rcases hg with q | q | q <;> omega)
    have FM := Lib.hid (st_Format H1.out 4)
    rw [HQ.out] at FM
    obtain ⟨q1, q2⟩ := q
    obtain rfl : q2 = (some S0, 0) := E0.out
    unfold FmtPost at FM
    dsimp only at FM
    clear h1 k2 E0 HQ gt
    go_wp2_with fail
    with_reducible refine FM.out.mono ?_
    rintro e w3 ⟨⟨p, rfl, s3, hp⟩, k3⟩
    have S3 := Lib.hid s3
    have hp1 : w1.heap.size ≤ p := Nat.le_trans K2.out.size hp
    have PN := Lib.hid (show ∀ g, FS p d bs m g → w1.heap.size ≤ g from fun g hg => hg.elim (fun q => by omega) (DB.out g))
    have K3 := Lib.hid (K2.out.newer k3 DB.out)
    clear s3 k3 FM H1 K2 hp
    go_wp2_with fail
    go_loopw [8] (fun t wr => ∃ (i : Nat) (S : Sto), t = .int .i64 i ∧ i ≤ len ∧ GivA w1 wr p d bs m S (1 + i) N size) (fun t _ => len - (intOf t).toNat)
    case atStart => exact ⟨0, S0, rfl, by omega, ⟨S3.out, GI0.out, HSZ.out, K3.out⟩⟩
    case round =>
      obtain ⟨i, S, rfl, hi, hga⟩ := hrel
      have GA := Lib.hid hga
      clear hga
      by_cases hgo : i < len
      · have g1 : (i : Int) < (len : Int) := by omega
        have g0 : (0 : Int) ≤ (i : Int) := by omega
        obtain ⟨b, off, rfl, hb, hall⟩ := HA.out.resolve_left (by omega)
        obtain ⟨k, n, ba, bl, bc, bs', hact⟩ := hall i hgo
        have hA := hact.same GA.out.k hb
        obtain ⟨c0, c1, c2, kb, nb, -⟩ := hA
        obtain ⟨kk, hkk⟩ : ∃ kk, k % 10 = kk := ⟨_, rfl⟩
        have e8 : (k : Int) % 10 = (kk : Int) := by omega
        have hkl : kk < 10 := by omega
        clear hact hall hb c2 hkk
        have hcase : (kk = 0 ∨ kk = 1 ∨ kk = 2) ∨ kk = 5 ∨ kk = 6 ∨ (kk = 3 ∨ kk = 4 ∨ kk = 7 ∨ kk = 8 ∨ kk = 9) := by omega
        clear hkl
        rcases hcase with h | h | h | h
        · rcases h with rfl | rfl | rfl
          · have AL := Lib.hid (st_Alloc GA.out.st GA.out.gi.fit (TB.out.same GA.out.k))
            unfold StPost at AL
            generalize S.alloc.2.1 = q1 at AL
            generalize S.alloc.2.2 = q2 at AL
            go_wp2_with fail
            with_reducible refine AL.out.mono ?_
            rintro e w3 ⟨rfl, s3, k3⟩
            have S3 := Lib.hid s3
            have K3 := Lib.hid (GA.out.k.newer k3 (fun g hg => PN.out g (.inl hg)))
            clear s3 k3 AL
            go_wp2_with fail
            go_roundw
            case rel => exact ⟨i + 1, S.alloc.1, by go_num, by omega, ⟨S3.out, GA.out.gi.alloc.more (by omega), by rw [← GA.out.sz]; exact alloc_size S, K3.out⟩⟩
            case measure => simp [intOf]; omega
          · have AL := Lib.hid (st_Alloc GA.out.st GA.out.gi.fit (TB.out.same GA.out.k))
            unfold StPost at AL
            generalize S.alloc.2.1 = q1 at AL
            generalize S.alloc.2.2 = q2 at AL
            go_wp2_with fail
            with_reducible refine AL.out.mono ?_
            rintro e w3 ⟨rfl, s3, k3⟩
            have S3 := Lib.hid s3
            have K3 := Lib.hid (GA.out.k.newer k3 (fun g hg => PN.out g (.inl hg)))
            clear s3 k3 AL
            go_wp2_with fail
            go_roundw
            case rel => exact ⟨i + 1, S.alloc.1, by go_num, by omega, ⟨S3.out, GA.out.gi.alloc.more (by omega), by rw [← GA.out.sz]; exact alloc_size S, K3.out⟩⟩
            case measure => simp [intOf]; omega
          · have AL := Lib.hid (st_Alloc GA.out.st GA.out.gi.fit (TB.out.same GA.out.k))
            unfold StPost at AL
            generalize S.alloc.2.1 = q1 at AL
            generalize S.alloc.2.2 = q2 at AL
            go_wp2_with fail
            with_reducible refine AL.out.mono ?_
            rintro e w3 ⟨rfl, s3, k3⟩
            have S3 := Lib.hid s3
            have K3 := Lib.hid (GA.out.k.newer k3 (fun g hg => PN.out g (.inl hg)))
            clear s3 k3 AL
            go_wp2_with fail
            go_roundw
            case rel => exact ⟨i + 1, S.alloc.1, by go_num, by omega, ⟨S3.out, GA.out.gi.alloc.more (by omega), by rw [← GA.out.sz]; exact alloc_size S, K3.out⟩⟩
            case measure => simp [intOf]; omega
        · subst h
          have FR := Lib.hid (st_Free GA.out.st n)
          go_wp2_with fail
          with_reducible refine FR.out.mono ?_
          rintro e w4 ⟨rfl, s4, k4⟩
          have S4 := Lib.hid s4
          have K4 := Lib.hid (GA.out.k.newer k4 (fun g hg => PN.out g (.inl hg)))
          clear s4 k4 FR
          go_wp2_with fail
          go_roundw
          case rel => exact ⟨i + 1, (S.free n).1, by go_num, by omega, ⟨S4.out, (GA.out.gi.free n).more (by omega), by rw [← GA.out.sz]; exact free_size S n, K4.out⟩⟩
          case measure => simp [intOf]; omega
        · subst h
          have CM := Lib.hid (st_Commit GA.out.st GA.out.gi.fit none 0 0 [] rfl bts_nil (Nat.le_refl _) (fun _ => rfl) (.inl rfl) apt_none)
          have CG := Lib.hid (GA.out.gi.commit (by omega) (b := []) (by decide) bts_nil)
          rw [CG.out.1] at CM
          unfold StPost at CM
          go_wp2_with fail
          with_reducible refine CM.out.mono ?_
          rintro e w4 ⟨rfl, s4, k4⟩
          have S4 := Lib.hid s4
          have K4 := Lib.hid (GA.out.k.newer k4 PN.out)
          clear s4 k4 CM
          go_wp2_with fail
          go_roundw
          case rel => exact ⟨i + 1, (S.commit []).1, by go_num, by omega, ⟨S4.out, CG.out.2.1.more (by omega), by rw [← GA.out.sz]; exact CG.out.2.2.2.2, K4.out⟩⟩
          case measure => simp [intOf]; omega
        · rcases h with rfl | rfl | rfl | rfl | rfl
          · go_wp2_with fail
            go_roundw
            case rel => exact ⟨i + 1, S, by go_num, by omega, ⟨GA.out.st, GA.out.gi.more (by omega), GA.out.sz, GA.out.k⟩⟩
            case measure => simp [intOf]; omega
          · go_wp2_with fail
            go_roundw
            case rel => exact ⟨i + 1, S, by go_num, by omega, ⟨GA.out.st, GA.out.gi.more (by omega), GA.out.sz, GA.out.k⟩⟩
            case measure => simp [intOf]; omega
          · go_wp2_with fail
            go_roundw
            case rel => exact ⟨i + 1, S, by go_num, by omega, ⟨GA.out.st, GA.out.gi.more (by omega), GA.out.sz, GA.out.k⟩⟩
            case measure => simp [intOf]; omega
          · go_wp2_with fail
            go_roundw
            case rel => exact ⟨i + 1, S, by go_num, by omega, ⟨GA.out.st, GA.out.gi.more (by omega), GA.out.sz, GA.out.k⟩⟩
            case measure => simp [intOf]; omega
          · go_wp2_with fail
            go_roundw
            case rel => exact ⟨i + 1, S, by go_num, by omega, ⟨GA.out.st, GA.out.gi.more (by omega), GA.out.sz, GA.out.k⟩⟩
            case measure => simp [intOf]; omega
      · have hin : i = len := by omega
        subst hin
        clear hi hgo HA
        have US := Lib.hid (st_Used GA.out.st GA.out.gi.fit)
        unfold UsedPost mapV at US
        go_wp2_with fail
        with_reducible refine US.out.mono ?_
        rintro e w4 ⟨g4, c4, rfl, o4, k4⟩
        have O4 := Lib.hid o4
        have K4 := Lib.hid (GA.out.k.trans k4)
        have S4 := Lib.hid (GA.out.st.same k4)
        clear o4 k4 US
        go_upto_region 20 with fail
        obtain ⟨y, hy⟩ : ∃ y, w4.heap.size = y := ⟨_, rfl⟩
        rw [hy]
        refine cutWl (fun wn => Fr wn [(y, #[.int .i64 (S.nsize : Nat), .slice (some ⟨g4, 0, none⟩) S.nwords.length c4], 51)] ∧ Same w4 wn) ⟨⟨Blk.new' _ _ _ hy.symm, trivial⟩, (Kept.refl _ _).alloc _⟩ ?_
        rintro w5 ⟨hf5, k5⟩
        have F5 := Lib.hid hf5
        have K5 := Lib.hid (K4.out.trans k5)
        have S5 := Lib.hid (S4.out.same k5)
        have N5 := Lib.hid (O4.out.natsA.same k5)
        have FY := Lib.hid (show ¬ FS p d bs m y ∧ ¬ FS p d bs m g4 from by
          refine ⟨fun q => ?_, fun q => ?_⟩
          · have := S4.out.ltF _ q; omega
          · have h1 := GA.out.st.ltF _ q
            have h2 := (World.ownsRow.lt O4.out g4 rfl).1
            omega)
        have HL := Lib.hid (show S.nwords.length ≤ c4 ∧ S.nwords.length ≤ 64 from ⟨O4.out.len.2.1, by have := mapOK_len GA.out.gi.fit.now; have := mapOK_pos GA.out.gi.fit.now; omega⟩)
        have CW := Lib.hid GA.out.gi.fit.nw
        have COK := Lib.hid GA.out.gi.fit.now
        have CM := Lib.hid (GA.out.gi.commit (b := [120]) (by omega) (by decide) (bts_lit (by decide)))
        have SZ := Lib.hid GA.out.sz
        have GF := Lib.hid GA.out.gi.fit
        clear hf5 k5 O4 K4 S4 hy GA
        obtain ⟨C, hC⟩ : ∃ C, S.nwords = C := ⟨_, rfl⟩
        have HC := Lib.hid hC
        rw [hC] at F5 N5 HL CW COK CM
        rw [SZ.out] at F5 COK CM
        obtain ⟨cl, hcl⟩ : ∃ cl, C.length = cl := ⟨_, rfl⟩
        have HCL := Lib.hid hcl
        rw [hcl] at F5
        have L20 := Lib.hid (L2.start CM.out.2.1 CM.out.2.2.1 CM.out.2.2.2.1 CM.out.2.2.2.2)
        have c1 := konst_run w5 #[.int .u8 120] 1 1
        have N1 := Lib.hid (konst_at w5 [120] #[.int .u8 120] rfl (1, 1 + 1))
        clear hC hcl
        go_wp2_with fail
        have k6 : Same w5 (w5.alloc (.cells #[.int .u8 120] 5 (1, 2))) := (Kept.refl _ _).alloc _
        have CO := Lib.hid (st_Commit (S5.out.same k6) GF.out (some ⟨w5.heap.size, 0, none⟩) 1 1 [120] rfl (bts_lit (by decide)) (by decide) (fun q => by cases q) N1.out (fun x hx q => by cases hx; have := S5.out.ltF _ q; dsimp only at this; omega))
        rw [CM.out.1] at CO
        unfold StPost at CO
        obtain ⟨S1, hS1⟩ : ∃ S1, (S.commit [120]).1 = S1 := ⟨_, rfl⟩
        rw [hS1] at CO L20
        obtain ⟨r0, hr0⟩ : ∃ r0, S1.r = r0 := ⟨_, rfl⟩
        rw [hr0] at L20
        have K6 := Lib.hid k6
        clear c1 N1 k6 hS1 hr0
        with_reducible refine CO.out.mono ?_
        rintro e w7 ⟨rfl, s7, k7⟩
        have S7 := Lib.hid s7
        have P7 := Lib.hid (show Kept (FS p d bs m) w5 w7 from (K6.out.mono (fun _ _ q => q.elim)).trans k7)
        clear s7 k7 CO K6
        -- what the variable counts has
        have CN := Lib.hid (fun W (k : Kept (FS p d bs m) w5 W) => show (∀ i, W.cell? ⟨y, i, none⟩ = (#[.int .i64 (size : Nat), .slice (some ⟨g4, 0, none⟩) cl c4] : Array Value)[i]?) ∧ NatsAt W .u64 (some ⟨g4, 0, none⟩) C from ⟨cell_blk (F5.out.1.kept k FY.out.1), N5.out.kept k (fun x hx q => by cases hx; exact FY.out.2 q)⟩)
        have RK := Lib.hid (fun W (k : Kept (FS p d bs m) w5 W) => bm_rank (size : Nat) (some ⟨g4, 0, none⟩) c4 C (size : Nat) W CW.out HL.out.1 (CN.out W k).2)
        have HS := Lib.hid (fun (n : Nat) W (k : Kept (FS p d bs m) w5 W) => bm_has (size : Nat) (some ⟨g4, 0, none⟩) c4 C (n : Nat) W CW.out (CN.out W k).2)
        rw [rankN_eq COK.out, HCL.out] at RK
        rw [HCL.out] at HS
        unfold mapV at RK HS
        obtain ⟨U, hU⟩ : ∃ U, cnt C size = U := ⟨_, rfl⟩
        rw [hU] at RK L20
        have HU := Lib.hid hU
        have UL := Lib.hid (show U ≤ size from by rw [← hU]; exact cnt_le _ _)
        have s9 : size ≤ 512 := by have := CM.out.2.1.few; rw [CM.out.2.2.2.2] at this; exact this
        have pc := (CN.out w7 P7.out).1
        have RM := Lib.hid (st_Room S7.out L20.out.1.fit)
        rw [L20.out.2] at RM
        have ul := UL.out
        have gr : ((size - U : Nat) : Int) = (size : Int) - (U : Int) := by omega
        rw [gr] at RM
        clear hU gr CM
        go_wp2_with fail
        with_reducible refine (RK.out w7 P7.out).mono ?_
        rintro e w8 ⟨rfl, k8⟩
        have S8 := Lib.hid (S7.out.same k8)
        have P8 := Lib.hid (P7.out.trans (k8.mono (fun _ _ q => q.elim)))
        have RM8 := Lib.hid (st_Room S8.out L20.out.1.fit)
        rw [L20.out.2, show ((size - U : Nat) : Int) = (size : Int) - (U : Int) from by omega] at RM8
        clear k8 S7 P7 RM pc
        go_wp2_with fail
        with_reducible refine RM8.out.mono ?_
        rintro e w9 ⟨rfl, k9⟩
        have S9 := Lib.hid (S8.out.same k9)
        have P9 := Lib.hid (P8.out.trans (k9.mono (fun _ _ q => q.elim)))
        clear k9 S8 P8 RM8
        go_wp2_with fail
        generalize wr = wq at *
        go_loopw [12] (fun t wr => ∃ (j : Nat) (S2 : Sto), t = .int .i64 j ∧ j ≤ size ∧ L2 S2 r0 C size j ∧ StoIn wr p d bs m S2 ∧ Kept (FS p d bs m) w5 wr) (fun t _ => size - (intOf t).toNat)
        case atStart => exact ⟨U, S1, rfl, UL.out, L20.out.1, S9.out, P9.out⟩
        case round =>
          obtain ⟨j, S2, rfl, hj, hl2, hst, hk⟩ := hrel
          have LL := Lib.hid hl2; have ST := Lib.hid hst; have PP := Lib.hid hk
          have KK := Lib.hid (K5.out.newer hk PN.out)
          clear hl2 hst hk
          have AL := Lib.hid (st_Alloc ST.out LL.out.fit (TB.out.same KK.out))
          unfold StPost at AL
          by_cases hgo : j < size
          · have g1 : (j : Int) < (size : Int) := by omega
            obtain ⟨n, e1, e2, hn, hb, hl3⟩ := LL.out.step hgo
            rw [e1, e2] at AL
            have L3' := Lib.hid hl3
            have HS2 := Lib.hid (HS.out n)
            rw [hasM_in COK.out hn, hb] at HS2
            clear e1 e2 hn hb hl3
            go_wp2_with fail
            with_reducible refine AL.out.mono ?_
            rintro e wa ⟨rfl, sa, ka⟩
            have SA := Lib.hid sa
            have PA := Lib.hid (PP.out.trans (ka.mono (fun g _ hg => .inl hg)))
            have pc := (CN.out wa PA.out).1
            clear sa ka AL
            go_wp2_with fail
            with_reducible refine (HS2.out wa PA.out).mono ?_
            rintro e wb ⟨rfl, kb⟩
            have SB := Lib.hid (SA.out.same kb)
            have PB := Lib.hid (PA.out.trans (kb.mono (fun _ _ q => q.elim)))
            clear kb SA PA pc HS2
            go_wp2_with fail
            go_roundw
            case rel => exact ⟨j + 1, S2.alloc.1, by go_num, by omega, L3'.out, SB.out, PB.out⟩
            case measure => simp [intOf]; omega
          · have hjs : j = size := by omega
            subst hjs
            obtain ⟨f1, f2, f3, f4⟩ := LL.out.full
            rw [f1] at AL
            have L30 := Lib.hid f4
            have FT := Lib.hid LL.out.fit
            have SZ2 := Lib.hid LL.out.sz
            clear f1 f4 hj hgo LL
            have g1 : ¬ (j : Int) < (j : Int) := by omega
            go_wp2_with fail
            with_reducible refine AL.out.mono ?_
            rintro e wa ⟨rfl, sa, ka⟩
            have SA := Lib.hid sa
            have PA := Lib.hid (PP.out.trans (ka.mono (fun g _ hg => .inl hg)))
            have RM := Lib.hid (st_Room SA.out FT.out)
            rw [f2] at RM
            clear sa ka AL f2 ST PP KK
            go_wp2_with fail
            with_reducible refine RM.out.mono ?_
            rintro e wb ⟨rfl, kb⟩
            have SB := Lib.hid (SA.out.same kb)
            have PB := Lib.hid (PA.out.trans (kb.mono (fun _ _ q => q.elim)))
            have US := Lib.hid (st_Used SB.out FT.out)
            rw [SZ2.out] at US
            unfold UsedPost at US
            clear kb RM SA PA
            simp only [Int.natCast_zero]
            go_wp2_with fail
            with_reducible refine US.out.mono ?_
            rintro e wc ⟨gu, cu, rfl, ou, kc⟩
            have RK2 := Lib.hid (bm_rank (j : Nat) (some ⟨gu, 0, none⟩) cu S2.nwords (j : Nat) wc FT.out.nw ou.len.2.1 ou.natsA)
            rw [f3] at RK2
            have SC := Lib.hid (SB.out.same kc)
            have PC := Lib.hid (PB.out.trans (kc.mono (fun _ _ q => q.elim)))
            unfold mapV at RK2
            clear kc US SB PB ou f3
            go_wp2_with fail
            with_reducible refine RK2.out.mono ?_
            rintro e wd ⟨rfl, kd⟩
            have SD := Lib.hid (SC.out.same kd)
            have PD := Lib.hid (PC.out.trans (kd.mono (fun _ _ q => q.elim)))
            clear kd RK2 SC PC FT SZ2
            go_wp2_with fail
            generalize wr = wp at *
            go_loopw [17] (fun t wr => ∃ (n : Nat) (S2 : Sto), t = .int .i64 n ∧ n ≤ j ∧ L3 S2 r0 C j n ∧ StoIn wr p d bs m S2 ∧ Kept (FS p d bs m) w5 wr) (fun t _ => j - (intOf t).toNat)
            case atStart => exact ⟨0, S2, rfl, by omega, L30.out, SD.out, PD.out⟩
            case round =>
              obtain ⟨n, S3, rfl, hn, hl3, hst, hk⟩ := hrel
              have LL := Lib.hid hl3; have ST := Lib.hid hst; have PP := Lib.hid hk
              clear hl3 hst hk
              have pc := (CN.out wr PP.out).1
              by_cases hgo : n < j
              · have g2 : (n : Int) < (j : Int) := by omega
                have HS2 := Lib.hid (HS.out n wr PP.out)
                rw [hasM_in COK.out hgo] at HS2
                obtain ⟨bb, hbb⟩ : ∃ bb, bitN C n = bb := ⟨_, rfl⟩
                rw [hbb] at HS2
                cases bb with
                | false =>
                  have LN := Lib.hid (LL.out.skip hbb)
                  clear hbb
                  go_wp2_with fail
                  with_reducible refine HS2.out.mono ?_
                  rintro e wa ⟨rfl, ka⟩
                  have SA := Lib.hid (ST.out.same ka)
                  have PA := Lib.hid (PP.out.trans (ka.mono (fun _ _ q => q.elim)))
                  clear ka HS2 pc
                  go_wp2_with fail
                  go_roundw
                  case rel => exact ⟨n + 1, S3, by go_num, by omega, LN.out, SA.out, PA.out⟩
                  case measure => simp [intOf]; omega
                | true =>
                  obtain ⟨h1, h2⟩ := LL.out.free hgo hbb
                  have LN := Lib.hid h2
                  have FR := Lib.hid (fun w' (k : Same wr w') => st_Free (ST.out.same k) (n : Nat))
                  rw [h1] at FR
                  clear hbb h1 h2
                  go_wp2_with fail
                  with_reducible refine HS2.out.mono ?_
                  rintro e wa ⟨rfl, ka⟩
                  have FA := Lib.hid (FR.out wa ka)
                  have PA := Lib.hid (PP.out.trans (ka.mono (fun _ _ q => q.elim)))
                  clear ka HS2 pc FR
                  go_wp2_with fail
                  with_reducible refine FA.out.mono ?_
                  rintro e wb ⟨rfl, sb, kb⟩
                  have SB := Lib.hid sb
                  have PB := Lib.hid (PA.out.trans (kb.mono (fun g _ hg => .inl hg)))
                  have RM := Lib.hid (st_Room SB.out LN.out.fit)
                  rw [LN.out.room] at RM
                  clear sb kb FA PA
                  simp only [Int.natCast_zero]
                  go_wp2_with fail
                  with_reducible refine RM.out.mono ?_
                  rintro e wc ⟨rfl, kc⟩
                  have SC := Lib.hid (SB.out.same kc)
                  have PC := Lib.hid (PB.out.trans (kc.mono (fun _ _ q => q.elim)))
                  clear kc RM SB PB
                  go_wp2_with fail
                  go_roundw
                  case rel => exact ⟨n + 1, (S3.free (n : Nat)).1, by go_num, by omega, LN.out, SC.out, PC.out⟩
                  case measure => simp [intOf]; omega
              · have hnj : n = j := by omega
                subst hnj
                obtain ⟨h1, h2, h3, h4, h5⟩ := LL.out.forget
                have FG := Lib.hid (fun w' (k : Same wr w') => st_Forget (ST.out.same k))
                rw [h1] at FG
                have HW := Lib.hid (And.intro h2 h3)
                have FT := Lib.hid h4
                have HRO := Lib.hid h5
                have g2 : ¬ (n : Int) < (n : Int) := by omega
                have gw : IntKind.i64.wrap ((n : Int) - (U : Int)) = (n : Int) - (U : Int) := by rw [IntKind.wrap_i64]; omega
                have QX := Lib.hid (fun (w' : World) (h : ∀ i, w'.cell? ⟨y, i, none⟩ = (#[.int .i64 (n : Nat), .slice (some ⟨g4, 0, none⟩) cl c4] : Array Value)[i]?) => h)
                clear h1 h2 h3 h4 h5 hn hgo
                go_wp2_with fail
                refine wp_region_T (S := fun (w' : World) => ∀ i, w'.cell? ⟨y, i, none⟩ = (#[.int .i64 (n : Nat), .slice (some ⟨g4, 0, none⟩) cl c4] : Array Value)[i]?) 20 (by kernel_rfl) pc (fun hHeld hDn => ?_)
                refine wpT_take (i := 0) (t := 144) (v := ?_) rfl rfl rfl (by kernel_rfl) (by kernel_rfl) (by kernel_rfl) (by kernel_rfl) (fun _ _ _ h => h) (Or.inl ⟨by rfl, ?_⟩) hHeld hDn (fun hDn' => ?_)
                rotate_left
                · (intro w hSw; have s1 := QX.out w hSw; go_simp; (try with_reducible rfl))
                clear hDn; have hDn := hDn'; clear hDn'
                simp only [Act.put, List.setIfInBounds_toArray, List.set_cons_zero, List.set_cons_succ]
                refine wpT_one (i := 1) rfl (by kernel_rfl) hDn (fun K' hK => ?_)
                go_simp
                simp only [Int.natCast_zero] at FG
                with_reducible refine (FG.out _ (Kept.refl _ _).drew).mono ?_
                rintro e wa ⟨rfl, sa, ka⟩
                have SA := Lib.hid sa
                have PA := Lib.hid (show Kept (FS p d bs m) w5 wa from PP.out.trans ((((Kept.refl _ _).drew).trans ka).mono (fun g _ hg => .inl hg)))
                refine hK.out _ _ (CN.out wa PA.out).1 (fun hHeld2 hDn2 => ?_)
                clear hK K' hHeld hDn
                have hHeld := hHeld2; have hDn := hDn2
                clear hHeld2 hDn2
                clear sa ka FG ST PP
                refine wpT_take (i := 2) (t := 146) (v := ?_) rfl rfl rfl (by kernel_rfl) (by kernel_rfl) (by kernel_rfl) (by kernel_rfl) (fun _ _ _ h => h) (Or.inl ⟨by rfl, ?_⟩) hHeld hDn (fun hDn' => ?_)
                rotate_left
                · (intro w hSw; have s1 := QX.out w hSw; go_simp; (try with_reducible rfl))
                clear hDn; have hDn := hDn'; clear hDn'
                simp only [Act.put, List.setIfInBounds_toArray, List.set_cons_zero, List.set_cons_succ]
                refine wpT_take (i := 3) (t := 147) (v := ?_) rfl rfl rfl (by kernel_rfl) (by kernel_rfl) (by kernel_rfl) (by kernel_rfl) (fun _ _ _ h => h) (Or.inl ⟨by rfl, ?_⟩) hHeld hDn (fun hDn' => ?_)
                rotate_left
                · (intro w hSw; have s1 := QX.out w hSw; go_simp; (try with_reducible rfl))
                clear hDn; have hDn := hDn'; clear hDn'
                simp only [Act.put, List.setIfInBounds_toArray, List.set_cons_zero, List.set_cons_succ]
                refine wpT_take (i := 4) (t := 148) (v := ?_) rfl rfl rfl (by kernel_rfl) (by kernel_rfl) (by kernel_rfl) (by kernel_rfl) (fun _ _ _ h => h) (Or.inl ⟨by rfl, ?_⟩) hHeld hDn (fun hDn' => ?_)
                rotate_left
                · (intro w hSw; have s1 := QX.out w hSw; go_simp; (try with_reducible rfl))
                clear hDn; have hDn := hDn'; clear hDn'
                simp only [Act.put, List.setIfInBounds_toArray, List.set_cons_zero, List.set_cons_succ]
                refine wpT_take (i := 6) (t := 150) (v := ?_) rfl rfl rfl (by kernel_rfl) (by kernel_rfl) (by kernel_rfl) (by kernel_rfl) (fun _ _ _ h => h) (Or.inl ⟨by rfl, ?_⟩) hHeld hDn (fun hDn' => ?_)
                rotate_left
                · (intro w hSw; have s1 := QX.out w hSw; go_simp; (try with_reducible rfl))
                clear hDn; have hDn := hDn'; clear hDn'
                simp only [Act.put, List.setIfInBounds_toArray, List.set_cons_zero, List.set_cons_succ]
                have US := Lib.hid (fun w' (k : Same wa w') => st_Used (SA.out.same k) FT.out)
                rw [HW.out.1, HW.out.2] at US
                unfold UsedPost mapV at US
                rw [HCL.out] at US
                refine wpT_one (i := 5) rfl (by kernel_rfl) hDn (fun K' hK => ?_)
                go_simp
                with_reducible refine (US.out _ (Kept.refl _ _)).mono ?_
                rintro e wb ⟨gu, cu, rfl, ou, kb⟩
                have SB := Lib.hid (SA.out.same kb)
                have PB := Lib.hid (PA.out.trans (kb.mono (fun _ _ q => q.elim)))
                have SM := Lib.hid (fun w' (k : Same wb w') => bm_same (n : Nat) (n : Nat) (some ⟨gu, 0, none⟩) (some ⟨g4, 0, none⟩) cu c4 C C w' (by have := HL.out.2; omega) (ou.natsA.same k) (((CN.out wb PB.out).2).same k))
                rw [HCL.out, show sameB (n : Nat) (n : Nat) C C = true from by unfold sameB; simp] at SM
                unfold mapV at SM
                refine hK.out _ _ (CN.out wb PB.out).1 (fun hHeld2 hDn2 => ?_)
                clear hK K' hHeld hDn
                have hHeld := hHeld2; have hDn := hDn2
                clear hHeld2 hDn2
                clear kb US SA PA ou
                refine wpT_one (i := 7) rfl (by kernel_rfl) hDn (fun K' hK => ?_)
                go_simp
                with_reducible refine (SM.out _ (Kept.refl _ _)).mono ?_
                rintro e wc ⟨rfl, kc⟩
                have SC := Lib.hid (SB.out.same kc)
                have PC := Lib.hid (PB.out.trans (kc.mono (fun _ _ q => q.elim)))
                refine hK.out _ _ (CN.out wc PC.out).1 (fun hHeld2 hDn2 => ?_)
                clear hK K' hHeld hDn
                have hHeld := hHeld2; have hDn := hDn2
                clear hHeld2 hDn2
                clear kc SM SB PB
                refine wpT_take (i := 8) (t := 152) (v := ?_) rfl rfl rfl (by kernel_rfl) (by kernel_rfl) (by kernel_rfl) (by kernel_rfl) (fun _ _ _ h => h) (Or.inl ⟨by rfl, ?_⟩) hHeld hDn (fun hDn' => ?_)
                rotate_left
                · (intro w hSw; have s1 := QX.out w hSw; go_simp; (try with_reducible rfl))
                clear hDn; have hDn := hDn'; clear hDn'
                simp only [Act.put, List.setIfInBounds_toArray, List.set_cons_zero, List.set_cons_succ]
                refine wpT_take (i := 9) (t := 153) (v := ?_) rfl rfl rfl (by kernel_rfl) (by kernel_rfl) (by kernel_rfl) (by kernel_rfl) (fun _ _ _ h => h) (Or.inl ⟨by rfl, ?_⟩) hHeld hDn (fun hDn' => ?_)
                rotate_left
                · (intro w hSw; have s1 := QX.out w hSw; go_simp; (try with_reducible rfl))
                clear hDn; have hDn := hDn'; clear hDn'
                simp only [Act.put, List.setIfInBounds_toArray, List.set_cons_zero, List.set_cons_succ]
                refine wpT_take (i := 10) (t := 154) (v := ?_) rfl rfl rfl (by kernel_rfl) (by kernel_rfl) (by kernel_rfl) (by kernel_rfl) (fun _ _ _ h => h) (Or.inl ⟨by rfl, ?_⟩) hHeld hDn (fun hDn' => ?_)
                rotate_left
                · (intro w hSw; have s1 := QX.out w hSw; go_simp; (try with_reducible rfl))
                clear hDn; have hDn := hDn'; clear hDn'
                simp only [Act.put, List.setIfInBounds_toArray, List.set_cons_zero, List.set_cons_succ]
                refine wpT_take (i := 12) (t := 156) (v := ?_) rfl rfl rfl (by kernel_rfl) (by kernel_rfl) (by kernel_rfl) (by kernel_rfl) (fun _ _ _ h => h) (Or.inl ⟨by rfl, ?_⟩) hHeld hDn (fun hDn' => ?_)
                rotate_left
                · (intro w hSw; have s1 := QX.out w hSw; go_simp; (try with_reducible rfl))
                clear hDn; have hDn := hDn'; clear hDn'
                simp only [Act.put, List.setIfInBounds_toArray, List.set_cons_zero, List.set_cons_succ]
                refine wpT_take (i := 13) (t := 157) (v := ?_) rfl rfl rfl (by kernel_rfl) (by kernel_rfl) (by kernel_rfl) (by kernel_rfl) (fun _ _ _ h => h) (Or.inl ⟨by rfl, ?_⟩) hHeld hDn (fun hDn' => ?_)
                rotate_left
                · (intro w hSw; have s1 := QX.out w hSw; go_simp; (try with_reducible rfl))
                clear hDn; have hDn := hDn'; clear hDn'
                simp only [Act.put, List.setIfInBounds_toArray, List.set_cons_zero, List.set_cons_succ]
                refine wpT_take (i := 14) (t := 158) (v := ?_) rfl rfl rfl (by kernel_rfl) (by kernel_rfl) (by kernel_rfl) (by kernel_rfl) (fun _ _ _ h => h) (Or.inl ⟨by rfl, ?_⟩) hHeld hDn (fun hDn' => ?_)
                rotate_left
                · (intro w hSw; have s1 := QX.out w hSw; go_simp; (try with_reducible rfl))
                clear hDn; have hDn := hDn'; clear hDn'
                simp only [Act.put, List.setIfInBounds_toArray, List.set_cons_zero, List.set_cons_succ]
                have RM := Lib.hid (st_Room SC.out FT.out)
                rw [HRO.out, HU.out, show ((n - U : Nat) : Int) = (n : Int) - (U : Int) from by omega] at RM
                refine wpT_one (i := 11) rfl (by kernel_rfl) hDn (fun K' hK => ?_)
                go_simp
                with_reducible refine RM.out.mono ?_
                rintro e wd ⟨rfl, kd⟩
                have PD := Lib.hid (PC.out.trans (kd.mono (fun _ _ q => q.elim)))
                refine hK.out _ _ (CN.out wd PD.out).1 (fun hHeld2 hDn2 => ?_)
                clear hK K' hHeld hDn
                have hHeld := hHeld2; have hDn := hDn2
                clear hHeld2 hDn2
                clear kd RM SC PC
                refine wpT_take (i := 15) (t := 159) (v := ?_) rfl rfl rfl (by kernel_rfl) (by kernel_rfl) (by kernel_rfl) (by kernel_rfl) (fun _ _ _ h => h) (Or.inl ⟨by rfl, ?_⟩) hHeld hDn (fun hDn' => ?_)
                rotate_left
                · (intro w hSw; have s1 := QX.out w hSw; go_simp; (try with_reducible rfl))
                clear hDn; have hDn := hDn'; clear hDn'
                simp only [Act.put, List.setIfInBounds_toArray, List.set_cons_zero, List.set_cons_succ]
                refine wpT_take (i := 16) (t := 160) (v := ?_) rfl rfl rfl (by kernel_rfl) (by kernel_rfl) (by kernel_rfl) (by kernel_rfl) (fun _ _ _ h => h) (Or.inl ⟨by rfl, ?_⟩) hHeld hDn (fun hDn' => ?_)
                rotate_left
                · (intro w hSw; have s1 := QX.out w hSw; go_simp; (try with_reducible rfl))
                clear hDn; have hDn := hDn'; clear hDn'
                simp only [Act.put, List.setIfInBounds_toArray, List.set_cons_zero, List.set_cons_succ]
                refine wpT_take (i := 17) (t := 161) (v := ?_) rfl rfl rfl (by kernel_rfl) (by kernel_rfl) (by kernel_rfl) (by kernel_rfl) (fun _ _ _ h => h) (Or.inl ⟨by rfl, ?_⟩) hHeld hDn (fun hDn' => ?_)
                rotate_left
                · (intro w hSw; have s1 := QX.out w hSw; go_simp; (try with_reducible rfl))
                clear hDn; have hDn := hDn'; clear hDn'
                simp only [Act.put, List.setIfInBounds_toArray, List.set_cons_zero, List.set_cons_succ]
                have AW := Lib.hid (aw07 wd (TB.out.same (K5.out.newer PD.out PN.out)))
                refine wpT_one (i := 18) rfl (by kernel_rfl) hDn (fun K' hK => ?_)
                go_simp
                with_reducible refine AW.out.mono ?_
                rintro e we ⟨rfl, ke⟩
                have PE := Lib.hid (PD.out.trans (ke.mono (fun _ _ q => q.elim)))
                refine hK.out _ _ (CN.out we PE.out).1 (fun hHeld2 hDn2 => ?_)
                clear hK K' hHeld hDn
                have hHeld := hHeld2; have hDn := hDn2
                clear hHeld2 hDn2
                clear ke AW PD
                refine wpT_take (i := 19) (t := 163) (v := ?_) rfl rfl rfl (by kernel_rfl) (by kernel_rfl) (by kernel_rfl) (by kernel_rfl) (fun _ _ _ h => h) (Or.inl ⟨by rfl, ?_⟩) hHeld hDn (fun hDn' => ?_)
                rotate_left
                · (intro w hSw; have s1 := QX.out w hSw; go_simp; (try with_reducible rfl))
                clear hDn; have hDn := hDn'; clear hDn'
                simp only [Act.put, List.setIfInBounds_toArray, List.set_cons_zero, List.set_cons_succ]
                refine wpT_last rfl (by kernel_rfl) hDn (fun K hK => ?_)
                go_simp
                refine hK.out _ _ (fun hDn' => ?_)
                clear hK K hDn hHeld; have hDn := hDn'; clear hDn'
                refine wpT_done (by kernel_rfl) ?_ _
                clear hDn QX gw
                go_wp2_with fail
                go_ret
                exact ⟨rfl, K5.out.newer PE.out PN.out⟩
end Go.Proofs.YtmiglhlbhbfodaaGreatDoor
