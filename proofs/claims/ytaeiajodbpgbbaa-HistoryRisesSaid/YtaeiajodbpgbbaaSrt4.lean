/- slices.SortStableFunc at events, by their times; at 40 or fewer. -/
import Derived.Test.YtaeiajodbpgbbaaSrt3
import Derived.Test.YtaeiajodbpgbbaaHv1
import Derived.Test.YtaeiajodbpgbbaaShelf
namespace Go.Proofs.Ytaeiajodbpgbbaa
open Go.RowKit Go.Sort Go.Shelf Go.Lib

theorem ltOf_cfT : ltOf cfT = ltT := by
  funext a b
  have := cfT_lt a b
  unfold ltOf
  cases h : ltT a b
  · rw [h] at this; exact decide_eq_false (fun q => by simp [q] at this)
  · rw [h] at this; exact decide_eq_true (this.2 rfl)
set_option maxRecDepth 100000 in
theorem st_cmp (x y : HEv) (W : World) : Calls Try.prog 30 #[.agg (encH x).toArray, .agg (encH y).toArray] W fun e w' => e = .returned (.int .i64 (cfT x y)) ∧ ∃ q os', w' = grow (W.drewN q) os' := by
  obtain ⟨k1, x1, t1, y1, v1, b1⟩ := x
  obtain ⟨k2, x2, t2, y2, v2, b2⟩ := y
  by_cases h1 : t1 < t2
  · have e : cfT ⟨k1, x1, t1, y1, v1, b1⟩ ⟨k2, x2, t2, y2, v2, b2⟩ = -1 := by unfold cfT; rw [if_pos h1]
    rw [e]
    unfold encH
    go_enter Try.func30, Try.ntmps30
    go_wp2_with fail
    go_ret
    exact ⟨rfl, 0, _, by rw [alloc_eq_grow, alloc_eq_grow, grow_grow]; rfl⟩
  · by_cases h2 : t2 < t1
    · have e : cfT ⟨k1, x1, t1, y1, v1, b1⟩ ⟨k2, x2, t2, y2, v2, b2⟩ = 1 := by unfold cfT; rw [if_neg h1, if_pos h2]
      rw [e]
      unfold encH
      go_enter Try.func30, Try.ntmps30
      go_wp2_with fail
      go_ret
      exact ⟨rfl, 0, _, by rw [alloc_eq_grow, alloc_eq_grow, grow_grow]; rfl⟩
    · have e : cfT ⟨k1, x1, t1, y1, v1, b1⟩ ⟨k2, x2, t2, y2, v2, b2⟩ = 0 := by unfold cfT; rw [if_neg h1, if_neg h2]
      rw [e]
      unfold encH
      go_enter Try.func30, Try.ntmps30
      go_wp2_with fail
      go_ret
      exact ⟨rfl, 0, _, by rw [alloc_eq_grow, alloc_eq_grow, grow_grow]; rfl⟩
theorem st_lays (blk off size : Nat) (w : World) : CmpLays Try.prog 30 #[] encH k6 cfT blk off size w := fun _ _ _ _ x y => st_cmp x y _
theorem st_eg : ∀ args w, (callFunc 30 args).run Try.prog w = .ok (.enter 30 args) w := enters_of Try.func30 (by kernel_rfl) rfl
theorem sz6k (w : World) : (Go.sizeOf 42).run Try.prog w = .ok k6 w := sz6 w
theorem sr_ins {w0 W : World} {blk off cap N : Nat} {dk d0 : Array HEv} (R : RowK encH k6 w0 blk off d0) (hs0 : d0.size = N) (hs : dk.size = N) (hN : N ≤ 1000000) (h : SWK encH k6 w0 blk off dk W) (P M S : List HEv) (hd : dk.toList = P ++ (M ++ S)) (a b : Nat) (ha : P.length = a) (hb : a + M.length = b) :
    Calls Try.prog 55 #[.slice (some ⟨blk, off, none⟩) N cap, .int .i64 (a : Nat), .int .i64 (b : Nat), .func (.func 30) #[] #[]] W fun e w' =>
      e = .returned (.tuple #[]) ∧ ∃ dk', dk'.size = N ∧ dk'.toList = P ++ (stb ltT M ++ S) ∧ SWK encH k6 w0 blk off dk' w' := by
  subst ha hb
  have hlen : P.length + M.length + S.length = N := by have := congrArg List.length hd; simp at this; omega
  have hcon := AnyQ.insertionSortCmpFunc Try.insA k6 Try.isAgg42 sz6k encH R.hk R.h1 cfT 30 #[] blk off cap P.length (P.length + M.length) dk W st_eg (st_lays blk off dk.size W) (h.holds R.hblk R.hH (by rw [hs, hs0])) (h.lt R.hblk) (by omega) (by omega) (by omega)
  rw [hs] at hcon
  refine hcon.mono ?_
  rintro e w' ⟨rfl, n, os, rfl⟩
  have hl := insertion_list wkT P M S dk hd
  rw [← ltOf_cfT] at hl
  have hsz : (insertionSort (ltOf cfT) dk P.length (P.length + M.length)).size = N := by
    rw [← Array.length_toList, hl, List.length_append, List.length_append, len_stb]; omega
  exact ⟨rfl, _, hsz, by rw [hl, ltOf_cfT], h.on R.hblk _ _ _ (by rw [hsz, hs])⟩
theorem sr_sym {w0 : World} {blk off cap N : Nat} {d0 : Array HEv} (R : RowK encH k6 w0 blk off d0) (hs0 : d0.size = N) (hN : N ≤ 1000000) : ∀ (k : Nat) (W : World) (dk : Array HEv) (P A B S : List HEv), A.length + B.length ≤ k → A ≠ [] → B ≠ [] → Srt ltT A → Srt ltT B → dk.size = N → SWK encH k6 w0 blk off dk W → dk.toList = P ++ (A ++ (B ++ S)) → ∀ a m b : Nat, P.length = a → a + A.length = m → m + B.length = b →
      Calls Try.prog 56 #[.slice (some ⟨blk, off, none⟩) N cap, .int .i64 (a : Nat), .int .i64 (m : Nat), .int .i64 (b : Nat), .func (.func 30) #[] #[]] W fun e w' =>
        e = .returned (.tuple #[]) ∧ ∃ dk2, dk2.size = N ∧ dk2.toList = P ++ (mrg ltT A B ++ S) ∧ SWK encH k6 w0 blk off dk2 w' := by
  intro k
  induction k with
  | zero =>
    intro W dk P A B S hk hA
    exact absurd (List.eq_nil_of_length_eq_zero (by omega)) hA
  | succ k ih =>
    intro W dk P A B S hk hA hB sA sB hs h hd a m b ha hm hb
    have lA : 0 < A.length := List.length_pos_iff.2 hA
    have lB : 0 < B.length := List.length_pos_iff.2 hB
    by_cases h1 : A.length = 1
    · obtain ⟨x, rfl⟩ := List.length_eq_one_iff.1 h1
      exact sr_sym1 st_eg (st_lays blk off N w0) R hs0 hs hN h P B S x (by simpa using hd) sB a m b ha (by simpa using hm) hb
    · by_cases h2 : B.length = 1
      · obtain ⟨y, rfl⟩ := List.length_eq_one_iff.1 h2
        exact sr_sym2 st_eg (st_lays blk off N w0) R hs0 hs hN h P A S y (by simpa using hd) sA (by omega) a m b ha hm (by simpa using hb)
      · exact sr_symG st_eg (st_lays blk off N w0) R hs0 hN hs h P A B S hd sA sB (by omega) (by omega) a m b ha hm hb (fun W' dk' P' A' B' S' hl hA' hB' sA' sB' hs' h' hd' a' m' b' ha' hm' hb' => ih W' dk' P' A' B' S' (by omega) hA' hB' sA' sB' hs' h' hd' a' m' b' ha' hm' hb')
/-- Blocks of twenty, each sorted. -/
def blk20 (M : List HEv) : Nat → List HEv
  | 0 => []
  | t + 1 => blk20 M t ++ stb ltT ((M.drop (20 * t)).take 20)
theorem blk20_len (M : List HEv) : ∀ t, 20 * t ≤ M.length → (blk20 M t).length = 20 * t
  | 0, _ => rfl
  | t + 1, h => by rw [blk20, List.length_append, blk20_len M t (by omega), len_stb]; simp; omega
section
set_option maxRecDepth 100000 in
set_option maxHeartbeats 1600000 in
theorem sr_stable {w0 : World} {blk off cap N : Nat} {d0 : Array HEv} (R : RowK encH k6 w0 blk off d0) (hs0 : d0.size = N) (hN : N ≤ 40) (M : List HEv) (hM : d0.toList = M) :
    Calls Try.prog 43 #[.slice (some ⟨blk, off, none⟩) N cap, .int .i64 (N : Nat), .func (.func 30) #[] #[]] w0 fun e w' =>
      e = .returned (.tuple #[]) ∧ ∃ dk', dk'.size = N ∧ dk'.toList = stb ltT M ∧ SWK encH k6 w0 blk off dk' w' := by
  have hlen : M.length = N := by rw [← hM, ← hs0]; simp
  have IN := Lib.hid fun (W' : World) (dk' : Array HEv) (h' : SWK encH k6 w0 blk off dk' W') (hs' : dk'.size = N) P X S => sr_ins (cap := cap) R hs0 hs' (by omega) h' P X S
  have SY := Lib.hid fun (W' : World) (dk' : Array HEv) => sr_sym (cap := cap) R hs0 (by omega) 1000 W' dk'
  have H0 := Lib.hid (SWK.start R.hH)
  have HM := Lib.hid hM
  have HL := Lib.hid hlen
  have HS := Lib.hid hs0
  clear R hM hlen hs0
  go_enter Try.func43, Try.ntmps43
  go_wp2_with fail
  go_loopw [7, 8] (fun u v wr => ∃ (t : Nat) (dk : Array HEv), u = .int .i64 ((20 * t : Nat) : Int) ∧ v = .int .i64 ((20 * t + 20 : Nat) : Int) ∧ 20 * t ≤ N ∧ dk.size = N ∧ dk.toList = blk20 M t ++ M.drop (20 * t) ∧ SWK encH k6 w0 blk off dk wr) (fun u _ _ => N - (intOf u).toNat)
  case atStart => exact ⟨0, d0, rfl, rfl, by omega, HS.out, by rw [HM.out]; simp [blk20], H0.out⟩
  case round =>
    clear H0
    obtain ⟨t, dk, rfl, rfl, ht, hsz, hd, hw⟩ := hrel
    have HW := Lib.hid hw
    have HSZ := Lib.hid hsz
    have HD := Lib.hid hd
    have HB := Lib.hid (blk20_len M t (by rw [HL.out]; exact ht))
    clear hw hsz hd
    obtain ⟨a, ha⟩ : ∃ a, 20 * t = a := ⟨_, rfl⟩
    obtain ⟨b, hb⟩ : ∃ b, 20 * t + 20 = b := ⟨_, rfl⟩
    have HAB := Lib.hid (And.intro ha hb)
    rw [hb, ha]
    by_cases hlt : b ≤ N
    · have g1 : (b : Int) ≤ (N : Int) := by omega
      have w1 : IntKind.i64.wrap ((b : Int) + 20) = (b : Int) + 20 := IntWalk.i64_in _ (by omega)
      clear ha hb
      go_wp2_with fail
      with_reducible refine (IN.out _ _ HW.out HSZ.out (blk20 M t) ((M.drop (20 * t)).take 20) (M.drop (20 * t + 20)) (by rw [HD.out, ← List.drop_drop, List.take_append_drop]) a b (by rw [HB.out, HAB.out.1]) (by have := HAB.out; have := HL.out; simp; omega)).mono ?_
      rintro e w5 ⟨rfl, dk5, hs5, hd5, hw5⟩
      have HD5 := Lib.hid hd5
      have HS5 := Lib.hid hs5
      have HW5 := Lib.hid hw5
      clear hd5 hs5 hw5
      go_wp2_with fail
      go_roundw
      case rel => have h := HAB.out; exact ⟨t + 1, dk5, by congr 1; omega, by congr 1; omega, by omega, HS5.out, by rw [HD5.out, blk20, show 20 * (t + 1) = 20 * t + 20 by omega]; simp, HW5.out⟩
      case measure => have h := HAB.out; simp [intOf]; omega
    · have g1 : ¬ (b : Int) ≤ (N : Int) := by omega
      clear ha hb
      go_wp2_with fail
      with_reducible refine (IN.out _ _ HW.out HSZ.out (blk20 M t) (M.drop (20 * t)) [] (by rw [HD.out, List.append_nil]) a N (by rw [HB.out, HAB.out.1]) (by have := HAB.out; have := HL.out; simp; omega)).mono ?_
      rintro e w5 ⟨rfl, dk5, hs5, hd5, hw5⟩
      have HD5 := Lib.hid (show dk5.toList = blk20 M t ++ stb ltT (M.drop (20 * t)) by rw [hd5]; simp)
      have HS5 := Lib.hid hs5
      have HW5 := Lib.hid hw5
      clear hd5 hs5 hw5 HW HSZ HD
      have ht2 : 20 * t ≤ N ∧ N < 20 * t + 20 := by have := HAB.out; omega
      by_cases hN20 : N ≤ 20
      · have g2 : ¬ (20 : Int) < (N : Int) := by omega
        have HE := Lib.hid (show dk5.toList = stb ltT M by
          rw [HD5.out]
          have hl := HL.out
          rcases Nat.lt_or_ge t 1 with z | z
          · obtain rfl : t = 0 := by omega
            simp [blk20]
          · obtain rfl : t = 1 := by omega
            have e1 : M.drop (20 * 1) = [] := List.drop_eq_nil_of_le (by omega)
            have e2 : (M.drop (20 * 0)).take 20 = M := by rw [Nat.mul_zero, List.drop_zero, List.take_of_length_le (by omega)]
            rw [blk20, blk20, e1, e2]
            simp [stb])
        clear HD5 ht2 HB HAB HL HM IN ht g1
        go_wp2_with fail
        generalize wr = wm at *
        go_loopw [6] (fun u wr => ∃ (dk : Array HEv), dk.size = N ∧ SWK encH k6 w0 blk off dk wr ∧ u = .int .i64 20 ∧ dk.toList = stb ltT M) (fun u _ => 100 - (intOf u).toNat)
        case atStart => exact ⟨dk5, HS5.out, HW5.out, rfl, HE.out⟩
        case round =>
          clear HE HS5 HW5
          obtain ⟨dk, hsz, hw, rfl, hd⟩ := hrel
          have HW := Lib.hid hw
          have HSZ := Lib.hid hsz
          have HD := Lib.hid hd
          clear hw hsz hd
          go_wp2_with fail
          go_end0
          exact ⟨rfl, dk, HSZ.out, HD.out, HW.out⟩
      · have g2 : (20 : Int) < (N : Int) := by omega
        have HE := Lib.hid (show dk5.toList = stb ltT (M.take 20) ++ stb ltT (M.drop 20) by
          rw [HD5.out]
          have hl := HL.out
          rcases Nat.lt_or_ge t 2 with z | z
          · obtain rfl : t = 1 := by omega
            simp [blk20]
          · obtain rfl : t = 2 := by omega
            have e1 : M.drop (20 * 2) = [] := List.drop_eq_nil_of_le (by omega)
            have e2 : (M.drop (20 * 1)).take 20 = M.drop 20 := List.take_of_length_le (by simp; omega)
            rw [blk20, blk20, blk20, e1, e2]
            simp [stb])
        have MG := Lib.hid (show mrg ltT (stb ltT (M.take 20)) (stb ltT (M.drop 20)) = stb ltT M by rw [← stb_app wkT, List.take_append_drop])
        have LA := Lib.hid (show (stb ltT (M.take 20)).length = 20 by rw [len_stb]; have := HL.out; simp; omega)
        have LB := Lib.hid (show 20 + (stb ltT (M.drop 20)).length = N by rw [len_stb]; have := HL.out; simp; omega)
        have SA := Lib.hid (srt_stb wkT (M.take 20))
        have SB := Lib.hid (srt_stb wkT (M.drop 20))
        obtain ⟨A, hA⟩ : ∃ A, stb ltT (M.take 20) = A := ⟨_, rfl⟩
        obtain ⟨B, hB⟩ : ∃ B, stb ltT (M.drop 20) = B := ⟨_, rfl⟩
        rw [hA, hB] at HE MG
        rw [hA] at LA SA
        rw [hB] at LB SB
        clear HD5 ht2 hA hB HB HAB HL HM IN ht g1
        go_wp2_with fail
        generalize wr = wm at *
        go_loopw [6] (fun u wr => ∃ (dk : Array HEv), dk.size = N ∧ SWK encH k6 w0 blk off dk wr ∧ ((u = .int .i64 20 ∧ dk.toList = A ++ B) ∨ (u = .int .i64 40 ∧ dk.toList = stb ltT M))) (fun u _ => 100 - (intOf u).toNat)
        case atStart => exact ⟨dk5, HS5.out, HW5.out, .inl ⟨rfl, HE.out⟩⟩
        case round =>
          clear HE HS5 HW5
          obtain ⟨dk, hsz, hw, hrel⟩ := hrel
          have HW := Lib.hid hw
          have HSZ := Lib.hid hsz
          clear hw hsz
          rcases hrel with ⟨rfl, hd⟩ | ⟨rfl, hd⟩
          · have HD := Lib.hid hd
            clear hd
            go_wp2_with fail
            generalize wr = wn at *
            go_loopw [7, 8] (fun u v wr => ∃ (dk : Array HEv), dk.size = N ∧ SWK encH k6 w0 blk off dk wr ∧ ((u = .int .i64 0 ∧ v = .int .i64 40 ∧ dk.toList = A ++ B) ∨ (u = .int .i64 40 ∧ v = .int .i64 80 ∧ N = 40 ∧ dk.toList = stb ltT M))) (fun u _ _ => 100 - (intOf u).toNat)
            case atStart => exact ⟨dk, HSZ.out, HW.out, .inl ⟨rfl, rfl, HD.out⟩⟩
            case round =>
              clear HD HSZ HW
              obtain ⟨dk6, hsz, hw, hrel⟩ := hrel
              have HW := Lib.hid hw
              have HSZ := Lib.hid hsz
              clear hw hsz
              rcases hrel with ⟨rfl, rfl, hd⟩ | ⟨rfl, rfl, h40, hd⟩
              · have HD := Lib.hid hd
                clear hd
                by_cases h40 : 40 ≤ N
                · have g3 : (40 : Int) ≤ (N : Int) := by omega
                  go_wp2_with fail
                  refine (SY.out _ _ [] A B [] (by have := LA.out; have := LB.out; omega) (List.length_pos_iff.1 (by have := LA.out; omega)) (List.length_pos_iff.1 (by have := LB.out; omega)) SA.out SB.out HSZ.out HW.out (by rw [HD.out]; simp) 0 20 40 rfl (by have := LA.out; omega) (by have := LB.out; omega)).mono ?_
                  rintro e w7 ⟨rfl, dk7, hs7, hd7, hw7⟩
                  have HD7 := Lib.hid (show dk7.toList = stb ltT M by rw [hd7, MG.out]; simp)
                  have HS7 := Lib.hid hs7
                  have HW7 := Lib.hid hw7
                  clear hd7 hs7 hw7
                  go_wp2_with fail
                  go_roundw
                  case rel => exact ⟨dk7, HS7.out, HW7.out, .inr ⟨rfl, rfl, by omega, HD7.out⟩⟩
                  case measure => simp [intOf]
                · have g3 : ¬ (40 : Int) ≤ (N : Int) := by omega
                  go_wp2_with fail
                  refine (SY.out _ _ [] A B [] (by have := LA.out; have := LB.out; omega) (List.length_pos_iff.1 (by have := LA.out; omega)) (List.length_pos_iff.1 (by have := LB.out; omega)) SA.out SB.out HSZ.out HW.out (by rw [HD.out]; simp) 0 20 N rfl (by have := LA.out; omega) (by have := LB.out; omega)).mono ?_
                  rintro e w7 ⟨rfl, dk7, hs7, hd7, hw7⟩
                  have HD7 := Lib.hid (show dk7.toList = stb ltT M by rw [hd7, MG.out]; simp)
                  have HS7 := Lib.hid hs7
                  have HW7 := Lib.hid hw7
                  clear hd7 hs7 hw7
                  go_wp2_with fail
                  go_roundw
                  case rel => exact ⟨dk7, HS7.out, HW7.out, .inr ⟨rfl, HD7.out⟩⟩
                  case measure => simp [intOf]
              · have HD := Lib.hid hd
                clear hd
                have g3 : ¬ (80 : Int) ≤ (N : Int) := by omega
                have g4 : ¬ (60 : Int) < (N : Int) := by omega
                have H40 := Lib.hid h40
                clear h40
                go_wp2_with fail
                go_roundw
                case rel => exact ⟨dk6, HSZ.out, HW.out, .inr ⟨rfl, HD.out⟩⟩
                case measure => simp [intOf]
          · have HD := Lib.hid hd
            clear hd
            have g3 : ¬ (40 : Int) < (N : Int) := by omega
            go_wp2_with fail
            go_end0
            exact ⟨rfl, dk, HSZ.out, HD.out, HW.out⟩
set_option maxRecDepth 100000 in
theorem sr_SortStable {w0 : World} {blk off cap N : Nat} {d0 : Array HEv} (R : RowK encH k6 w0 blk off d0) (hs0 : d0.size = N) (hN : N ≤ 40) (M : List HEv) (hM : d0.toList = M) :
    Calls Try.prog 29 #[.slice (some ⟨blk, off, none⟩) N cap, .func (.func 30) #[] #[]] w0 fun e w' =>
      e = .returned (.tuple #[]) ∧ ∃ dk', dk'.size = N ∧ dk'.toList = stb ltT M ∧ SWK encH k6 w0 blk off dk' w' := by
  have ST := Lib.hid (sr_stable (cap := cap) R hs0 hN M hM)
  clear R hs0 hM
  go_enter Try.func29, Try.ntmps29
  go_wp2_with fail
  with_reducible refine ST.out.mono ?_
  rintro e w7 ⟨rfl, h⟩
  go_wp2_with fail
  go_end0
  exact ⟨rfl, h⟩
/-- Nothing turns in a sort but the row, and what is new. -/
theorem SWK.keptJ {w0 W : World} {blk off : Nat} {dk : Array HEv} (h : SWK encH k6 w0 blk off dk W) : Kept (fun j => j = blk) w0 W := by
  obtain ⟨n, os, rfl⟩ := h
  refine ⟨rfl, rfl, rfl, size_sortWorldK_c _ _ _ _ _ _ _ _, fun k hk hn => ?_⟩
  have hk2 : k < (putRowK encH k6 (Sort.ahead w0 n) blk off dk).heap.size := by rw [size_putRowK]; exact hk
  show (((putRowK encH k6 (Sort.ahead w0 n) blk off dk).heap ++ os)[k]?) = _
  rw [Array.getElem?_append_left hk2]
  show (((Sort.ahead w0 n).heap.modify blk (onCells _))[k]?) = _
  rw [Array.getElem?_modify, if_neg (fun q => hn q.symm)]
  rfl
theorem SWK.els {w0 W : World} {blk off : Nat} {dk d0 : Array HEv} (R : RowK encH k6 w0 blk off d0) (h : SWK encH k6 w0 blk off dk W) (hs : dk.size = d0.size) : ElsAt evE W (some ⟨blk, off, none⟩) dk.toList := by
  have hh := h.holds R.hblk R.hH hs
  refine .inr ⟨blk, off, rfl, Nat.lt_of_lt_of_le R.hblk h.le, fun j u hu => ?_⟩
  have hj : j < dk.size * 6 := by
    have := (List.getElem?_eq_some_iff.1 hu).1
    rw [Enc.all_len] at this
    show j < dk.size * evE.n
    simpa using this
  have hi : j / 6 < dk.size := by omega
  have hc := (hh.cell (i := j / 6) (c := j % 6) hi (by show j % 6 < 6; omega)).1
  rw [show off + j / 6 * k6 + j % 6 = off + j by show off + j / 6 * 6 + j % 6 = off + j; omega] at hc
  rw [hc]
  have hx : dk.toList[j / 6]? = some dk[j / 6]! := by rw [Array.getElem?_toList, Array.getElem?_eq_getElem hi, getElem!_pos dk _ hi]
  have := Enc.all_get evE dk.toList (j / 6) _ hx (j % 6) (by show j % 6 < 6; omega)
  rw [show j / 6 * evE.n + j % 6 = j by show j / 6 * 6 + j % 6 = j; omega] at this
  rw [hu] at this
  have hl : j % 6 < (encH dk[j / 6]!).length := by show j % 6 < 6; omega
  rw [getElem!_pos (encH dk[j / 6]!) (j % 6) hl]
  have h2 : (evE.enc dk[j / 6]!)[j % 6]? = some (encH dk[j / 6]!)[j % 6] := List.getElem?_eq_getElem hl
  rw [h2] at this
  exact this.symm
/-- A slice of one's own is a row. -/
theorem rowK_own {w : World} {g : Nat} {cur : Array Value} {t : TypeId} {l : List HEv} (hb : Blk w g cur t) (h : cur.toList.take (l.length * 6) = evE.all l) : RowK encH k6 w g 0 l.toArray := by
  refine ⟨fun _ => rfl, fun x v hv => evE.one x v hv, fun j hj => ⟨?_, hb.free _⟩, hb.lt⟩
  rw [size_flatK] at hj
  have hj6 : j < l.length * 6 := by simpa [k6] using hj
  have hi : j / 6 < l.length := by omega
  rw [get_flatK _ _ _ _ hj, cell_blk hb, Nat.zero_add]
  have hx : l[j / 6]? = some l[j / 6] := List.getElem?_eq_getElem hi
  have := Enc.all_get evE l (j / 6) _ hx (j % 6) (by show j % 6 < 6; omega)
  rw [show j / 6 * evE.n + j % 6 = j by show j / 6 * 6 + j % 6 = j; omega] at this
  rw [← Array.getElem?_toList]
  have h3 : (cur.toList.take (l.length * 6))[j]? = cur.toList[j]? := by rw [List.getElem?_take, if_pos hj6]
  rw [← h3, h, this]
  have e1 : l.toArray[j / k6]! = l[j / 6] := by
    show l.toArray[j / 6]! = _
    rw [getElem!_pos _ _ (by simpa using hi)]; simp
  rw [e1]
  have hl : j % 6 < (encH l[j / 6]).length := by show j % 6 < 6; omega
  rw [show (encH l[j / 6])[j % k6]! = (encH l[j / 6])[j % 6] from getElem!_pos (encH l[j / 6]) (j % 6) hl]
  exact List.getElem?_eq_getElem hl
end
end Go.Proofs.Ytaeiajodbpgbbaa
