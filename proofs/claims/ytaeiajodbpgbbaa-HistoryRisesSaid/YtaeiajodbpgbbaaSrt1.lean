/- slices.SortStableFunc's family: swapRange, rotate. -/
import Derived.Test.YtaeiajodbpgbbaaHvP
import Derived.Test.YtaeiajodbpgbbaaHeldT
import Derived.Shelf.SlSortCmp.KitK
import Derived.Test.YtaeiajodbpgbbaaProg
import Derived.Deep.RegionHeld3
import Derived.Shelf.Abstract
namespace Go.Proofs.Ytaeiajodbpgbbaa
open Go.RowKit Go.Sort Go.Shelf Go.Lib

/-- How many cells an event has: a name, so that the walk does not take its loads apart. -/
def k6 : Nat := 6
theorem sz6 (w : World) : (Go.sizeOf 42).run Try.prog w = .ok k6 w := Try.sizeOf42 w
section
attribute [local go_sem ↓] sz6
set_option maxRecDepth 100000 in
set_option maxHeartbeats 800000 in
theorem sr_swapRange {w0 W : World} {blk off cap N : Nat} {dk d0 : Array HEv} (R : RowK encH k6 w0 blk off d0) (hs0 : d0.size = N) (hs : dk.size = N) (hN : N ≤ 1000000) (h : SWK encH k6 w0 blk off dk W) (P U M V S : List HEv) (hd : dk.toList = P ++ (U ++ (M ++ (V ++ S)))) (n : Nat) (hu : U.length = n) (hv : V.length = n) (a b : Nat) (ha : P.length = a) (hb : a + n + M.length = b) (fv : Value) :
    Calls Try.prog 83 #[.slice (some ⟨blk, off, none⟩) N cap, .int .i64 (a : Nat), .int .i64 (b : Nat), .int .i64 (n : Nat), fv] W fun e w' =>
      e = .returned (.tuple #[]) ∧ ∃ dk', dk'.size = N ∧ dk'.toList = P ++ (V ++ (M ++ (U ++ S))) ∧ SWK encH k6 w0 blk off dk' w' := by
  have hlen : a + n + M.length + n + S.length = N := by have := congrArg List.length hd; simp at this; omega
  have mixed : Try.prog.follows .mixedOrders = true := by kernel_rfl
  have HR := Lib.hid R
  have HS0 := Lib.hid hs0
  have H0 := Lib.hid h
  have HD := Lib.hid hd
  have HU := Lib.hid hu
  have HV := Lib.hid hv
  have HA := Lib.hid ha
  have HB := Lib.hid hb
  have HL := Lib.hid hlen
  have HSZ := Lib.hid hs
  clear R hs0 h hd hu hv ha hb hlen hs
  go_enter Try.func83, Try.ntmps83
  go_wp2_with fail
  go_loopw [10] (fun t wr => ∃ (i : Nat) (dk' : Array HEv), t = .int .i64 i ∧ i ≤ n ∧ dk'.size = N ∧ dk'.toList = P ++ (V.take i ++ (U.drop i ++ (M ++ (U.take i ++ (V.drop i ++ S))))) ∧ SWK encH k6 w0 blk off dk' wr) (fun t _ => n - (intOf t).toNat)
  case atStart => exact ⟨0, dk, rfl, Nat.zero_le _, HSZ.out, by simpa using HD.out, H0.out⟩
  case round =>
    clear H0 HD HSZ
    obtain ⟨i, dk', rfl, hi, hsz, hd, hw⟩ := hrel
    have HW := Lib.hid hw
    have HSZ := Lib.hid hsz
    have HD := Lib.hid hd
    clear hw hsz hd
    by_cases hlt : i < n
    · have g1 : (i : Int) < (n : Int) := by omega
      have hui : i < U.length := by have := HU.out; omega
      have hvi : i < V.length := by have := HV.out; omega
      obtain ⟨xu, hxu⟩ : ∃ x, U[i] = x := ⟨_, rfl⟩
      obtain ⟨xv, hxv⟩ : ∃ x, V[i] = x := ⟨_, rfl⟩
      have hd1 : dk'.toList = (P ++ V.take i) ++ xu :: ((U.drop (i + 1) ++ (M ++ U.take i)) ++ xv :: (V.drop (i + 1) ++ S)) := by
        rw [HD.out, List.drop_eq_getElem_cons hui, List.drop_eq_getElem_cons hvi, hxu, hxv]; simp
      have hi1 : (P ++ V.take i).length = a + i := by have := HA.out; simp <;> omega
      have hj1 : (P ++ V.take i).length + 1 + (U.drop (i + 1) ++ (M ++ U.take i)).length = b + i := by have := HB.out; have := HU.out; simp at hi1 ⊢; omega
      obtain ⟨la, ea⟩ := get_at hd1 hi1
      obtain ⟨lb, eb⟩ := get_at (L1 := (P ++ V.take i) ++ xu :: (U.drop (i + 1) ++ (M ++ U.take i))) (L2 := V.drop (i + 1) ++ S) (x := xv) (i := b + i) (by rw [hd1]; simp) (by simp at hj1 ⊢; omega)
      have hsw := swp_list hd1 hi1 hj1
      have HSW := Lib.hid hsw
      have TU := Lib.hid (show U.take (i + 1) = U.take i ++ [xu] by rw [← hxu, List.take_append_getElem])
      have TV := Lib.hid (show V.take (i + 1) = V.take i ++ [xv] by rw [← hxv, List.take_append_getElem])
      have HI := Lib.hid hlt
      have h1 : Sem.run Try.prog (loadCellsFrom ⟨blk, off + (a + i) * 6, none⟩ 0 k6 #[]) wr.drew = .ok (encH dk'[a + i]!).toArray wr.drew := HW.out.ld1 HR.out (by rw [HSZ.out, HS0.out]) Try.prog (a + i) la
      have h2 : Sem.run Try.prog (loadCellsFrom ⟨blk, off + (b + i) * 6, none⟩ 0 k6 #[]) wr.drew = .ok (encH dk'[b + i]!).toArray wr.drew := HW.out.ld1 HR.out (by rw [HSZ.out, HS0.out]) Try.prog (b + i) lb
      have s1 : Sem.run Try.prog (storeCells ⟨blk, off + (a + i) * 6, none⟩ (encH xv) 0) wr.drew = .ok () (wr.drew.setCells blk (off + (a + i) * 6) (encH xv)) := HW.out.st1 HR.out (by rw [HSZ.out, HS0.out]) Try.prog (a + i) la xv
      have s2 : Sem.run Try.prog (storeCells ⟨blk, off + (b + i) * 6, none⟩ (encH xu) 0) (wr.drew.setCells blk (off + (a + i) * 6) (encH xv)) = .ok () ((wr.drew.setCells blk (off + (a + i) * 6) (encH xv)).setCells blk (off + (b + i) * 6) (encH xu)) := HW.out.st2 HR.out (by rw [HSZ.out, HS0.out]) Try.prog (a + i) (b + i) la lb xv xu
      have sw : SWK encH k6 w0 blk off (swp dk' (a + i) (b + i)) ((wr.drew.setCells blk (off + (a + i) * 6) (encH dk'[b + i]!)).setCells blk (off + (b + i) * 6) (encH dk'[a + i]!)) := HW.out.swapped HR.out (a + i) (b + i) la lb
      rw [ea] at h1 sw
      rw [eb] at h2 sw
      have SW' := Lib.hid sw
      have z1 : (a : Int) + (i : Int) < (N : Int) := by have := HSZ.out; omega
      have z2 : (b : Int) + (i : Int) < (N : Int) := by have := HSZ.out; omega
      have z3 : (0 : Int) ≤ (a : Int) + (i : Int) := by omega
      have z4 : (0 : Int) ≤ (b : Int) + (i : Int) := by omega
      have q1 : ((a : Int) + (i : Int)).toNat = a + i := by omega
      have q2 : ((b : Int) + (i : Int)).toNat = b + i := by omega
      have w1 : IntKind.i64.wrap ((a : Int) + (i : Int)) = (a : Int) + (i : Int) := IntWalk.i64_in _ (by omega)
      have w2 : IntKind.i64.wrap ((b : Int) + (i : Int)) = (b : Int) + (i : Int) := IntWalk.i64_in _ (by omega)
      clear hd1 hi1 hj1 la ea lb eb hsw sw hxu hxv hui hvi hi hlt
      have hsJ : (encH xu).length = k6 := rfl
      have hsP : (encH xv).length = k6 := rfl
      obtain ⟨cU, hcU⟩ : ∃ c, c = encH xu := ⟨_, rfl⟩
      obtain ⟨cV, hcV⟩ : ∃ c, c = encH xv := ⟨_, rfl⟩
      rw [← hcU] at h1 s2 SW' hsJ
      rw [← hcV] at h2 s1 s2 SW' hsP
      clear hcU hcV
      go_wp2_with fail
      go_big_region_o
      all_goals go_wp2_with fail
      have hlt := HI.out
      refine ⟨⟨i + 1, swp dk' (a + i) (b + i), by go_num, by omega, by rw [size_swp]; exact HSZ.out, ?_, SW'.out⟩, by simp [intOf]; omega⟩
      rw [HSW.out, TU.out, TV.out]; simp
    · have g1 : ¬ (i : Int) < (n : Int) := by omega
      go_wp2_with fail
      go_end0
      refine ⟨rfl, dk', HSZ.out, ?_, HW.out⟩
      obtain rfl : i = n := by omega
      have hu := HU.out
      have hv := HV.out
      have := HD.out
      rw [List.take_of_length_le (by omega), List.take_of_length_le (by omega), List.drop_eq_nil_of_le (by omega), List.drop_eq_nil_of_le (by omega)] at this
      simpa using this
set_option maxRecDepth 100000 in
set_option maxHeartbeats 800000 in
theorem sr_rotate {w0 W : World} {blk off cap N : Nat} {dk d0 : Array HEv} (R : RowK encH k6 w0 blk off d0) (hs0 : d0.size = N) (hs : dk.size = N) (hN : N ≤ 1000000) (h : SWK encH k6 w0 blk off dk W) (P X Y S : List HEv) (hd : dk.toList = P ++ (X ++ (Y ++ S))) (a m b : Nat) (ha : P.length = a) (hm : a + X.length = m) (hb : m + Y.length = b) (hx : X ≠ []) (hy : Y ≠ []) (fv : Value) :
    Calls Try.prog 74 #[.slice (some ⟨blk, off, none⟩) N cap, .int .i64 (a : Nat), .int .i64 (m : Nat), .int .i64 (b : Nat), fv] W fun e w' =>
      e = .returned (.tuple #[]) ∧ ∃ dk', dk'.size = N ∧ dk'.toList = P ++ (Y ++ (X ++ S)) ∧ SWK encH k6 w0 blk off dk' w' := by
  have hlen : b + S.length = N := by have := congrArg List.length hd; simp at this; omega
  have hx0 : 0 < X.length := List.length_pos_iff.2 hx
  have hy0 : 0 < Y.length := List.length_pos_iff.2 hy
  have SR := Lib.hid fun (W' : World) (dk' : Array HEv) (h' : SWK encH k6 w0 blk off dk' W') (hs' : dk'.size = N) P U M V S => sr_swapRange (cap := cap) R hs0 hs' hN h' P U M V S
  have H0 := Lib.hid h
  have HD := Lib.hid hd
  have HL := Lib.hid hlen
  have HSZ := Lib.hid hs
  have HA := Lib.hid ha
  have HX := Lib.hid (show 0 < X.length ∧ 0 < Y.length ∧ a + X.length = m ∧ m + Y.length = b from ⟨hx0, hy0, hm, hb⟩)
  have w1 : IntKind.i64.wrap ((m : Int) - (a : Int)) = (X.length : Int) := by rw [IntWalk.i64_in _ (by omega)]; omega
  have w2 : IntKind.i64.wrap ((b : Int) - (m : Int)) = (Y.length : Int) := by rw [IntWalk.i64_in _ (by omega)]; omega
  clear R hs0 h hd hs ha hm hb hx hy hlen hx0 hy0
  go_enter Try.func74, Try.ntmps74
  go_wp2_with fail
  go_loopw [10, 11] (fun t u wr => ∃ (PX I J SX : List HEv) (i j : Nat) (dk' : Array HEv), t = .int .i64 i ∧ u = .int .i64 j ∧ I.length = i ∧ J.length = j ∧ 0 < i ∧ 0 < j ∧ PX.length + i = m ∧ m + j + SX.length = N ∧ dk'.size = N ∧ dk'.toList = PX ++ (I ++ (J ++ SX)) ∧ PX ++ (J ++ (I ++ SX)) = P ++ (Y ++ (X ++ S)) ∧ SWK encH k6 w0 blk off dk' wr) (fun t u _ => (intOf t).toNat + (intOf u).toNat)
  case atStart => have q := HX.out; have q2 := HL.out; have q3 := HA.out; exact ⟨P, X, Y, S, X.length, Y.length, dk, rfl, rfl, rfl, rfl, by omega, by omega, by omega, by omega, HSZ.out, HD.out, rfl, H0.out⟩
  case round =>
    clear H0 HD HSZ w1 w2
    obtain ⟨PX, I, J, SX, i, j, dk', rfl, rfl, hI, hJ, hi, hj, hp, hn, hsz, hd, hg, hw⟩ := hrel
    have HW := Lib.hid hw
    have HSZ := Lib.hid hsz
    have HD := Lib.hid hd
    have HG := Lib.hid hg
    have HI := Lib.hid hI
    have HJ := Lib.hid hJ
    clear hw hsz hd hg hI hJ
    have a1 : IntKind.i64.wrap ((m : Int) - (i : Int)) = ((PX.length : Nat) : Int) := by rw [IntWalk.i64_in _ (by omega)]; omega
    by_cases hij : i = j
    · subst hij
      go_wp2_with fail
      with_reducible refine (SR.out _ _ HW.out HSZ.out PX I [] J SX (by simpa using HD.out) i HI.out HJ.out PX.length m rfl (by simp <;> omega) fv).mono ?_
      rintro e w5 ⟨rfl, dk5, hs5, hd5, hw5⟩
      go_wp2_with fail
      go_end0
      exact ⟨rfl, dk5, hs5, by rw [hd5, ← HG.out]; simp, hw5⟩
    · have g1 : ¬ ((i : Int) = (j : Int)) := by omega
      by_cases hgt : j < i
      · have g2 : (j : Int) < (i : Int) := by omega
        have a2 : IntKind.i64.wrap ((i : Int) - (j : Int)) = ((i - j : Nat) : Int) := by rw [IntWalk.i64_in _ (by omega)]; omega
        go_wp2_with fail
        with_reducible refine (SR.out _ _ HW.out HSZ.out PX (I.take j) (I.drop j) J SX (by rw [HD.out, ← List.append_assoc (I.take j), List.take_append_drop]) j (by have := HI.out; simp <;> omega) HJ.out PX.length m rfl (by have := HI.out; simp <;> omega) fv).mono ?_
        rintro e w5 ⟨rfl, dk5, hs5, hd5, hw5⟩
        have HD5 := Lib.hid hd5
        have HS5 := Lib.hid hs5
        have HW5 := Lib.hid hw5
        clear hd5 hs5 hw5
        go_wp2_with fail
        go_roundw
        case rel =>
          refine ⟨PX ++ J, I.drop j, I.take j, SX, i - j, j, dk5, rfl, rfl, by have := HI.out; simp <;> omega, by have := HI.out; simp <;> omega, by omega, by omega, by have := HJ.out; simp <;> omega, by omega, HS5.out, by rw [HD5.out]; simp, ?_, HW5.out⟩
          rw [← HG.out]
          simp only [List.append_assoc]
          rw [← List.append_assoc (I.take j), List.take_append_drop]
        case measure => simp [intOf]; omega
      · have g2 : ¬ (j : Int) < (i : Int) := by omega
        have a2 : IntKind.i64.wrap ((j : Int) - (i : Int)) = ((j - i : Nat) : Int) := by rw [IntWalk.i64_in _ (by omega)]; omega
        have a3 : IntKind.i64.wrap ((m : Int) + (j : Int)) = (m : Int) + (j : Int) := IntWalk.i64_in _ (by omega)
        have a4 : IntKind.i64.wrap ((m : Int) + (j : Int) - (i : Int)) = ((m + j - i : Nat) : Int) := by rw [IntWalk.i64_in _ (by omega)]; omega
        go_wp2_with fail
        with_reducible refine (SR.out _ _ HW.out HSZ.out PX I (J.take (j - i)) (J.drop (j - i)) SX (by rw [HD.out, ← List.append_assoc (J.take (j - i)), List.take_append_drop]) i HI.out (by have := HJ.out; simp <;> omega) PX.length (m + j - i) rfl (by have := HJ.out; simp <;> omega) fv).mono ?_
        rintro e w5 ⟨rfl, dk5, hs5, hd5, hw5⟩
        have HD5 := Lib.hid hd5
        have HS5 := Lib.hid hs5
        have HW5 := Lib.hid hw5
        clear hd5 hs5 hw5
        go_wp2_with fail
        go_roundw
        case rel =>
          refine ⟨PX, J.drop (j - i), J.take (j - i), I ++ SX, i, j - i, dk5, rfl, rfl, by have := HJ.out; simp <;> omega, by have := HJ.out; simp <;> omega, by omega, by omega, by omega, by have := HI.out; simp <;> omega, HS5.out, HD5.out, ?_, HW5.out⟩
          rw [← HG.out]
          rw [← List.append_assoc (J.take (j - i)), List.take_append_drop]
        case measure => simp [intOf]; omega
end
end Go.Proofs.Ytaeiajodbpgbbaa
