/- slices.SortStableFunc's family: symMerge where one side has one element. -/
import Derived.Test.YtaeiajodbpgbbaaSrt1
namespace Go.Proofs.Ytaeiajodbpgbbaa
open Go.RowKit Go.Sort Go.Shelf Go.Lib

theorem irr {lt : HEv → HEv → Bool} (W : Wk lt) (x : HEv) : lt x x = false := by
  cases h : lt x x
  · rfl
  · have := W.asym x x h; rw [h] at this; cases this
theorem idx_at {d : Array HEv} {L1 B L2 : List HEv} (h : d.toList = L1 ++ (B ++ L2)) {m : Nat} (hm : L1.length = m) (p : Nat) (hp : p < B.length) : d[m + p]! = B[p] ∧ m + p < d.size := by
  have h2 : d.toList = (L1 ++ B.take p) ++ B[p] :: (B.drop (p + 1) ++ L2) := by
    have e : B = B.take p ++ B[p] :: B.drop (p + 1) := by rw [← List.drop_eq_getElem_cons hp, List.take_append_drop]
    rw [h, show (L1 ++ B.take p) ++ B[p] :: (B.drop (p + 1) ++ L2) = L1 ++ ((B.take p ++ B[p] :: B.drop (p + 1)) ++ L2) by simp only [List.append_assoc, List.cons_append], ← e]
  obtain ⟨h3, h4⟩ := get_at h2 (i := m + p) (by simp <;> omega)
  exact ⟨h4, h3⟩
theorem srt_idx {lt : HEv → HEv → Bool} (W : Wk lt) {d : Array HEv} {L1 B L2 : List HEv} (h : d.toList = L1 ++ (B ++ L2)) {m : Nat} (hm : L1.length = m) (hs : Srt lt B) (p q : Nat) (hp : m ≤ p) (hpq : p ≤ q) (hq : q < m + B.length) : lt d[q]! d[p]! = false := by
  obtain ⟨e1, _⟩ := idx_at h hm (p - m) (by omega)
  obtain ⟨e2, _⟩ := idx_at h hm (q - m) (by omega)
  rw [show m + (p - m) = p by omega] at e1
  rw [show m + (q - m) = q by omega] at e2
  rw [e1, e2]
  rcases Nat.lt_or_ge p q with z | z
  · exact List.pairwise_iff_getElem.1 hs _ _ _ _ (by omega)
  · have : p = q := by omega
    subst this; exact irr W _
theorem mem_take_idx {d : Array HEv} {L1 B L2 : List HEv} (h : d.toList = L1 ++ (B ++ L2)) {m : Nat} (hm : L1.length = m) (r : Nat) (hr : r ≤ B.length) {y : HEv} (hy : y ∈ B.take r) : ∃ c, m ≤ c ∧ c < m + r ∧ d[c]! = y := by
  obtain ⟨i, hi, e⟩ := List.getElem_of_mem hy
  simp at hi
  obtain ⟨e1, _⟩ := idx_at h hm i (by omega)
  exact ⟨m + i, by omega, by omega, by rw [e1, ← e]; simp⟩
theorem mem_drop_idx {d : Array HEv} {L1 B L2 : List HEv} (h : d.toList = L1 ++ (B ++ L2)) {m : Nat} (hm : L1.length = m) (r : Nat) {y : HEv} (hy : y ∈ B.drop r) : ∃ c, m + r ≤ c ∧ c < m + B.length ∧ d[c]! = y := by
  obtain ⟨i, hi, e⟩ := List.getElem_of_mem hy
  simp at hi
  obtain ⟨e1, _⟩ := idx_at h hm (r + i) (by omega)
  exact ⟨m + (r + i), by omega, by omega, by rw [e1, ← e]; simp⟩
section
attribute [local go_sem ↓] sz6
set_option maxRecDepth 100000 in
set_option maxHeartbeats 800000 in
theorem sr_sym1 {w0 W : World} {blk off cap N g : Nat} {cb : Array Value} {dk d0 : Array HEv} (eg : ∀ args w, (callFunc g args).run Try.prog w = .ok (.enter g args) w) (hC : CmpLays Try.prog g cb encH k6 cfT blk off N w0) (R : RowK encH k6 w0 blk off d0) (hs0 : d0.size = N) (hs : dk.size = N) (hN : N ≤ 1000000) (h : SWK encH k6 w0 blk off dk W) (P B S : List HEv) (x : HEv) (hd : dk.toList = P ++ (x :: (B ++ S))) (hB : Srt ltT B) (a m b : Nat) (ha : P.length = a) (hm : a + 1 = m) (hb : m + B.length = b) :
    Calls Try.prog 56 #[.slice (some ⟨blk, off, none⟩) N cap, .int .i64 (a : Nat), .int .i64 (m : Nat), .int .i64 (b : Nat), .func (.func g) #[] cb] W fun e w' =>
      e = .returned (.tuple #[]) ∧ ∃ dk', dk'.size = N ∧ dk'.toList = P ++ (mrg ltT [x] B ++ S) ∧ SWK encH k6 w0 blk off dk' w' := by
  have mixed : Try.prog.follows .mixedOrders = true := by kernel_rfl
  have hlen : b + S.length = N := by have := congrArg List.length hd; simp at this; omega
  have hd2 : dk.toList = (P ++ [x]) ++ (B ++ S) := by rw [hd]; simp
  have HS := Lib.hid fun p q => srt_idx wkT hd2 (m := m) (by simp <;> omega) hB p q
  have HX := Lib.hid (get_at hd ha)
  have HR := Lib.hid R
  have HS0 := Lib.hid hs0
  have H0 := Lib.hid h
  have HD := Lib.hid hd2
  have HSZ := Lib.hid hs
  have HC := Lib.hid hC
  have HP := Lib.hid ha
  clear R hs0 h hd hd2 hs hC ha hB
  have g0 : IntKind.i64.wrap ((m : Int) - (a : Int)) = 1 := by rw [IntWalk.i64_in _ (by omega)]; omega
  go_enter Try.func56, Try.ntmps56
  go_wp2_with fail
  go_loopw [10, 11] (fun t u wr => ∃ (i j : Nat), t = .int .i64 i ∧ u = .int .i64 j ∧ m ≤ i ∧ i ≤ j ∧ j ≤ b ∧ (∀ c, m ≤ c → c < i → ltT dk[c]! x = true) ∧ (∀ c, j ≤ c → c < b → ltT dk[c]! x = false) ∧ SWK encH k6 w0 blk off dk wr) (fun t u _ => (intOf u).toNat - (intOf t).toNat)
  case atStart => exact ⟨m, b, rfl, rfl, by omega, by omega, by omega, fun c h1 h2 => absurd h2 (by omega), fun c h1 h2 => absurd h2 (by omega), H0.out⟩
  case round =>
    clear H0
    obtain ⟨i, j, rfl, rfl, hi, hij, hj, hlo, hhi, hw⟩ := hrel
    have HLO := Lib.hid hlo
    have HHI := Lib.hid hhi
    have HW := Lib.hid hw
    clear hlo hhi hw
    by_cases hlt : i < j
    · have g1 : (i : Int) < (j : Int) := by omega
      obtain ⟨q, hq⟩ : ∃ q, (i + j) / 2 = q := ⟨_, rfl⟩
      have w1 : IntKind.i64.wrap ((i : Int) + (j : Int)) = (i : Int) + (j : Int) := IntWalk.i64_in _ (by omega)
      have w2 : ((i : Int) + (j : Int)) / 2 = (q : Int) := by omega
      have z1 : (q : Int) < (N : Int) := by omega
      have z2 : (a : Int) < (N : Int) := by omega
      have h1 : ∀ n' os', Sem.run Try.prog (loadCellsFrom ⟨blk, off + q * 6, none⟩ 0 k6 #[]) (grow (wr.drewN n') os') = .ok (encH dk[q]!).toArray (grow (wr.drewN n') os') := HW.out.ld HR.out (by rw [HSZ.out, HS0.out]) Try.prog q (by have := HSZ.out; omega)
      have h2 : ∀ n' os', Sem.run Try.prog (loadCellsFrom ⟨blk, off + a * 6, none⟩ 0 k6 #[]) (grow (wr.drewN n') os') = .ok (encH dk[a]!).toArray (grow (wr.drewN n') os') := HW.out.ld HR.out (by rw [HSZ.out, HS0.out]) Try.prog a (by have := HSZ.out; omega)
      have hc := HW.out.cmp HC.out HSZ.out dk[q]! x
      have hgr := HW.out.grown
      have HGR := Lib.hid hgr
      rw [HX.out.2] at h2
      obtain ⟨y, hy⟩ : ∃ y, dk[q]! = y := ⟨_, rfl⟩
      rw [hy] at h1 hc
      have HY := Lib.hid hy
      have HQ := Lib.hid hq
      clear hgr hy hq
      by_cases hlv : cfT y x < 0
      · go_wp2_with fail
        go_quiet_grown (first | (go_at_fn g; refine Calls.grown_of (hc _ _)))
        go_wp2_with fail
        go_roundw
        case rel =>
          have hq := HQ.out
          have hy := (cfT_lt _ _).1 hlv
          refine ⟨q + 1, j, by go_num, rfl, by omega, by omega, by omega, fun c h1 h2 => ?_, HHI.out, HGR.out nq osq⟩
          exact wkT.le_lt (HS.out c q h1 (by omega) (by omega)) (by rw [HY.out]; exact hy)
        case measure => have hq := HQ.out; simp [intOf]; omega
      · go_wp2_with fail
        go_quiet_grown (first | (go_at_fn g; refine Calls.grown_of (hc _ _)))
        go_wp2_with fail
        go_roundw
        case rel =>
          have hq := HQ.out
          have hy : ltT y x = false := by cases h : ltT y x; rfl; exact absurd ((cfT_lt _ _).2 h) (by omega)
          refine ⟨i, q, rfl, rfl, by omega, by omega, by omega, HLO.out, fun c h1 h2 => ?_, HGR.out nq osq⟩
          exact wkT.neg _ _ _ (HS.out q c (by omega) h1 (by omega)) (by rw [HY.out]; exact hy)
        case measure => have hq := HQ.out; simp [intOf]; omega
    · have g1 : ¬ (i : Int) < (j : Int) := by omega
      obtain rfl : i = j := by omega
      obtain ⟨u, hu⟩ : ∃ u, i = a + 1 + u := ⟨i - (a + 1), by omega⟩
      have hub : u ≤ B.length := by omega
      have H1 := Lib.hid (show ∀ z ∈ B.take u, ltT z x = true from fun z hz => by
        obtain ⟨c, c1, c2, c3⟩ := mem_take_idx HD.out (m := m) (by have := HP.out; simp <;> omega) u hub hz
        rw [← c3]; exact HLO.out c c1 (by omega))
      have H2 := Lib.hid (show ∀ z ∈ B.drop u, ltT z x = false from fun z hz => by
        obtain ⟨c, c1, c2, c3⟩ := mem_drop_idx HD.out (m := m) (by have := HP.out; simp <;> omega) u hz
        rw [← c3]; exact HHI.out c (by omega) (by omega))
      clear HLO HHI HS HX
      have w3 : IntKind.i64.wrap ((i : Int) - 1) = ((a + u : Nat) : Int) := by rw [IntWalk.i64_in _ (by omega)]; omega
      go_wp2_with fail
      go_loopw [13] (fun t wr => ∃ (r : Nat) (dk' : Array HEv), t = .int .i64 ((a + r : Nat) : Int) ∧ r ≤ u ∧ dk'.size = N ∧ dk'.toList = P ++ (B.take r ++ (x :: (B.drop r ++ S))) ∧ SWK encH k6 w0 blk off dk' wr) (fun t _ => a + u - (intOf t).toNat)
      case atStart => exact ⟨0, dk, rfl, Nat.zero_le _, HSZ.out, by rw [HD.out]; simp, HW.out⟩
      case round =>
        clear HW HD HSZ
        obtain ⟨r, dk', rfl, hr, hsz, hd, hw⟩ := hrel
        have HW := Lib.hid hw
        have HSZ := Lib.hid hsz
        have HD := Lib.hid hd
        clear hw hsz hd
        by_cases hru : r < u
        · have g2 : ((a + r : Nat) : Int) < ((a + u : Nat) : Int) := by omega
          have hrb : r < B.length := by omega
          obtain ⟨z, hz⟩ : ∃ z, B[r] = z := ⟨_, rfl⟩
          have hd1 : dk'.toList = (P ++ B.take r) ++ x :: ([] ++ z :: (B.drop (r + 1) ++ S)) := by rw [HD.out, List.drop_eq_getElem_cons hrb, hz]; simp
          have hi1 : (P ++ B.take r).length = a + r := by have := HP.out; simp <;> omega
          have hj1 : (P ++ B.take r).length + 1 + ([] : List HEv).length = a + r + 1 := by rw [hi1]; rfl
          obtain ⟨la, ea⟩ := get_at hd1 hi1
          obtain ⟨lb, eb⟩ := get_at (L1 := (P ++ B.take r) ++ [x]) (L2 := B.drop (r + 1) ++ S) (x := z) (i := a + r + 1) (by rw [hd1]; simp) (by simp at hi1 ⊢; omega)
          have HSW := Lib.hid (swp_list hd1 hi1 hj1)
          have TB := Lib.hid (show B.take (r + 1) = B.take r ++ [z] by rw [← hz, List.take_append_getElem])
          have h1 : Sem.run Try.prog (loadCellsFrom ⟨blk, off + (a + r) * 6, none⟩ 0 k6 #[]) wr.drew = .ok (encH dk'[(a + r)]!).toArray wr.drew := HW.out.ld1 HR.out (by rw [HSZ.out, HS0.out]) Try.prog (a + r) la
          have h2 : Sem.run Try.prog (loadCellsFrom ⟨blk, off + (a + r + 1) * 6, none⟩ 0 k6 #[]) wr.drew = .ok (encH dk'[(a + r + 1)]!).toArray wr.drew := HW.out.ld1 HR.out (by rw [HSZ.out, HS0.out]) Try.prog (a + r + 1) lb
          have s1 : Sem.run Try.prog (storeCells ⟨blk, off + (a + r) * 6, none⟩ (encH z) 0) wr.drew = .ok () (wr.drew.setCells blk (off + (a + r) * 6) (encH z)) := HW.out.st1 HR.out (by rw [HSZ.out, HS0.out]) Try.prog (a + r) la z
          have s2 : Sem.run Try.prog (storeCells ⟨blk, off + (a + r + 1) * 6, none⟩ (encH x) 0) (wr.drew.setCells blk (off + (a + r) * 6) (encH z)) = .ok () ((wr.drew.setCells blk (off + (a + r) * 6) (encH z)).setCells blk (off + (a + r + 1) * 6) (encH x)) := HW.out.st2 HR.out (by rw [HSZ.out, HS0.out]) Try.prog (a + r) (a + r + 1) la lb z x
          have sw : SWK encH k6 w0 blk off (swp dk' (a + r) (a + r + 1)) ((wr.drew.setCells blk (off + (a + r) * 6) (encH dk'[(a + r + 1)]!)).setCells blk (off + (a + r + 1) * 6) (encH dk'[(a + r)]!)) := HW.out.swapped HR.out (a + r) (a + r + 1) la lb
          rw [ea] at h1 sw
          rw [eb] at h2 sw
          have SW' := Lib.hid sw
          have hsJ : (encH x).length = k6 := rfl
          have hsP : (encH z).length = k6 := rfl
          obtain ⟨cU, hcU⟩ : ∃ c, c = encH x := ⟨_, rfl⟩
          obtain ⟨cV, hcV⟩ : ∃ c, c = encH z := ⟨_, rfl⟩
          rw [← hcU] at h1 s2 SW' hsJ
          rw [← hcV] at h2 s1 s2 SW' hsP
          have zI : (((a + r) : Nat) : Int) < (N : Int) := by have := HSZ.out; omega
          have zJ : (((a + r + 1) : Nat) : Int) < (N : Int) := by have := HSZ.out; omega
          clear hcU hcV sw
          clear hd1 hi1 hj1 la ea lb eb hz hrb
          go_wp2_with fail
          go_big_region_o
          all_goals go_wp2_with fail
          refine ⟨⟨r + 1, swp dk' (a + r) (a + r + 1), by go_num, by omega, by rw [size_swp]; exact HSZ.out, ?_, SW'.out⟩, by simp [intOf]; omega⟩
          rw [HSW.out, TB.out]; simp
        · have g2 : ¬ ((a + r : Nat) : Int) < ((a + u : Nat) : Int) := by omega
          obtain rfl : r = u := by omega
          go_wp2_with fail
          (try simp only [Exit.inBlock, Exit.then])
          refine bodyPost_ret (results_none rfl _ _ _) rfl ?_
          refine ⟨rfl, dk', HSZ.out, ?_, HW.out⟩
          rw [HD.out]
          have := mrg_one_left (lt := ltT) x (B.take r) (B.drop r) H1.out H2.out
          rw [List.take_append_drop] at this
          rw [this]; simp
set_option maxRecDepth 100000 in
set_option maxHeartbeats 800000 in
theorem sr_sym2 {w0 W : World} {blk off cap N g : Nat} {cb : Array Value} {dk d0 : Array HEv} (eg : ∀ args w, (callFunc g args).run Try.prog w = .ok (.enter g args) w) (hC : CmpLays Try.prog g cb encH k6 cfT blk off N w0) (R : RowK encH k6 w0 blk off d0) (hs0 : d0.size = N) (hs : dk.size = N) (hN : N ≤ 1000000) (h : SWK encH k6 w0 blk off dk W) (P A S : List HEv) (y : HEv) (hd : dk.toList = P ++ (A ++ (y :: S))) (hA : Srt ltT A) (hA2 : 2 ≤ A.length) (a m b : Nat) (ha : P.length = a) (hm : a + A.length = m) (hb : m + 1 = b) :
    Calls Try.prog 56 #[.slice (some ⟨blk, off, none⟩) N cap, .int .i64 (a : Nat), .int .i64 (m : Nat), .int .i64 (b : Nat), .func (.func g) #[] cb] W fun e w' =>
      e = .returned (.tuple #[]) ∧ ∃ dk', dk'.size = N ∧ dk'.toList = P ++ (mrg ltT A [y] ++ S) ∧ SWK encH k6 w0 blk off dk' w' := by
  have mixed : Try.prog.follows .mixedOrders = true := by kernel_rfl
  have hlen : b + S.length = N := by have := congrArg List.length hd; simp at this; omega
  have HS := Lib.hid fun p q => srt_idx wkT hd (m := a) ha hA p q
  have HX := Lib.hid (get_at (L1 := P ++ A) (L2 := S) (x := y) (i := m) (by rw [hd]; simp) (by simp <;> omega))
  have HR := Lib.hid R
  have HS0 := Lib.hid hs0
  have H0 := Lib.hid h
  have HD := Lib.hid hd
  have HSZ := Lib.hid hs
  have HC := Lib.hid hC
  have HP := Lib.hid ha
  have HM := Lib.hid hm
  clear R hs0 h hd hs hC ha hA
  have g0 : IntKind.i64.wrap ((m : Int) - (a : Int)) = ((A.length : Nat) : Int) := by rw [IntWalk.i64_in _ (by omega)]; omega
  have g00 : ¬ ((A.length : Nat) : Int) = 1 := by omega
  have g02 : (((A.length : Nat) : Int) == 1) = false := by simp; omega
  have g01 : IntKind.i64.wrap ((b : Int) - (m : Int)) = 1 := by rw [IntWalk.i64_in _ (by omega)]; omega
  go_enter Try.func56, Try.ntmps56
  go_wp2_with fail
  go_loopw [14, 15] (fun t u wr => ∃ (i j : Nat), t = .int .i64 i ∧ u = .int .i64 j ∧ a ≤ i ∧ i ≤ j ∧ j ≤ m ∧ (∀ c, a ≤ c → c < i → ltT y dk[c]! = false) ∧ (∀ c, j ≤ c → c < m → ltT y dk[c]! = true) ∧ SWK encH k6 w0 blk off dk wr) (fun t u _ => (intOf u).toNat - (intOf t).toNat)
  case atStart => exact ⟨a, m, rfl, rfl, by omega, by omega, by omega, fun c h1 h2 => absurd h2 (by omega), fun c h1 h2 => absurd h2 (by omega), H0.out⟩
  case round =>
    clear H0
    obtain ⟨i, j, rfl, rfl, hi, hij, hj, hlo, hhi, hw⟩ := hrel
    have HLO := Lib.hid hlo
    have HHI := Lib.hid hhi
    have HW := Lib.hid hw
    clear hlo hhi hw
    by_cases hlt : i < j
    · have g1 : (i : Int) < (j : Int) := by omega
      obtain ⟨q, hq⟩ : ∃ q, (i + j) / 2 = q := ⟨_, rfl⟩
      have w1 : IntKind.i64.wrap ((i : Int) + (j : Int)) = (i : Int) + (j : Int) := IntWalk.i64_in _ (by omega)
      have w2 : ((i : Int) + (j : Int)) / 2 = (q : Int) := by omega
      have z1 : (q : Int) < (N : Int) := by omega
      have z2 : (m : Int) < (N : Int) := by omega
      have h1 : ∀ n' os', Sem.run Try.prog (loadCellsFrom ⟨blk, off + q * 6, none⟩ 0 k6 #[]) (grow (wr.drewN n') os') = .ok (encH dk[q]!).toArray (grow (wr.drewN n') os') := HW.out.ld HR.out (by rw [HSZ.out, HS0.out]) Try.prog q (by have := HSZ.out; omega)
      have h2 : ∀ n' os', Sem.run Try.prog (loadCellsFrom ⟨blk, off + m * 6, none⟩ 0 k6 #[]) (grow (wr.drewN n') os') = .ok (encH dk[m]!).toArray (grow (wr.drewN n') os') := HW.out.ld HR.out (by rw [HSZ.out, HS0.out]) Try.prog m (by have := HSZ.out; omega)
      have hc := HW.out.cmp HC.out HSZ.out y dk[q]!
      have hgr := HW.out.grown
      have HGR := Lib.hid hgr
      rw [HX.out.2] at h2
      obtain ⟨x, hy⟩ : ∃ x, dk[q]! = x := ⟨_, rfl⟩
      rw [hy] at h1 hc
      have HY := Lib.hid hy
      have HQ := Lib.hid hq
      clear hgr hy hq
      by_cases hlv : cfT y x < 0
      · go_wp2_with fail
        go_quiet_grown (first | (go_at_fn g; refine Calls.grown_of (hc _ _)))
        go_wp2_with fail
        go_roundw
        case rel =>
          have hq := HQ.out
          have hy := (cfT_lt _ _).1 hlv
          refine ⟨i, q, rfl, rfl, by omega, by omega, by omega, HLO.out, fun c h1 h2 => ?_, HGR.out nq osq⟩
          exact wkT.lt_le (by rw [← HY.out] at hy; exact hy) (HS.out q c (by omega) h1 (by have := HM.out; omega))
        case measure => have hq := HQ.out; simp [intOf]; omega
      · have hlv' : decide (cfT y x < 0) = false := decide_eq_false hlv
        have HLV := Lib.hid hlv
        clear hlv
        go_wp2_with fail
        go_quiet_grown (first | (go_at_fn g; refine Calls.grown_of (hc _ _)))
        go_wp2_with fail
        go_roundw
        case rel =>
          have hq := HQ.out
          have hlv := HLV.out
          have hy : ltT y x = false := by cases h : ltT y x; rfl; exact absurd ((cfT_lt _ _).2 h) (by omega)
          refine ⟨q + 1, j, by go_num, rfl, by omega, by omega, by omega, fun c h1 h2 => ?_, HHI.out, HGR.out nq osq⟩
          exact wkT.neg _ _ _ (by rw [← HY.out] at hy; exact hy) (HS.out c q h1 (by omega) (by have := HM.out; omega))
        case measure => have hq := HQ.out; simp [intOf]; omega
    · have g1 : ¬ (i : Int) < (j : Int) := by omega
      obtain rfl : i = j := by omega
      obtain ⟨u, hu⟩ : ∃ u, i = a + u := ⟨i - a, by omega⟩
      have HU := Lib.hid hu
      have hub : u ≤ A.length := by have := HM.out; omega
      have H1 := Lib.hid (show ∀ z ∈ A.take u, ltT y z = false from fun z hz => by
        obtain ⟨c, c1, c2, c3⟩ := mem_take_idx HD.out (m := a) HP.out u hub hz
        rw [← c3]; exact HLO.out c c1 (by omega))
      have H2 := Lib.hid (show ∀ z ∈ A.drop u, ltT y z = true from fun z hz => by
        obtain ⟨c, c1, c2, c3⟩ := mem_drop_idx HD.out (m := a) HP.out u hz
        rw [← c3]; exact HHI.out c (by omega) (by have := HM.out; omega))
      clear HLO HHI HS HX hu
      go_wp2_with fail
      go_loopw [17] (fun t wr => ∃ (k : Nat) (dk' : Array HEv), t = .int .i64 (k : Nat) ∧ i ≤ k ∧ k ≤ m ∧ dk'.size = N ∧ dk'.toList = P ++ (A.take (k - a) ++ (y :: (A.drop (k - a) ++ S))) ∧ SWK encH k6 w0 blk off dk' wr) (fun t _ => (intOf t).toNat)
      case atStart => exact ⟨m, dk, rfl, by omega, Nat.le_refl _, HSZ.out, by have := HM.out; rw [HD.out, List.take_of_length_le (by omega), List.drop_eq_nil_of_le (by omega)]; simp, HW.out⟩
      case round =>
        clear HW HD HSZ
        obtain ⟨k, dk', rfl, hr, hrm, hsz, hd, hw⟩ := hrel
        have HW := Lib.hid hw
        have HSZ := Lib.hid hsz
        have HD := Lib.hid hd
        clear hw hsz hd
        by_cases hru : i < k
        · obtain ⟨kp, rfl⟩ : ∃ k', k = k' + 1 := ⟨k - 1, by omega⟩
          have g2 : (i : Int) < (kp : Int) + 1 := by omega
          have hrb : kp - a < A.length := by have := HM.out; omega
          obtain ⟨z, hz⟩ : ∃ z, A[kp - a] = z := ⟨_, rfl⟩
          have hd1 : dk'.toList = (P ++ A.take (kp - a)) ++ z :: ([] ++ y :: (A.drop (kp - a + 1) ++ S)) := by
            rw [HD.out, show kp + 1 - a = kp - a + 1 by omega, ← List.take_append_getElem hrb, hz]; simp
          have hi1 : (P ++ A.take (kp - a)).length = kp := by have := HP.out; simp <;> omega
          have hj1 : (P ++ A.take (kp - a)).length + 1 + ([] : List HEv).length = kp + 1 := by rw [hi1]; rfl
          obtain ⟨lb, eb⟩ := get_at hd1 hi1
          obtain ⟨la, ea⟩ := get_at (L1 := (P ++ A.take (kp - a)) ++ [z]) (L2 := A.drop (kp - a + 1) ++ S) (x := y) (i := kp + 1) (by rw [hd1]; simp) (by simp at hi1 ⊢; omega)
          have HSW := Lib.hid (swp_list' hd1 hi1 hj1)
          have TB := Lib.hid (show A.drop (kp - a) = z :: A.drop (kp - a + 1) by rw [← hz, ← List.drop_eq_getElem_cons])
          have h1 : Sem.run Try.prog (loadCellsFrom ⟨blk, off + (kp + 1) * 6, none⟩ 0 k6 #[]) wr.drew = .ok (encH dk'[(kp + 1)]!).toArray wr.drew := HW.out.ld1 HR.out (by rw [HSZ.out, HS0.out]) Try.prog (kp + 1) la
          have h2 : Sem.run Try.prog (loadCellsFrom ⟨blk, off + kp * 6, none⟩ 0 k6 #[]) wr.drew = .ok (encH dk'[kp]!).toArray wr.drew := HW.out.ld1 HR.out (by rw [HSZ.out, HS0.out]) Try.prog kp lb
          have s1 : Sem.run Try.prog (storeCells ⟨blk, off + (kp + 1) * 6, none⟩ (encH z) 0) wr.drew = .ok () (wr.drew.setCells blk (off + (kp + 1) * 6) (encH z)) := HW.out.st1 HR.out (by rw [HSZ.out, HS0.out]) Try.prog (kp + 1) la z
          have s2 : Sem.run Try.prog (storeCells ⟨blk, off + kp * 6, none⟩ (encH y) 0) (wr.drew.setCells blk (off + (kp + 1) * 6) (encH z)) = .ok () ((wr.drew.setCells blk (off + (kp + 1) * 6) (encH z)).setCells blk (off + kp * 6) (encH y)) := HW.out.st2 HR.out (by rw [HSZ.out, HS0.out]) Try.prog (kp + 1) kp la lb z y
          have sw : SWK encH k6 w0 blk off (swp dk' (kp + 1) kp) ((wr.drew.setCells blk (off + (kp + 1) * 6) (encH dk'[kp]!)).setCells blk (off + kp * 6) (encH dk'[(kp + 1)]!)) := HW.out.swapped HR.out (kp + 1) kp la lb
          rw [ea] at h1 sw
          rw [eb] at h2 sw
          have SW' := Lib.hid sw
          have hsJ : (encH y).length = k6 := rfl
          have hsP : (encH z).length = k6 := rfl
          obtain ⟨cU, hcU⟩ : ∃ c, c = encH y := ⟨_, rfl⟩
          obtain ⟨cV, hcV⟩ : ∃ c, c = encH z := ⟨_, rfl⟩
          rw [← hcU] at h1 s2 SW' hsJ
          rw [← hcV] at h2 s1 s2 SW' hsP
          have zI : (((kp + 1) : Nat) : Int) < (N : Int) := by have := HSZ.out; omega
          have zJ : ((kp : Nat) : Int) < (N : Int) := by have := HSZ.out; omega
          clear hcU hcV sw
          have w4 : IntKind.i64.wrap (kp : Int) = (kp : Int) := IntWalk.i64_in _ (by omega)
          have w5 : ((kp : Int) + 1).toNat = kp + 1 := by omega
          have HIK := Lib.hid hru
          clear hd1 hi1 hj1 la ea lb eb hz hrb hru hr
          go_wp2_with fail
          go_big_region_o
          all_goals go_wp2_with fail
          have hru := HIK.out
          refine ⟨⟨kp, swp dk' (kp + 1) kp, by go_num, by omega, by omega, by rw [size_swp]; exact HSZ.out, ?_, SW'.out⟩, by simp [intOf]⟩
          rw [HSW.out, TB.out]; simp
        · have g2 : ¬ (i : Int) < (k : Int) := by omega
          obtain rfl : i = k := by omega
          go_wp2_with fail
          (try simp only [Exit.inBlock, Exit.then])
          refine bodyPost_ret (results_none rfl _ _ _) rfl ?_
          refine ⟨rfl, dk', HSZ.out, ?_, HW.out⟩
          rw [HD.out, show i - a = u by have := HU.out; omega]
          have := mrg_one_right (lt := ltT) y (A.take u) (A.drop u) H1.out H2.out
          rw [List.take_append_drop] at this
          rw [this]; simp
end
end Go.Proofs.Ytaeiajodbpgbbaa
