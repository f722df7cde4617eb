/- slices.SortStableFunc's family: symMerge. -/
import Derived.Test.YtaeiajodbpgbbaaSrt2
namespace Go.Proofs.Ytaeiajodbpgbbaa
open Go.RowKit Go.Sort Go.Shelf Go.Lib

theorem srt_take {lt : HEv → HEv → Bool} {l : List HEv} (h : Srt lt l) (n : Nat) : Srt lt (l.take n) := List.Pairwise.sublist (List.take_sublist n l) h
theorem srt_drop {lt : HEv → HEv → Bool} {l : List HEv} (h : Srt lt l) (n : Nat) : Srt lt (l.drop n) := List.Pairwise.sublist (List.drop_sublist n l) h
def SLo (dk : Array HEv) (n lo s : Nat) : Prop := ∀ c, lo ≤ c → c < s → ltT dk[n - 1 - c]! dk[c]! = false
def SHi (dk : Array HEv) (n r hi : Nat) : Prop := ∀ c, r ≤ c → c < hi → ltT dk[n - 1 - c]! dk[c]! = true
/-- What the search finds: nobody of A's beginning is above B's end, and all of B's beginning is below A's end. -/
theorem sym_cross {d : Array HEv} {P A B S : List HEv} (hd : d.toList = P ++ (A ++ (B ++ S))) (hA : Srt ltT A) (hB : Srt ltT B) {a m b n lo hi s e : Nat} (ha : P.length = a) (hm : a + A.length = m) (hb : m + B.length = b)
    (c1 : a ≤ lo) (c2 : lo ≤ s) (c3 : s ≤ hi) (c4 : hi ≤ m) (c5 : n ≤ b + lo) (c6 : m + hi ≤ n) (c7 : lo = a ∨ n = b + lo) (c8 : hi = m ∨ m + hi = n) (he : s + e = n)
    (h1 : ∀ c, lo ≤ c → c < s → ltT d[n - 1 - c]! d[c]! = false) (h2 : ∀ c, s ≤ c → c < hi → ltT d[n - 1 - c]! d[c]! = true) :
    (∀ x ∈ A.take (s - a), ∀ y ∈ B.drop (e - m), ltT y x = false) ∧ (∀ y ∈ B.take (e - m), ∀ x ∈ A.drop (s - a), ltT y x = true) := by
  have hd2 : d.toList = (P ++ A) ++ (B ++ S) := by rw [hd]; simp
  have hl2 : (P ++ A).length = m := by simp; omega
  have sA := fun p q => srt_idx wkT hd (m := a) ha hA p q
  have sB := fun p q => srt_idx wkT hd2 (m := m) hl2 hB p q
  constructor
  · intro x hx y hy
    obtain ⟨i, i1, i2, rfl⟩ := mem_take_idx hd ha (s - a) (by omega) hx
    obtain ⟨j, j1, j2, rfl⟩ := mem_drop_idx hd2 hl2 (e - m) hy
    rcases Nat.lt_or_ge lo s with z | z
    · have h := h1 (s - 1) (by omega) (by omega)
      rw [show n - 1 - (s - 1) = e by omega] at h
      exact wkT.neg _ _ _ (wkT.neg _ _ _ (sB e j (by omega) (by omega) (by omega)) h) (sA i (s - 1) (by omega) (by omega) (by omega))
    · omega
  · intro y hy x hx
    obtain ⟨j, j1, j2, rfl⟩ := mem_take_idx hd2 hl2 (e - m) (by omega) hy
    obtain ⟨i, i1, i2, rfl⟩ := mem_drop_idx hd ha (s - a) hx
    rcases Nat.lt_or_ge s hi with z | z
    · have h := h2 s (by omega) z
      rw [show n - 1 - s = e - 1 by omega] at h
      exact wkT.lt_le (wkT.le_lt (sB j (e - 1) (by omega) (by omega) (by omega)) h) (sA s i (by omega) (by omega) (by omega))
    · omega
section
attribute [local go_sem ↓] sz6
set_option maxRecDepth 100000 in
set_option maxHeartbeats 4000000 in
theorem sr_symG {w0 W : World} {blk off cap N g : Nat} {cb : Array Value} {dk d0 : Array HEv} (eg : ∀ args w, (callFunc g args).run Try.prog w = .ok (.enter g args) w) (hC : CmpLays Try.prog g cb encH k6 cfT blk off N w0) (R : RowK encH k6 w0 blk off d0) (hs0 : d0.size = N) (hN : N ≤ 1000000) (hs : dk.size = N) (h : SWK encH k6 w0 blk off dk W) (P A B S : List HEv) (hd : dk.toList = P ++ (A ++ (B ++ S))) (hA : Srt ltT A) (hB : Srt ltT B) (hlA : 2 ≤ A.length) (hlB : 2 ≤ B.length) (a m b : Nat) (ha : P.length = a) (hm : a + A.length = m) (hb : m + B.length = b)
    (ih : ∀ (W' : World) (dk' : Array HEv) (P' A' B' S' : List HEv), A'.length + B'.length < A.length + B.length → A' ≠ [] → B' ≠ [] → Srt ltT A' → Srt ltT B' → dk'.size = N → SWK encH k6 w0 blk off dk' W' → dk'.toList = P' ++ (A' ++ (B' ++ S')) → ∀ a' m' b' : Nat, P'.length = a' → a' + A'.length = m' → m' + B'.length = b' →
      Calls Try.prog 56 #[.slice (some ⟨blk, off, none⟩) N cap, .int .i64 (a' : Nat), .int .i64 (m' : Nat), .int .i64 (b' : Nat), .func (.func g) #[] cb] W' fun e w' =>
        e = .returned (.tuple #[]) ∧ ∃ dk2, dk2.size = N ∧ dk2.toList = P' ++ (mrg ltT A' B' ++ S') ∧ SWK encH k6 w0 blk off dk2 w') :
    Calls Try.prog 56 #[.slice (some ⟨blk, off, none⟩) N cap, .int .i64 (a : Nat), .int .i64 (m : Nat), .int .i64 (b : Nat), .func (.func g) #[] cb] W fun e w' =>
      e = .returned (.tuple #[]) ∧ ∃ dk', dk'.size = N ∧ dk'.toList = P ++ (mrg ltT A B ++ S) ∧ SWK encH k6 w0 blk off dk' w' := by
  have mixed : Try.prog.follows .mixedOrders = true := by kernel_rfl
  have hlen : b + S.length = N := by have := congrArg List.length hd; simp at this; omega
  have IH := Lib.hid ih
  clear ih
  have RO := Lib.hid fun (W' : World) (dk' : Array HEv) (h' : SWK encH k6 w0 blk off dk' W') (hs' : dk'.size = N) P X Y S => sr_rotate (cap := cap) R hs0 hs' hN h' P X Y S
  have HSA := Lib.hid fun p q => srt_idx wkT hd (m := a) ha hA p q
  have HSB := Lib.hid fun p q => srt_idx wkT (L1 := P ++ A) (L2 := S) (d := dk) (by rw [hd]; simp) (m := m) (by simp; omega) hB p q
  have HA := Lib.hid hA
  have HB := Lib.hid hB
  have HR := Lib.hid R
  have HS0 := Lib.hid hs0
  have H0 := Lib.hid h
  have HD := Lib.hid hd
  have HSZ := Lib.hid hs
  have HC := Lib.hid hC
  have HP := Lib.hid ha
  obtain ⟨mid, hmid⟩ : ∃ mid, (a + b) / 2 = mid := ⟨_, rfl⟩
  obtain ⟨n, hn⟩ : ∃ n, mid + m = n := ⟨_, rfl⟩
  obtain ⟨p, hp⟩ : ∃ p, n - 1 = p := ⟨_, rfl⟩
  have g0 : IntKind.i64.wrap ((m : Int) - (a : Int)) = ((A.length : Nat) : Int) := by rw [IntWalk.i64_in _ (by omega)]; omega
  have g02 : (((A.length : Nat) : Int) == 1) = false := by simp; omega
  have g1 : IntKind.i64.wrap ((b : Int) - (m : Int)) = ((B.length : Nat) : Int) := by rw [IntWalk.i64_in _ (by omega)]; omega
  have g12 : (((B.length : Nat) : Int) == 1) = false := by simp; omega
  have v1 : IntKind.i64.wrap ((a : Int) + (b : Int)) = (a : Int) + (b : Int) := IntWalk.i64_in _ (by omega)
  have v2 : ((a : Int) + (b : Int)) / 2 = (mid : Int) := by omega
  have v6 : IntKind.u64.wrap ((a : Int) + (b : Int)) = (a : Int) + (b : Int) := by rw [IntKind.wrap_u64]; omega
  have v7 : IntKind.i64.wrap (mid : Int) = (mid : Int) := IntWalk.i64_in _ (by omega)
  have v3 : IntKind.i64.wrap ((mid : Int) + (m : Int)) = (n : Int) := by rw [IntWalk.i64_in _ (by omega)]; omega
  have v4 : IntKind.i64.wrap ((n : Int) - 1) = (p : Int) := by rw [IntWalk.i64_in _ (by omega)]; omega
  obtain ⟨lo, hi, hlh⟩ : ∃ lo hi, (mid < m ∧ lo = n - b ∧ hi = mid) ∨ (m ≤ mid ∧ lo = a ∧ hi = m) := by
    rcases Nat.lt_or_ge mid m with z | z
    · exact ⟨_, _, .inl ⟨z, rfl, rfl⟩⟩
    · exact ⟨_, _, .inr ⟨z, rfl, rfl⟩⟩
  have HN := Lib.hid (show a ≤ lo ∧ lo ≤ hi ∧ hi ≤ m ∧ n ≤ b + lo ∧ m + hi ≤ n ∧ hi ≤ mid ∧ (lo = a ∨ n = b + lo) ∧ (hi = m ∨ m + hi = n) ∧ n - 1 = p ∧ mid + m = n ∧ b + S.length = N ∧ a + A.length = m ∧ m + B.length = b ∧ N ≤ 1000000 ∧ 2 ≤ A.length ∧ 2 ≤ B.length ∧ mid < b ∧ a < mid ∧ 1 ≤ n from by
    rcases hlh with ⟨z, rfl, rfl⟩ | ⟨z, rfl, rfl⟩ <;> omega)
  clear R hs0 h hd hs hC ha hA hB hlen hn hp hmid
  rcases hlh with ⟨hz, h1, h2⟩ | ⟨hz, h1, h2⟩
  · have gz : (mid : Int) < (m : Int) := by omega
    have v5 : IntKind.i64.wrap ((n : Int) - (b : Int)) = (lo : Int) := by have := HN.out; rw [IntWalk.i64_in _ (by omega)]; omega
    have E2 := Lib.hid h2
    clear h1 h2 hm hb hlA hlB hz
    go_enter Try.func56, Try.ntmps56
    go_wp2_with fail
    go_loopw [20, 21] (fun t u wr => ∃ (s r : Nat), t = .int .i64 s ∧ u = .int .i64 r ∧ lo ≤ s ∧ s ≤ r ∧ r ≤ hi ∧ SLo dk n lo s ∧ SHi dk n r hi ∧ SWK encH k6 w0 blk off dk wr) (fun t u _ => (intOf u).toNat - (intOf t).toNat)
    case atStart => have := HN.out; exact ⟨lo, hi, rfl, (by rw [E2.out]), by omega, by omega, by omega, fun c h1 h2 => absurd h2 (by omega), fun c h1 h2 => absurd h2 (by omega), H0.out⟩
    case round =>
      clear H0
      obtain ⟨s, r, rfl, rfl, hi1, hij, hj, hlo, hhi, hw⟩ := hrel
      have HLO := Lib.hid hlo
      have HHI := Lib.hid hhi
      have HW := Lib.hid hw
      clear hlo hhi hw
      by_cases hlt : s < r
      · have g1 : (s : Int) < (r : Int) := by omega
        obtain ⟨q, hq⟩ : ∃ q, (s + r) / 2 = q := ⟨_, rfl⟩
        obtain ⟨pq, hpq⟩ : ∃ pq, n - 1 - q = pq := ⟨_, rfl⟩
        have w1 : IntKind.i64.wrap ((s : Int) + (r : Int)) = (s : Int) + (r : Int) := IntWalk.i64_in _ (by have := HN.out; omega)
        have w2 : ((s : Int) + (r : Int)) / 2 = (q : Int) := by omega
        have w6 : IntKind.u64.wrap ((s : Int) + (r : Int)) = (s : Int) + (r : Int) := by have := HN.out; rw [IntKind.wrap_u64]; omega
        have w7 : IntKind.i64.wrap (q : Int) = (q : Int) := IntWalk.i64_in _ (by have := HN.out; omega)
        have w3 : IntKind.i64.wrap ((p : Int) - (q : Int)) = (pq : Int) := by have := HN.out; rw [IntWalk.i64_in _ (by omega)]; omega
        have z1 : (q : Int) < (N : Int) := by have := HN.out; omega
        have z2 : (pq : Int) < (N : Int) := by have := HN.out; omega
        have h1 : ∀ n' os', Sem.run Try.prog (loadCellsFrom ⟨blk, off + q * 6, none⟩ 0 k6 #[]) (grow (wr.drewN n') os') = .ok (encH dk[q]!).toArray (grow (wr.drewN n') os') := HW.out.ld HR.out (by rw [HSZ.out, HS0.out]) Try.prog q (by have := HSZ.out; omega)
        have h2 : ∀ n' os', Sem.run Try.prog (loadCellsFrom ⟨blk, off + pq * 6, none⟩ 0 k6 #[]) (grow (wr.drewN n') os') = .ok (encH dk[pq]!).toArray (grow (wr.drewN n') os') := HW.out.ld HR.out (by rw [HSZ.out, HS0.out]) Try.prog pq (by have := HSZ.out; omega)
        have hc := HW.out.cmp HC.out HSZ.out dk[pq]! dk[q]!
        have HGR := Lib.hid HW.out.grown
        obtain ⟨x, hx⟩ : ∃ x, dk[q]! = x := ⟨_, rfl⟩
        obtain ⟨y, hy⟩ : ∃ y, dk[pq]! = y := ⟨_, rfl⟩
        rw [hx] at h1 hc
        rw [hy] at h2 hc
        have HX := Lib.hid hx
        have HY := Lib.hid hy
        have HQ := Lib.hid (And.intro hq hpq)
        clear hx hy hq hpq
        by_cases hlv : cfT y x < 0
        · go_wp2_with fail
          go_quiet_grown (first | (go_at_fn g; refine Calls.grown_of (hc _ _)))
          go_wp2_with fail
          go_roundw
          case rel =>
            have hq := HQ.out
            have hy := (cfT_lt _ _).1 hlv
            have hn := HN.out
            refine ⟨s, q, rfl, rfl, by omega, by omega, by omega, HLO.out, fun c h1 h2 => ?_, HGR.out nq osq⟩
            rw [← HX.out, ← HY.out] at hy
            exact wkT.lt_le (wkT.le_lt (HSB.out (n - 1 - c) pq (by omega) (by omega) (by omega)) hy) (HSA.out q c (by omega) h1 (by omega))
          case measure => have hq := HQ.out; simp [intOf]; omega
        · have hlv' : decide (cfT y x < 0) = false := decide_eq_false hlv
          have HLV := Lib.hid hlv
          clear hlv
          go_wp2_with fail
          go_quiet_grown (first | (go_at_fn g; refine Calls.grown_of (hc _ _)))
          go_wp2_with fail
          go_roundw
          case rel =>
            have hq := HQ.out
            have hlv := HLV.out
            have hn := HN.out
            have hy : ltT y x = false := by cases h : ltT y x; rfl; exact absurd ((cfT_lt _ _).2 h) (by omega)
            refine ⟨q + 1, r, by go_num, rfl, by omega, by omega, by omega, fun c h1 h2 => ?_, HHI.out, HGR.out nq osq⟩
            rw [← HX.out, ← HY.out] at hy
            exact wkT.neg _ _ _ (wkT.neg _ _ _ (HSB.out pq (n - 1 - c) (by omega) (by omega) (by omega)) hy) (HSA.out c q (by omega) (by omega) (by omega))
          case measure => have hq := HQ.out; simp [intOf]; omega
      · have g1 : ¬ (s : Int) < (r : Int) := by omega
        obtain rfl : s = r := by omega
        obtain ⟨e, he⟩ : ∃ e, n - s = e := ⟨_, rfl⟩
        have w4 : IntKind.i64.wrap ((n : Int) - (s : Int)) = (e : Int) := by have := HN.out; rw [IntWalk.i64_in _ (by omega)]; omega
        have hn := HN.out
        obtain ⟨x1, x2⟩ := sym_cross HD.out HA.out HB.out (a := a) (m := m) (b := b) (n := n) (lo := lo) (hi := hi) (s := s) (e := e) HP.out (by omega) (by omega) (by omega) hi1 hj (by omega) (by omega) (by omega) (by omega) (by omega) (by omega) HLO.out HHI.out
        obtain ⟨A1, hA1⟩ : ∃ A1, A.take (s - a) = A1 := ⟨_, rfl⟩
        obtain ⟨A2, hA2⟩ : ∃ A2, A.drop (s - a) = A2 := ⟨_, rfl⟩
        obtain ⟨B1, hB1⟩ : ∃ B1, B.take (e - m) = B1 := ⟨_, rfl⟩
        obtain ⟨B2, hB2⟩ : ∃ B2, B.drop (e - m) = B2 := ⟨_, rfl⟩
        have eA : A = A1 ++ A2 := by rw [← hA1, ← hA2, List.take_append_drop]
        have eB : B = B1 ++ B2 := by rw [← hB1, ← hB2, List.take_append_drop]
        have HA1 := Lib.hid (show Srt ltT A1 from hA1 ▸ srt_take HA.out _)
        have HA2 := Lib.hid (show Srt ltT A2 from hA2 ▸ srt_drop HA.out _)
        have HB1 := Lib.hid (show Srt ltT B1 from hB1 ▸ srt_take HB.out _)
        have HB2 := Lib.hid (show Srt ltT B2 from hB2 ▸ srt_drop HB.out _)
        have HLN := Lib.hid (show A1.length = s - a ∧ A2.length = m - s ∧ B1.length = e - m ∧ B2.length = b - e ∧ s + e = n ∧ a ≤ s ∧ s ≤ m ∧ s ≤ mid ∧ m ≤ e ∧ mid ≤ e ∧ e ≤ b ∧ e - m = mid - s ∧ m - s = e - mid from by
          rw [← hA1, ← hA2, ← hB1, ← hB2]; simp only [List.length_take, List.length_drop]; omega)
        have HM := Lib.hid (show mrg ltT A B = mrg ltT A1 B1 ++ mrg ltT A2 B2 from by
          rw [eA, eB]; exact mrg_parts _ A1 B1 A2 B2 (Nat.le_refl _) (by rw [← hA1, ← hB2]; exact x1) (by rw [← hB1, ← hA2]; exact x2))
        have hde : dk.toList = P ++ (A1 ++ (A2 ++ (B1 ++ (B2 ++ S)))) := by rw [HD.out, eA, eB]; simp
        have HDE := Lib.hid hde
        clear x1 x2 hA1 hA2 hB1 hB2 eA eB hde HLO HHI HD HA HB HSA HSB hn hj hi1 he hij
        by_cases hq1 : s < m ∧ m < e
        · have k1 : (s : Int) < (m : Int) := by omega
          have k2 : (m : Int) < (e : Int) := by omega
          go_wp2_with fail
          with_reducible refine (RO.out _ _ HW.out HSZ.out (P ++ A1) A2 B1 (B2 ++ S) (by rw [HDE.out]; simp) s m e (by have := HLN.out; have := HP.out; simp; omega) (by have := HLN.out; omega) (by have := HLN.out; omega) (List.length_pos_iff.1 (by have := HLN.out; have := HN.out; omega)) (List.length_pos_iff.1 (by have := HLN.out; have := HN.out; omega)) _).mono ?_
          rintro ee w5 ⟨rfl, dk5, hs5, hd5, hw5⟩
          have HS5 := Lib.hid hs5
          have HD5 := Lib.hid (show dk5.toList = P ++ (A1 ++ (B1 ++ (A2 ++ (B2 ++ S)))) by rw [hd5]; simp)
          have HW5 := Lib.hid hw5
          clear hs5 hd5 hw5 HW HSZ HDE
          by_cases hq2 : a < s ∧ s < mid
          · have k3 : (a : Int) < (s : Int) := by omega
            have k4 : (s : Int) < (mid : Int) := by omega
            go_wp2_with fail
            with_reducible refine (IH.out _ _ P A1 B1 (A2 ++ (B2 ++ S)) (by have := HLN.out; have := HN.out; omega) (List.length_pos_iff.1 (by have := HLN.out; have := HN.out; omega)) (List.length_pos_iff.1 (by have := HLN.out; have := HN.out; omega)) HA1.out HB1.out HS5.out HW5.out HD5.out a s mid HP.out (by have := HLN.out; omega) (by have := HLN.out; have := HN.out; omega)).mono ?_
            rintro ee w6 ⟨rfl, dk6, hs6, hd6, hw6⟩
            have HS6 := Lib.hid hs6
            have HD6 := Lib.hid hd6
            have HW6 := Lib.hid hw6
            clear hs6 hd6 hw6 HS5 HD5 HW5
            by_cases hq3 : m ≠ s ∧ e < b
            · have k5 : (mid : Int) < (e : Int) := by have := HN.out; have := HLN.out; omega
              have k6 : (e : Int) < (b : Int) := by omega
              go_wp2_with fail
              all_goals with_reducible refine (IH.out _ _ (P ++ mrg ltT A1 B1) A2 B2 S (by have := HLN.out; have := HN.out; omega) (List.length_pos_iff.1 (by have := HLN.out; have := HN.out; omega)) (List.length_pos_iff.1 (by have := HLN.out; have := HN.out; omega)) HA2.out HB2.out HS6.out HW6.out (by rw [HD6.out]; simp) mid e b (by have := HLN.out; have := HP.out; have := HN.out; rw [List.length_append, len_mrg _ _ _ (Nat.le_refl _)]; omega) (by have := HLN.out; have := HN.out; omega) (by have := HLN.out; have := HN.out; omega)).mono ?_
              all_goals rintro ee w7 ⟨rfl, dk7, hs7, hd7, hw7⟩
              all_goals go_wp2_with fail
              all_goals go_end0
              all_goals exact ⟨rfl, dk7, hs7, by rw [hd7, HM.out]; simp, hw7⟩
            · have HQ3 := Lib.hid hq3
              have k5 : (decide ((mid : Int) < (e : Int)) && decide ((e : Int) < (b : Int))) = false := by have := HN.out; have := HLN.out; simp; omega
              rcases Nat.lt_or_ge mid e with z | z
              · have k6 : (mid : Int) < (e : Int) := by omega
                have k7 : ¬ (e : Int) < (b : Int) := by have := HN.out; have := HLN.out; omega
                go_wp2_with fail
                all_goals go_end0
                all_goals exact ⟨rfl, _, HS6.out, by
                  have : B2 = [] := List.eq_nil_of_length_eq_zero (by have := HLN.out; have := HN.out; have := HQ3.out; omega)
                  rw [HD6.out, HM.out, this, mrg_nil]; simp, HW6.out⟩
              · have k6 : ¬ (mid : Int) < (e : Int) := by omega
                go_wp2_with fail
                all_goals go_end0
                all_goals exact ⟨rfl, _, HS6.out, by
                  have : A2 = [] := List.eq_nil_of_length_eq_zero (by have := HLN.out; have := HN.out; have := HQ3.out; omega)
                  rw [HD6.out, HM.out, this, nil_mrg]; simp, HW6.out⟩
          · have HQ2 := Lib.hid hq2
            have HS6 := HS5
            have HW6 := HW5
            rcases Nat.lt_or_ge a s with z2 | z2
            · have k3 : (a : Int) < (s : Int) := by omega
              have k4 : ¬ (s : Int) < (mid : Int) := by omega
              have HD6 := Lib.hid (HD5.out.trans (show P ++ (A1 ++ (B1 ++ (A2 ++ (B2 ++ S)))) = P ++ (mrg ltT A1 B1 ++ (A2 ++ (B2 ++ S))) by
                have : B1 = [] := List.eq_nil_of_length_eq_zero (by have := HLN.out; have := HN.out; have := HQ2.out; omega)
                rw [this, mrg_nil]; simp))
              clear HD5
              by_cases hq3 : m ≠ s ∧ e < b
              · have k5 : (mid : Int) < (e : Int) := by have := HN.out; have := HLN.out; omega
                have k6 : (e : Int) < (b : Int) := by omega
                go_wp2_with fail
                all_goals with_reducible refine (IH.out _ _ (P ++ mrg ltT A1 B1) A2 B2 S (by have := HLN.out; have := HN.out; omega) (List.length_pos_iff.1 (by have := HLN.out; have := HN.out; omega)) (List.length_pos_iff.1 (by have := HLN.out; have := HN.out; omega)) HA2.out HB2.out HS6.out HW6.out (by rw [HD6.out]; simp) mid e b (by have := HLN.out; have := HP.out; have := HN.out; rw [List.length_append, len_mrg _ _ _ (Nat.le_refl _)]; omega) (by have := HLN.out; have := HN.out; omega) (by have := HLN.out; have := HN.out; omega)).mono ?_
                all_goals rintro ee w7 ⟨rfl, dk7, hs7, hd7, hw7⟩
                all_goals go_wp2_with fail
                all_goals go_end0
                all_goals exact ⟨rfl, dk7, hs7, by rw [hd7, HM.out]; simp, hw7⟩
              · have HQ3 := Lib.hid hq3
                have k5 : (decide ((mid : Int) < (e : Int)) && decide ((e : Int) < (b : Int))) = false := by have := HN.out; have := HLN.out; simp; omega
                rcases Nat.lt_or_ge mid e with z | z
                · have k6 : (mid : Int) < (e : Int) := by omega
                  have k7 : ¬ (e : Int) < (b : Int) := by have := HN.out; have := HLN.out; omega
                  go_wp2_with fail
                  all_goals go_end0
                  all_goals exact ⟨rfl, _, HS6.out, by
                    have : B2 = [] := List.eq_nil_of_length_eq_zero (by have := HLN.out; have := HN.out; have := HQ3.out; omega)
                    rw [HD6.out, HM.out, this, mrg_nil]; simp, HW6.out⟩
                · have k6 : ¬ (mid : Int) < (e : Int) := by omega
                  go_wp2_with fail
                  all_goals go_end0
                  all_goals exact ⟨rfl, _, HS6.out, by
                    have : A2 = [] := List.eq_nil_of_length_eq_zero (by have := HLN.out; have := HN.out; have := HQ3.out; omega)
                    rw [HD6.out, HM.out, this, nil_mrg]; simp, HW6.out⟩
            · have k3 : ¬ (a : Int) < (s : Int) := by omega
              have HD6 := Lib.hid (HD5.out.trans (show P ++ (A1 ++ (B1 ++ (A2 ++ (B2 ++ S)))) = P ++ (mrg ltT A1 B1 ++ (A2 ++ (B2 ++ S))) by
                have : A1 = [] := List.eq_nil_of_length_eq_zero (by have := HLN.out; have := HQ2.out; omega)
                rw [this, nil_mrg]; simp))
              clear HD5
              by_cases hq3 : m ≠ s ∧ e < b
              · have k5 : (mid : Int) < (e : Int) := by have := HN.out; have := HLN.out; omega
                have k6 : (e : Int) < (b : Int) := by omega
                go_wp2_with fail
                all_goals with_reducible refine (IH.out _ _ (P ++ mrg ltT A1 B1) A2 B2 S (by have := HLN.out; have := HN.out; omega) (List.length_pos_iff.1 (by have := HLN.out; have := HN.out; omega)) (List.length_pos_iff.1 (by have := HLN.out; have := HN.out; omega)) HA2.out HB2.out HS6.out HW6.out (by rw [HD6.out]; simp) mid e b (by have := HLN.out; have := HP.out; have := HN.out; rw [List.length_append, len_mrg _ _ _ (Nat.le_refl _)]; omega) (by have := HLN.out; have := HN.out; omega) (by have := HLN.out; have := HN.out; omega)).mono ?_
                all_goals rintro ee w7 ⟨rfl, dk7, hs7, hd7, hw7⟩
                all_goals go_wp2_with fail
                all_goals go_end0
                all_goals exact ⟨rfl, dk7, hs7, by rw [hd7, HM.out]; simp, hw7⟩
              · have HQ3 := Lib.hid hq3
                have k5 : (decide ((mid : Int) < (e : Int)) && decide ((e : Int) < (b : Int))) = false := by have := HN.out; have := HLN.out; simp; omega
                rcases Nat.lt_or_ge mid e with z | z
                · have k6 : (mid : Int) < (e : Int) := by omega
                  have k7 : ¬ (e : Int) < (b : Int) := by have := HN.out; have := HLN.out; omega
                  go_wp2_with fail
                  all_goals go_end0
                  all_goals exact ⟨rfl, _, HS6.out, by
                    have : B2 = [] := List.eq_nil_of_length_eq_zero (by have := HLN.out; have := HN.out; have := HQ3.out; omega)
                    rw [HD6.out, HM.out, this, mrg_nil]; simp, HW6.out⟩
                · have k6 : ¬ (mid : Int) < (e : Int) := by omega
                  go_wp2_with fail
                  all_goals go_end0
                  all_goals exact ⟨rfl, _, HS6.out, by
                    have : A2 = [] := List.eq_nil_of_length_eq_zero (by have := HLN.out; have := HN.out; have := HQ3.out; omega)
                    rw [HD6.out, HM.out, this, nil_mrg]; simp, HW6.out⟩
        · have HQ1 := Lib.hid hq1
          have HS5 := HSZ
          have HW5 := HW
          rcases Nat.lt_or_ge s m with z1 | z1
          · have k1 : (s : Int) < (m : Int) := by omega
            have k2 : ¬ (m : Int) < (e : Int) := by omega
            have HD5 := Lib.hid (show dk.toList = P ++ (A1 ++ (B1 ++ (A2 ++ (B2 ++ S)))) by
              have : B1 = [] := List.eq_nil_of_length_eq_zero (by have := HLN.out; have := HQ1.out; omega)
              rw [HDE.out, this]; simp)
            clear HDE
            by_cases hq2 : a < s ∧ s < mid
            · have k3 : (a : Int) < (s : Int) := by omega
              have k4 : (s : Int) < (mid : Int) := by omega
              go_wp2_with fail
              with_reducible refine (IH.out _ _ P A1 B1 (A2 ++ (B2 ++ S)) (by have := HLN.out; have := HN.out; omega) (List.length_pos_iff.1 (by have := HLN.out; have := HN.out; omega)) (List.length_pos_iff.1 (by have := HLN.out; have := HN.out; omega)) HA1.out HB1.out HS5.out HW5.out HD5.out a s mid HP.out (by have := HLN.out; omega) (by have := HLN.out; have := HN.out; omega)).mono ?_
              rintro ee w6 ⟨rfl, dk6, hs6, hd6, hw6⟩
              have HS6 := Lib.hid hs6
              have HD6 := Lib.hid hd6
              have HW6 := Lib.hid hw6
              clear hs6 hd6 hw6 HS5 HD5 HW5
              by_cases hq3 : m ≠ s ∧ e < b
              · have k5 : (mid : Int) < (e : Int) := by have := HN.out; have := HLN.out; omega
                have k6 : (e : Int) < (b : Int) := by omega
                go_wp2_with fail
                all_goals with_reducible refine (IH.out _ _ (P ++ mrg ltT A1 B1) A2 B2 S (by have := HLN.out; have := HN.out; omega) (List.length_pos_iff.1 (by have := HLN.out; have := HN.out; omega)) (List.length_pos_iff.1 (by have := HLN.out; have := HN.out; omega)) HA2.out HB2.out HS6.out HW6.out (by rw [HD6.out]; simp) mid e b (by have := HLN.out; have := HP.out; have := HN.out; rw [List.length_append, len_mrg _ _ _ (Nat.le_refl _)]; omega) (by have := HLN.out; have := HN.out; omega) (by have := HLN.out; have := HN.out; omega)).mono ?_
                all_goals rintro ee w7 ⟨rfl, dk7, hs7, hd7, hw7⟩
                all_goals go_wp2_with fail
                all_goals go_end0
                all_goals exact ⟨rfl, dk7, hs7, by rw [hd7, HM.out]; simp, hw7⟩
              · have HQ3 := Lib.hid hq3
                have k5 : (decide ((mid : Int) < (e : Int)) && decide ((e : Int) < (b : Int))) = false := by have := HN.out; have := HLN.out; simp; omega
                rcases Nat.lt_or_ge mid e with z | z
                · have k6 : (mid : Int) < (e : Int) := by omega
                  have k7 : ¬ (e : Int) < (b : Int) := by have := HN.out; have := HLN.out; omega
                  go_wp2_with fail
                  all_goals go_end0
                  all_goals exact ⟨rfl, _, HS6.out, by
                    have : B2 = [] := List.eq_nil_of_length_eq_zero (by have := HLN.out; have := HN.out; have := HQ3.out; omega)
                    rw [HD6.out, HM.out, this, mrg_nil]; simp, HW6.out⟩
                · have k6 : ¬ (mid : Int) < (e : Int) := by omega
                  go_wp2_with fail
                  all_goals go_end0
                  all_goals exact ⟨rfl, _, HS6.out, by
                    have : A2 = [] := List.eq_nil_of_length_eq_zero (by have := HLN.out; have := HN.out; have := HQ3.out; omega)
                    rw [HD6.out, HM.out, this, nil_mrg]; simp, HW6.out⟩
            · have HQ2 := Lib.hid hq2
              have HS6 := HS5
              have HW6 := HW5
              rcases Nat.lt_or_ge a s with z2 | z2
              · have k3 : (a : Int) < (s : Int) := by omega
                have k4 : ¬ (s : Int) < (mid : Int) := by omega
                have HD6 := Lib.hid (HD5.out.trans (show P ++ (A1 ++ (B1 ++ (A2 ++ (B2 ++ S)))) = P ++ (mrg ltT A1 B1 ++ (A2 ++ (B2 ++ S))) by
                  have : B1 = [] := List.eq_nil_of_length_eq_zero (by have := HLN.out; have := HN.out; have := HQ2.out; omega)
                  rw [this, mrg_nil]; simp))
                clear HD5
                by_cases hq3 : m ≠ s ∧ e < b
                · have k5 : (mid : Int) < (e : Int) := by have := HN.out; have := HLN.out; omega
                  have k6 : (e : Int) < (b : Int) := by omega
                  go_wp2_with fail
                  all_goals with_reducible refine (IH.out _ _ (P ++ mrg ltT A1 B1) A2 B2 S (by have := HLN.out; have := HN.out; omega) (List.length_pos_iff.1 (by have := HLN.out; have := HN.out; omega)) (List.length_pos_iff.1 (by have := HLN.out; have := HN.out; omega)) HA2.out HB2.out HS6.out HW6.out (by rw [HD6.out]; simp) mid e b (by have := HLN.out; have := HP.out; have := HN.out; rw [List.length_append, len_mrg _ _ _ (Nat.le_refl _)]; omega) (by have := HLN.out; have := HN.out; omega) (by have := HLN.out; have := HN.out; omega)).mono ?_
                  all_goals rintro ee w7 ⟨rfl, dk7, hs7, hd7, hw7⟩
                  all_goals go_wp2_with fail
                  all_goals go_end0
                  all_goals exact ⟨rfl, dk7, hs7, by rw [hd7, HM.out]; simp, hw7⟩
                · have HQ3 := Lib.hid hq3
                  have k5 : (decide ((mid : Int) < (e : Int)) && decide ((e : Int) < (b : Int))) = false := by have := HN.out; have := HLN.out; simp; omega
                  rcases Nat.lt_or_ge mid e with z | z
                  · have k6 : (mid : Int) < (e : Int) := by omega
                    have k7 : ¬ (e : Int) < (b : Int) := by have := HN.out; have := HLN.out; omega
                    go_wp2_with fail
                    all_goals go_end0
                    all_goals exact ⟨rfl, _, HS6.out, by
                      have : B2 = [] := List.eq_nil_of_length_eq_zero (by have := HLN.out; have := HN.out; have := HQ3.out; omega)
                      rw [HD6.out, HM.out, this, mrg_nil]; simp, HW6.out⟩
                  · have k6 : ¬ (mid : Int) < (e : Int) := by omega
                    go_wp2_with fail
                    all_goals go_end0
                    all_goals exact ⟨rfl, _, HS6.out, by
                      have : A2 = [] := List.eq_nil_of_length_eq_zero (by have := HLN.out; have := HN.out; have := HQ3.out; omega)
                      rw [HD6.out, HM.out, this, nil_mrg]; simp, HW6.out⟩
              · have k3 : ¬ (a : Int) < (s : Int) := by omega
                have HD6 := Lib.hid (HD5.out.trans (show P ++ (A1 ++ (B1 ++ (A2 ++ (B2 ++ S)))) = P ++ (mrg ltT A1 B1 ++ (A2 ++ (B2 ++ S))) by
                  have : A1 = [] := List.eq_nil_of_length_eq_zero (by have := HLN.out; have := HQ2.out; omega)
                  rw [this, nil_mrg]; simp))
                clear HD5
                by_cases hq3 : m ≠ s ∧ e < b
                · have k5 : (mid : Int) < (e : Int) := by have := HN.out; have := HLN.out; omega
                  have k6 : (e : Int) < (b : Int) := by omega
                  go_wp2_with fail
                  all_goals with_reducible refine (IH.out _ _ (P ++ mrg ltT A1 B1) A2 B2 S (by have := HLN.out; have := HN.out; omega) (List.length_pos_iff.1 (by have := HLN.out; have := HN.out; omega)) (List.length_pos_iff.1 (by have := HLN.out; have := HN.out; omega)) HA2.out HB2.out HS6.out HW6.out (by rw [HD6.out]; simp) mid e b (by have := HLN.out; have := HP.out; have := HN.out; rw [List.length_append, len_mrg _ _ _ (Nat.le_refl _)]; omega) (by have := HLN.out; have := HN.out; omega) (by have := HLN.out; have := HN.out; omega)).mono ?_
                  all_goals rintro ee w7 ⟨rfl, dk7, hs7, hd7, hw7⟩
                  all_goals go_wp2_with fail
                  all_goals go_end0
                  all_goals exact ⟨rfl, dk7, hs7, by rw [hd7, HM.out]; simp, hw7⟩
                · have HQ3 := Lib.hid hq3
                  have k5 : (decide ((mid : Int) < (e : Int)) && decide ((e : Int) < (b : Int))) = false := by have := HN.out; have := HLN.out; simp; omega
                  rcases Nat.lt_or_ge mid e with z | z
                  · have k6 : (mid : Int) < (e : Int) := by omega
                    have k7 : ¬ (e : Int) < (b : Int) := by have := HN.out; have := HLN.out; omega
                    go_wp2_with fail
                    all_goals go_end0
                    all_goals exact ⟨rfl, _, HS6.out, by
                      have : B2 = [] := List.eq_nil_of_length_eq_zero (by have := HLN.out; have := HN.out; have := HQ3.out; omega)
                      rw [HD6.out, HM.out, this, mrg_nil]; simp, HW6.out⟩
                  · have k6 : ¬ (mid : Int) < (e : Int) := by omega
                    go_wp2_with fail
                    all_goals go_end0
                    all_goals exact ⟨rfl, _, HS6.out, by
                      have : A2 = [] := List.eq_nil_of_length_eq_zero (by have := HLN.out; have := HN.out; have := HQ3.out; omega)
                      rw [HD6.out, HM.out, this, nil_mrg]; simp, HW6.out⟩
          · have k1 : ¬ (s : Int) < (m : Int) := by omega
            have HD5 := Lib.hid (show dk.toList = P ++ (A1 ++ (B1 ++ (A2 ++ (B2 ++ S)))) by
              have : A2 = [] := List.eq_nil_of_length_eq_zero (by have := HLN.out; have := HQ1.out; omega)
              rw [HDE.out, this]; simp)
            clear HDE
            by_cases hq2 : a < s ∧ s < mid
            · have k3 : (a : Int) < (s : Int) := by omega
              have k4 : (s : Int) < (mid : Int) := by omega
              go_wp2_with fail
              with_reducible refine (IH.out _ _ P A1 B1 (A2 ++ (B2 ++ S)) (by have := HLN.out; have := HN.out; omega) (List.length_pos_iff.1 (by have := HLN.out; have := HN.out; omega)) (List.length_pos_iff.1 (by have := HLN.out; have := HN.out; omega)) HA1.out HB1.out HS5.out HW5.out HD5.out a s mid HP.out (by have := HLN.out; omega) (by have := HLN.out; have := HN.out; omega)).mono ?_
              rintro ee w6 ⟨rfl, dk6, hs6, hd6, hw6⟩
              have HS6 := Lib.hid hs6
              have HD6 := Lib.hid hd6
              have HW6 := Lib.hid hw6
              clear hs6 hd6 hw6 HS5 HD5 HW5
              by_cases hq3 : m ≠ s ∧ e < b
              · have k5 : (mid : Int) < (e : Int) := by have := HN.out; have := HLN.out; omega
                have k6 : (e : Int) < (b : Int) := by omega
                go_wp2_with fail
                all_goals with_reducible refine (IH.out _ _ (P ++ mrg ltT A1 B1) A2 B2 S (by have := HLN.out; have := HN.out; omega) (List.length_pos_iff.1 (by have := HLN.out; have := HN.out; omega)) (List.length_pos_iff.1 (by have := HLN.out; have := HN.out; omega)) HA2.out HB2.out HS6.out HW6.out (by rw [HD6.out]; simp) mid e b (by have := HLN.out; have := HP.out; have := HN.out; rw [List.length_append, len_mrg _ _ _ (Nat.le_refl _)]; omega) (by have := HLN.out; have := HN.out; omega) (by have := HLN.out; have := HN.out; omega)).mono ?_
                all_goals rintro ee w7 ⟨rfl, dk7, hs7, hd7, hw7⟩
                all_goals go_wp2_with fail
                all_goals go_end0
                all_goals exact ⟨rfl, dk7, hs7, by rw [hd7, HM.out]; simp, hw7⟩
              · have HQ3 := Lib.hid hq3
                have k5 : (decide ((mid : Int) < (e : Int)) && decide ((e : Int) < (b : Int))) = false := by have := HN.out; have := HLN.out; simp; omega
                rcases Nat.lt_or_ge mid e with z | z
                · have k6 : (mid : Int) < (e : Int) := by omega
                  have k7 : ¬ (e : Int) < (b : Int) := by have := HN.out; have := HLN.out; omega
                  go_wp2_with fail
                  all_goals go_end0
                  all_goals exact ⟨rfl, _, HS6.out, by
                    have : B2 = [] := List.eq_nil_of_length_eq_zero (by have := HLN.out; have := HN.out; have := HQ3.out; omega)
                    rw [HD6.out, HM.out, this, mrg_nil]; simp, HW6.out⟩
                · have k6 : ¬ (mid : Int) < (e : Int) := by omega
                  go_wp2_with fail
                  all_goals go_end0
                  all_goals exact ⟨rfl, _, HS6.out, by
                    have : A2 = [] := List.eq_nil_of_length_eq_zero (by have := HLN.out; have := HN.out; have := HQ3.out; omega)
                    rw [HD6.out, HM.out, this, nil_mrg]; simp, HW6.out⟩
            · have HQ2 := Lib.hid hq2
              have HS6 := HS5
              have HW6 := HW5
              rcases Nat.lt_or_ge a s with z2 | z2
              · have k3 : (a : Int) < (s : Int) := by omega
                have k4 : ¬ (s : Int) < (mid : Int) := by omega
                have HD6 := Lib.hid (HD5.out.trans (show P ++ (A1 ++ (B1 ++ (A2 ++ (B2 ++ S)))) = P ++ (mrg ltT A1 B1 ++ (A2 ++ (B2 ++ S))) by
                  have : B1 = [] := List.eq_nil_of_length_eq_zero (by have := HLN.out; have := HN.out; have := HQ2.out; omega)
                  rw [this, mrg_nil]; simp))
                clear HD5
                by_cases hq3 : m ≠ s ∧ e < b
                · have k5 : (mid : Int) < (e : Int) := by have := HN.out; have := HLN.out; omega
                  have k6 : (e : Int) < (b : Int) := by omega
                  go_wp2_with fail
                  all_goals with_reducible refine (IH.out _ _ (P ++ mrg ltT A1 B1) A2 B2 S (by have := HLN.out; have := HN.out; omega) (List.length_pos_iff.1 (by have := HLN.out; have := HN.out; omega)) (List.length_pos_iff.1 (by have := HLN.out; have := HN.out; omega)) HA2.out HB2.out HS6.out HW6.out (by rw [HD6.out]; simp) mid e b (by have := HLN.out; have := HP.out; have := HN.out; rw [List.length_append, len_mrg _ _ _ (Nat.le_refl _)]; omega) (by have := HLN.out; have := HN.out; omega) (by have := HLN.out; have := HN.out; omega)).mono ?_
                  all_goals rintro ee w7 ⟨rfl, dk7, hs7, hd7, hw7⟩
                  all_goals go_wp2_with fail
                  all_goals go_end0
                  all_goals exact ⟨rfl, dk7, hs7, by rw [hd7, HM.out]; simp, hw7⟩
                · have HQ3 := Lib.hid hq3
                  have k5 : (decide ((mid : Int) < (e : Int)) && decide ((e : Int) < (b : Int))) = false := by have := HN.out; have := HLN.out; simp; omega
                  rcases Nat.lt_or_ge mid e with z | z
                  · have k6 : (mid : Int) < (e : Int) := by omega
                    have k7 : ¬ (e : Int) < (b : Int) := by have := HN.out; have := HLN.out; omega
                    go_wp2_with fail
                    all_goals go_end0
                    all_goals exact ⟨rfl, _, HS6.out, by
                      have : B2 = [] := List.eq_nil_of_length_eq_zero (by have := HLN.out; have := HN.out; have := HQ3.out; omega)
                      rw [HD6.out, HM.out, this, mrg_nil]; simp, HW6.out⟩
                  · have k6 : ¬ (mid : Int) < (e : Int) := by omega
                    go_wp2_with fail
                    all_goals go_end0
                    all_goals exact ⟨rfl, _, HS6.out, by
                      have : A2 = [] := List.eq_nil_of_length_eq_zero (by have := HLN.out; have := HN.out; have := HQ3.out; omega)
                      rw [HD6.out, HM.out, this, nil_mrg]; simp, HW6.out⟩
              · have k3 : ¬ (a : Int) < (s : Int) := by omega
                have HD6 := Lib.hid (HD5.out.trans (show P ++ (A1 ++ (B1 ++ (A2 ++ (B2 ++ S)))) = P ++ (mrg ltT A1 B1 ++ (A2 ++ (B2 ++ S))) by
                  have : A1 = [] := List.eq_nil_of_length_eq_zero (by have := HLN.out; have := HQ2.out; omega)
                  rw [this, nil_mrg]; simp))
                clear HD5
                by_cases hq3 : m ≠ s ∧ e < b
                · have k5 : (mid : Int) < (e : Int) := by have := HN.out; have := HLN.out; omega
                  have k6 : (e : Int) < (b : Int) := by omega
                  go_wp2_with fail
                  all_goals with_reducible refine (IH.out _ _ (P ++ mrg ltT A1 B1) A2 B2 S (by have := HLN.out; have := HN.out; omega) (List.length_pos_iff.1 (by have := HLN.out; have := HN.out; omega)) (List.length_pos_iff.1 (by have := HLN.out; have := HN.out; omega)) HA2.out HB2.out HS6.out HW6.out (by rw [HD6.out]; simp) mid e b (by have := HLN.out; have := HP.out; have := HN.out; rw [List.length_append, len_mrg _ _ _ (Nat.le_refl _)]; omega) (by have := HLN.out; have := HN.out; omega) (by have := HLN.out; have := HN.out; omega)).mono ?_
                  all_goals rintro ee w7 ⟨rfl, dk7, hs7, hd7, hw7⟩
                  all_goals go_wp2_with fail
                  all_goals go_end0
                  all_goals exact ⟨rfl, dk7, hs7, by rw [hd7, HM.out]; simp, hw7⟩
                · have HQ3 := Lib.hid hq3
                  have k5 : (decide ((mid : Int) < (e : Int)) && decide ((e : Int) < (b : Int))) = false := by have := HN.out; have := HLN.out; simp; omega
                  rcases Nat.lt_or_ge mid e with z | z
                  · have k6 : (mid : Int) < (e : Int) := by omega
                    have k7 : ¬ (e : Int) < (b : Int) := by have := HN.out; have := HLN.out; omega
                    go_wp2_with fail
                    all_goals go_end0
                    all_goals exact ⟨rfl, _, HS6.out, by
                      have : B2 = [] := List.eq_nil_of_length_eq_zero (by have := HLN.out; have := HN.out; have := HQ3.out; omega)
                      rw [HD6.out, HM.out, this, mrg_nil]; simp, HW6.out⟩
                  · have k6 : ¬ (mid : Int) < (e : Int) := by omega
                    go_wp2_with fail
                    all_goals go_end0
                    all_goals exact ⟨rfl, _, HS6.out, by
                      have : A2 = [] := List.eq_nil_of_length_eq_zero (by have := HLN.out; have := HN.out; have := HQ3.out; omega)
                      rw [HD6.out, HM.out, this, nil_mrg]; simp, HW6.out⟩
  · have gz : ¬ (mid : Int) < (m : Int) := by omega
    have E1 := Lib.hid h1
    have E2 := Lib.hid h2
    clear h1 h2 hm hb hlA hlB hz
    go_enter Try.func56, Try.ntmps56
    go_wp2_with fail
    go_loopw [20, 21] (fun t u wr => ∃ (s r : Nat), t = .int .i64 s ∧ u = .int .i64 r ∧ lo ≤ s ∧ s ≤ r ∧ r ≤ hi ∧ SLo dk n lo s ∧ SHi dk n r hi ∧ SWK encH k6 w0 blk off dk wr) (fun t u _ => (intOf u).toNat - (intOf t).toNat)
    case atStart => have := HN.out; exact ⟨lo, hi, (by rw [E1.out]), (by rw [E2.out]), by omega, by omega, by omega, fun c h1 h2 => absurd h2 (by omega), fun c h1 h2 => absurd h2 (by omega), H0.out⟩
    case round =>
      clear H0
      obtain ⟨s, r, rfl, rfl, hi1, hij, hj, hlo, hhi, hw⟩ := hrel
      have HLO := Lib.hid hlo
      have HHI := Lib.hid hhi
      have HW := Lib.hid hw
      clear hlo hhi hw
      by_cases hlt : s < r
      · have g1 : (s : Int) < (r : Int) := by omega
        obtain ⟨q, hq⟩ : ∃ q, (s + r) / 2 = q := ⟨_, rfl⟩
        obtain ⟨pq, hpq⟩ : ∃ pq, n - 1 - q = pq := ⟨_, rfl⟩
        have w1 : IntKind.i64.wrap ((s : Int) + (r : Int)) = (s : Int) + (r : Int) := IntWalk.i64_in _ (by have := HN.out; omega)
        have w2 : ((s : Int) + (r : Int)) / 2 = (q : Int) := by omega
        have w6 : IntKind.u64.wrap ((s : Int) + (r : Int)) = (s : Int) + (r : Int) := by have := HN.out; rw [IntKind.wrap_u64]; omega
        have w7 : IntKind.i64.wrap (q : Int) = (q : Int) := IntWalk.i64_in _ (by have := HN.out; omega)
        have w3 : IntKind.i64.wrap ((p : Int) - (q : Int)) = (pq : Int) := by have := HN.out; rw [IntWalk.i64_in _ (by omega)]; omega
        have z1 : (q : Int) < (N : Int) := by have := HN.out; omega
        have z2 : (pq : Int) < (N : Int) := by have := HN.out; omega
        have h1 : ∀ n' os', Sem.run Try.prog (loadCellsFrom ⟨blk, off + q * 6, none⟩ 0 k6 #[]) (grow (wr.drewN n') os') = .ok (encH dk[q]!).toArray (grow (wr.drewN n') os') := HW.out.ld HR.out (by rw [HSZ.out, HS0.out]) Try.prog q (by have := HSZ.out; omega)
        have h2 : ∀ n' os', Sem.run Try.prog (loadCellsFrom ⟨blk, off + pq * 6, none⟩ 0 k6 #[]) (grow (wr.drewN n') os') = .ok (encH dk[pq]!).toArray (grow (wr.drewN n') os') := HW.out.ld HR.out (by rw [HSZ.out, HS0.out]) Try.prog pq (by have := HSZ.out; omega)
        have hc := HW.out.cmp HC.out HSZ.out dk[pq]! dk[q]!
        have HGR := Lib.hid HW.out.grown
        obtain ⟨x, hx⟩ : ∃ x, dk[q]! = x := ⟨_, rfl⟩
        obtain ⟨y, hy⟩ : ∃ y, dk[pq]! = y := ⟨_, rfl⟩
        rw [hx] at h1 hc
        rw [hy] at h2 hc
        have HX := Lib.hid hx
        have HY := Lib.hid hy
        have HQ := Lib.hid (And.intro hq hpq)
        clear hx hy hq hpq
        by_cases hlv : cfT y x < 0
        · go_wp2_with fail
          go_quiet_grown (first | (go_at_fn g; refine Calls.grown_of (hc _ _)))
          go_wp2_with fail
          go_roundw
          case rel =>
            have hq := HQ.out
            have hy := (cfT_lt _ _).1 hlv
            have hn := HN.out
            refine ⟨s, q, rfl, rfl, by omega, by omega, by omega, HLO.out, fun c h1 h2 => ?_, HGR.out nq osq⟩
            rw [← HX.out, ← HY.out] at hy
            exact wkT.lt_le (wkT.le_lt (HSB.out (n - 1 - c) pq (by omega) (by omega) (by omega)) hy) (HSA.out q c (by omega) h1 (by omega))
          case measure => have hq := HQ.out; simp [intOf]; omega
        · have hlv' : decide (cfT y x < 0) = false := decide_eq_false hlv
          have HLV := Lib.hid hlv
          clear hlv
          go_wp2_with fail
          go_quiet_grown (first | (go_at_fn g; refine Calls.grown_of (hc _ _)))
          go_wp2_with fail
          go_roundw
          case rel =>
            have hq := HQ.out
            have hlv := HLV.out
            have hn := HN.out
            have hy : ltT y x = false := by cases h : ltT y x; rfl; exact absurd ((cfT_lt _ _).2 h) (by omega)
            refine ⟨q + 1, r, by go_num, rfl, by omega, by omega, by omega, fun c h1 h2 => ?_, HHI.out, HGR.out nq osq⟩
            rw [← HX.out, ← HY.out] at hy
            exact wkT.neg _ _ _ (wkT.neg _ _ _ (HSB.out pq (n - 1 - c) (by omega) (by omega) (by omega)) hy) (HSA.out c q (by omega) (by omega) (by omega))
          case measure => have hq := HQ.out; simp [intOf]; omega
      · have g1 : ¬ (s : Int) < (r : Int) := by omega
        obtain rfl : s = r := by omega
        obtain ⟨e, he⟩ : ∃ e, n - s = e := ⟨_, rfl⟩
        have w4 : IntKind.i64.wrap ((n : Int) - (s : Int)) = (e : Int) := by have := HN.out; rw [IntWalk.i64_in _ (by omega)]; omega
        have hn := HN.out
        obtain ⟨x1, x2⟩ := sym_cross HD.out HA.out HB.out (a := a) (m := m) (b := b) (n := n) (lo := lo) (hi := hi) (s := s) (e := e) HP.out (by omega) (by omega) (by omega) hi1 hj (by omega) (by omega) (by omega) (by omega) (by omega) (by omega) HLO.out HHI.out
        obtain ⟨A1, hA1⟩ : ∃ A1, A.take (s - a) = A1 := ⟨_, rfl⟩
        obtain ⟨A2, hA2⟩ : ∃ A2, A.drop (s - a) = A2 := ⟨_, rfl⟩
        obtain ⟨B1, hB1⟩ : ∃ B1, B.take (e - m) = B1 := ⟨_, rfl⟩
        obtain ⟨B2, hB2⟩ : ∃ B2, B.drop (e - m) = B2 := ⟨_, rfl⟩
        have eA : A = A1 ++ A2 := by rw [← hA1, ← hA2, List.take_append_drop]
        have eB : B = B1 ++ B2 := by rw [← hB1, ← hB2, List.take_append_drop]
        have HA1 := Lib.hid (show Srt ltT A1 from hA1 ▸ srt_take HA.out _)
        have HA2 := Lib.hid (show Srt ltT A2 from hA2 ▸ srt_drop HA.out _)
        have HB1 := Lib.hid (show Srt ltT B1 from hB1 ▸ srt_take HB.out _)
        have HB2 := Lib.hid (show Srt ltT B2 from hB2 ▸ srt_drop HB.out _)
        have HLN := Lib.hid (show A1.length = s - a ∧ A2.length = m - s ∧ B1.length = e - m ∧ B2.length = b - e ∧ s + e = n ∧ a ≤ s ∧ s ≤ m ∧ s ≤ mid ∧ m ≤ e ∧ mid ≤ e ∧ e ≤ b ∧ e - m = mid - s ∧ m - s = e - mid from by
          rw [← hA1, ← hA2, ← hB1, ← hB2]; simp only [List.length_take, List.length_drop]; omega)
        have HM := Lib.hid (show mrg ltT A B = mrg ltT A1 B1 ++ mrg ltT A2 B2 from by
          rw [eA, eB]; exact mrg_parts _ A1 B1 A2 B2 (Nat.le_refl _) (by rw [← hA1, ← hB2]; exact x1) (by rw [← hB1, ← hA2]; exact x2))
        have hde : dk.toList = P ++ (A1 ++ (A2 ++ (B1 ++ (B2 ++ S)))) := by rw [HD.out, eA, eB]; simp
        have HDE := Lib.hid hde
        clear x1 x2 hA1 hA2 hB1 hB2 eA eB hde HLO HHI HD HA HB HSA HSB hn hj hi1 he hij
        by_cases hq1 : s < m ∧ m < e
        · have k1 : (s : Int) < (m : Int) := by omega
          have k2 : (m : Int) < (e : Int) := by omega
          go_wp2_with fail
          with_reducible refine (RO.out _ _ HW.out HSZ.out (P ++ A1) A2 B1 (B2 ++ S) (by rw [HDE.out]; simp) s m e (by have := HLN.out; have := HP.out; simp; omega) (by have := HLN.out; omega) (by have := HLN.out; omega) (List.length_pos_iff.1 (by have := HLN.out; have := HN.out; omega)) (List.length_pos_iff.1 (by have := HLN.out; have := HN.out; omega)) _).mono ?_
          rintro ee w5 ⟨rfl, dk5, hs5, hd5, hw5⟩
          have HS5 := Lib.hid hs5
          have HD5 := Lib.hid (show dk5.toList = P ++ (A1 ++ (B1 ++ (A2 ++ (B2 ++ S)))) by rw [hd5]; simp)
          have HW5 := Lib.hid hw5
          clear hs5 hd5 hw5 HW HSZ HDE
          by_cases hq2 : a < s ∧ s < mid
          · have k3 : (a : Int) < (s : Int) := by omega
            have k4 : (s : Int) < (mid : Int) := by omega
            go_wp2_with fail
            with_reducible refine (IH.out _ _ P A1 B1 (A2 ++ (B2 ++ S)) (by have := HLN.out; have := HN.out; omega) (List.length_pos_iff.1 (by have := HLN.out; have := HN.out; omega)) (List.length_pos_iff.1 (by have := HLN.out; have := HN.out; omega)) HA1.out HB1.out HS5.out HW5.out HD5.out a s mid HP.out (by have := HLN.out; omega) (by have := HLN.out; have := HN.out; omega)).mono ?_
            rintro ee w6 ⟨rfl, dk6, hs6, hd6, hw6⟩
            have HS6 := Lib.hid hs6
            have HD6 := Lib.hid hd6
            have HW6 := Lib.hid hw6
            clear hs6 hd6 hw6 HS5 HD5 HW5
            by_cases hq3 : m ≠ s ∧ e < b
            · have k5 : (mid : Int) < (e : Int) := by have := HN.out; have := HLN.out; omega
              have k6 : (e : Int) < (b : Int) := by omega
              go_wp2_with fail
              all_goals with_reducible refine (IH.out _ _ (P ++ mrg ltT A1 B1) A2 B2 S (by have := HLN.out; have := HN.out; omega) (List.length_pos_iff.1 (by have := HLN.out; have := HN.out; omega)) (List.length_pos_iff.1 (by have := HLN.out; have := HN.out; omega)) HA2.out HB2.out HS6.out HW6.out (by rw [HD6.out]; simp) mid e b (by have := HLN.out; have := HP.out; have := HN.out; rw [List.length_append, len_mrg _ _ _ (Nat.le_refl _)]; omega) (by have := HLN.out; have := HN.out; omega) (by have := HLN.out; have := HN.out; omega)).mono ?_
              all_goals rintro ee w7 ⟨rfl, dk7, hs7, hd7, hw7⟩
              all_goals go_wp2_with fail
              all_goals go_end0
              all_goals exact ⟨rfl, dk7, hs7, by rw [hd7, HM.out]; simp, hw7⟩
            · have HQ3 := Lib.hid hq3
              have k5 : (decide ((mid : Int) < (e : Int)) && decide ((e : Int) < (b : Int))) = false := by have := HN.out; have := HLN.out; simp; omega
              rcases Nat.lt_or_ge mid e with z | z
              · have k6 : (mid : Int) < (e : Int) := by omega
                have k7 : ¬ (e : Int) < (b : Int) := by have := HN.out; have := HLN.out; omega
                go_wp2_with fail
                all_goals go_end0
                all_goals exact ⟨rfl, _, HS6.out, by
                  have : B2 = [] := List.eq_nil_of_length_eq_zero (by have := HLN.out; have := HN.out; have := HQ3.out; omega)
                  rw [HD6.out, HM.out, this, mrg_nil]; simp, HW6.out⟩
              · have k6 : ¬ (mid : Int) < (e : Int) := by omega
                go_wp2_with fail
                all_goals go_end0
                all_goals exact ⟨rfl, _, HS6.out, by
                  have : A2 = [] := List.eq_nil_of_length_eq_zero (by have := HLN.out; have := HN.out; have := HQ3.out; omega)
                  rw [HD6.out, HM.out, this, nil_mrg]; simp, HW6.out⟩
          · have HQ2 := Lib.hid hq2
            have HS6 := HS5
            have HW6 := HW5
            rcases Nat.lt_or_ge a s with z2 | z2
            · have k3 : (a : Int) < (s : Int) := by omega
              have k4 : ¬ (s : Int) < (mid : Int) := by omega
              have HD6 := Lib.hid (HD5.out.trans (show P ++ (A1 ++ (B1 ++ (A2 ++ (B2 ++ S)))) = P ++ (mrg ltT A1 B1 ++ (A2 ++ (B2 ++ S))) by
                have : B1 = [] := List.eq_nil_of_length_eq_zero (by have := HLN.out; have := HN.out; have := HQ2.out; omega)
                rw [this, mrg_nil]; simp))
              clear HD5
              by_cases hq3 : m ≠ s ∧ e < b
              · have k5 : (mid : Int) < (e : Int) := by have := HN.out; have := HLN.out; omega
                have k6 : (e : Int) < (b : Int) := by omega
                go_wp2_with fail
                all_goals with_reducible refine (IH.out _ _ (P ++ mrg ltT A1 B1) A2 B2 S (by have := HLN.out; have := HN.out; omega) (List.length_pos_iff.1 (by have := HLN.out; have := HN.out; omega)) (List.length_pos_iff.1 (by have := HLN.out; have := HN.out; omega)) HA2.out HB2.out HS6.out HW6.out (by rw [HD6.out]; simp) mid e b (by have := HLN.out; have := HP.out; have := HN.out; rw [List.length_append, len_mrg _ _ _ (Nat.le_refl _)]; omega) (by have := HLN.out; have := HN.out; omega) (by have := HLN.out; have := HN.out; omega)).mono ?_
                all_goals rintro ee w7 ⟨rfl, dk7, hs7, hd7, hw7⟩
                all_goals go_wp2_with fail
                all_goals go_end0
                all_goals exact ⟨rfl, dk7, hs7, by rw [hd7, HM.out]; simp, hw7⟩
              · have HQ3 := Lib.hid hq3
                have k5 : (decide ((mid : Int) < (e : Int)) && decide ((e : Int) < (b : Int))) = false := by have := HN.out; have := HLN.out; simp; omega
                rcases Nat.lt_or_ge mid e with z | z
                · have k6 : (mid : Int) < (e : Int) := by omega
                  have k7 : ¬ (e : Int) < (b : Int) := by have := HN.out; have := HLN.out; omega
                  go_wp2_with fail
                  all_goals go_end0
                  all_goals exact ⟨rfl, _, HS6.out, by
                    have : B2 = [] := List.eq_nil_of_length_eq_zero (by have := HLN.out; have := HN.out; have := HQ3.out; omega)
                    rw [HD6.out, HM.out, this, mrg_nil]; simp, HW6.out⟩
                · have k6 : ¬ (mid : Int) < (e : Int) := by omega
                  go_wp2_with fail
                  all_goals go_end0
                  all_goals exact ⟨rfl, _, HS6.out, by
                    have : A2 = [] := List.eq_nil_of_length_eq_zero (by have := HLN.out; have := HN.out; have := HQ3.out; omega)
                    rw [HD6.out, HM.out, this, nil_mrg]; simp, HW6.out⟩
            · have k3 : ¬ (a : Int) < (s : Int) := by omega
              have HD6 := Lib.hid (HD5.out.trans (show P ++ (A1 ++ (B1 ++ (A2 ++ (B2 ++ S)))) = P ++ (mrg ltT A1 B1 ++ (A2 ++ (B2 ++ S))) by
                have : A1 = [] := List.eq_nil_of_length_eq_zero (by have := HLN.out; have := HQ2.out; omega)
                rw [this, nil_mrg]; simp))
              clear HD5
              by_cases hq3 : m ≠ s ∧ e < b
              · have k5 : (mid : Int) < (e : Int) := by have := HN.out; have := HLN.out; omega
                have k6 : (e : Int) < (b : Int) := by omega
                go_wp2_with fail
                all_goals with_reducible refine (IH.out _ _ (P ++ mrg ltT A1 B1) A2 B2 S (by have := HLN.out; have := HN.out; omega) (List.length_pos_iff.1 (by have := HLN.out; have := HN.out; omega)) (List.length_pos_iff.1 (by have := HLN.out; have := HN.out; omega)) HA2.out HB2.out HS6.out HW6.out (by rw [HD6.out]; simp) mid e b (by have := HLN.out; have := HP.out; have := HN.out; rw [List.length_append, len_mrg _ _ _ (Nat.le_refl _)]; omega) (by have := HLN.out; have := HN.out; omega) (by have := HLN.out; have := HN.out; omega)).mono ?_
                all_goals rintro ee w7 ⟨rfl, dk7, hs7, hd7, hw7⟩
                all_goals go_wp2_with fail
                all_goals go_end0
                all_goals exact ⟨rfl, dk7, hs7, by rw [hd7, HM.out]; simp, hw7⟩
              · have HQ3 := Lib.hid hq3
                have k5 : (decide ((mid : Int) < (e : Int)) && decide ((e : Int) < (b : Int))) = false := by have := HN.out; have := HLN.out; simp; omega
                rcases Nat.lt_or_ge mid e with z | z
                · have k6 : (mid : Int) < (e : Int) := by omega
                  have k7 : ¬ (e : Int) < (b : Int) := by have := HN.out; have := HLN.out; omega
                  go_wp2_with fail
                  all_goals go_end0
                  all_goals exact ⟨rfl, _, HS6.out, by
                    have : B2 = [] := List.eq_nil_of_length_eq_zero (by have := HLN.out; have := HN.out; have := HQ3.out; omega)
                    rw [HD6.out, HM.out, this, mrg_nil]; simp, HW6.out⟩
                · have k6 : ¬ (mid : Int) < (e : Int) := by omega
                  go_wp2_with fail
                  all_goals go_end0
                  all_goals exact ⟨rfl, _, HS6.out, by
                    have : A2 = [] := List.eq_nil_of_length_eq_zero (by have := HLN.out; have := HN.out; have := HQ3.out; omega)
                    rw [HD6.out, HM.out, this, nil_mrg]; simp, HW6.out⟩
        · have HQ1 := Lib.hid hq1
          have HS5 := HSZ
          have HW5 := HW
          rcases Nat.lt_or_ge s m with z1 | z1
          · have k1 : (s : Int) < (m : Int) := by omega
            have k2 : ¬ (m : Int) < (e : Int) := by omega
            have HD5 := Lib.hid (show dk.toList = P ++ (A1 ++ (B1 ++ (A2 ++ (B2 ++ S)))) by
              have : B1 = [] := List.eq_nil_of_length_eq_zero (by have := HLN.out; have := HQ1.out; omega)
              rw [HDE.out, this]; simp)
            clear HDE
            by_cases hq2 : a < s ∧ s < mid
            · have k3 : (a : Int) < (s : Int) := by omega
              have k4 : (s : Int) < (mid : Int) := by omega
              go_wp2_with fail
              with_reducible refine (IH.out _ _ P A1 B1 (A2 ++ (B2 ++ S)) (by have := HLN.out; have := HN.out; omega) (List.length_pos_iff.1 (by have := HLN.out; have := HN.out; omega)) (List.length_pos_iff.1 (by have := HLN.out; have := HN.out; omega)) HA1.out HB1.out HS5.out HW5.out HD5.out a s mid HP.out (by have := HLN.out; omega) (by have := HLN.out; have := HN.out; omega)).mono ?_
              rintro ee w6 ⟨rfl, dk6, hs6, hd6, hw6⟩
              have HS6 := Lib.hid hs6
              have HD6 := Lib.hid hd6
              have HW6 := Lib.hid hw6
              clear hs6 hd6 hw6 HS5 HD5 HW5
              by_cases hq3 : m ≠ s ∧ e < b
              · have k5 : (mid : Int) < (e : Int) := by have := HN.out; have := HLN.out; omega
                have k6 : (e : Int) < (b : Int) := by omega
                go_wp2_with fail
                all_goals with_reducible refine (IH.out _ _ (P ++ mrg ltT A1 B1) A2 B2 S (by have := HLN.out; have := HN.out; omega) (List.length_pos_iff.1 (by have := HLN.out; have := HN.out; omega)) (List.length_pos_iff.1 (by have := HLN.out; have := HN.out; omega)) HA2.out HB2.out HS6.out HW6.out (by rw [HD6.out]; simp) mid e b (by have := HLN.out; have := HP.out; have := HN.out; rw [List.length_append, len_mrg _ _ _ (Nat.le_refl _)]; omega) (by have := HLN.out; have := HN.out; omega) (by have := HLN.out; have := HN.out; omega)).mono ?_
                all_goals rintro ee w7 ⟨rfl, dk7, hs7, hd7, hw7⟩
                all_goals go_wp2_with fail
                all_goals go_end0
                all_goals exact ⟨rfl, dk7, hs7, by rw [hd7, HM.out]; simp, hw7⟩
              · have HQ3 := Lib.hid hq3
                have k5 : (decide ((mid : Int) < (e : Int)) && decide ((e : Int) < (b : Int))) = false := by have := HN.out; have := HLN.out; simp; omega
                rcases Nat.lt_or_ge mid e with z | z
                · have k6 : (mid : Int) < (e : Int) := by omega
                  have k7 : ¬ (e : Int) < (b : Int) := by have := HN.out; have := HLN.out; omega
                  go_wp2_with fail
                  all_goals go_end0
                  all_goals exact ⟨rfl, _, HS6.out, by
                    have : B2 = [] := List.eq_nil_of_length_eq_zero (by have := HLN.out; have := HN.out; have := HQ3.out; omega)
                    rw [HD6.out, HM.out, this, mrg_nil]; simp, HW6.out⟩
                · have k6 : ¬ (mid : Int) < (e : Int) := by omega
                  go_wp2_with fail
                  all_goals go_end0
                  all_goals exact ⟨rfl, _, HS6.out, by
                    have : A2 = [] := List.eq_nil_of_length_eq_zero (by have := HLN.out; have := HN.out; have := HQ3.out; omega)
                    rw [HD6.out, HM.out, this, nil_mrg]; simp, HW6.out⟩
            · have HQ2 := Lib.hid hq2
              have HS6 := HS5
              have HW6 := HW5
              rcases Nat.lt_or_ge a s with z2 | z2
              · have k3 : (a : Int) < (s : Int) := by omega
                have k4 : ¬ (s : Int) < (mid : Int) := by omega
                have HD6 := Lib.hid (HD5.out.trans (show P ++ (A1 ++ (B1 ++ (A2 ++ (B2 ++ S)))) = P ++ (mrg ltT A1 B1 ++ (A2 ++ (B2 ++ S))) by
                  have : B1 = [] := List.eq_nil_of_length_eq_zero (by have := HLN.out; have := HN.out; have := HQ2.out; omega)
                  rw [this, mrg_nil]; simp))
                clear HD5
                by_cases hq3 : m ≠ s ∧ e < b
                · have k5 : (mid : Int) < (e : Int) := by have := HN.out; have := HLN.out; omega
                  have k6 : (e : Int) < (b : Int) := by omega
                  go_wp2_with fail
                  all_goals with_reducible refine (IH.out _ _ (P ++ mrg ltT A1 B1) A2 B2 S (by have := HLN.out; have := HN.out; omega) (List.length_pos_iff.1 (by have := HLN.out; have := HN.out; omega)) (List.length_pos_iff.1 (by have := HLN.out; have := HN.out; omega)) HA2.out HB2.out HS6.out HW6.out (by rw [HD6.out]; simp) mid e b (by have := HLN.out; have := HP.out; have := HN.out; rw [List.length_append, len_mrg _ _ _ (Nat.le_refl _)]; omega) (by have := HLN.out; have := HN.out; omega) (by have := HLN.out; have := HN.out; omega)).mono ?_
                  all_goals rintro ee w7 ⟨rfl, dk7, hs7, hd7, hw7⟩
                  all_goals go_wp2_with fail
                  all_goals go_end0
                  all_goals exact ⟨rfl, dk7, hs7, by rw [hd7, HM.out]; simp, hw7⟩
                · have HQ3 := Lib.hid hq3
                  have k5 : (decide ((mid : Int) < (e : Int)) && decide ((e : Int) < (b : Int))) = false := by have := HN.out; have := HLN.out; simp; omega
                  rcases Nat.lt_or_ge mid e with z | z
                  · have k6 : (mid : Int) < (e : Int) := by omega
                    have k7 : ¬ (e : Int) < (b : Int) := by have := HN.out; have := HLN.out; omega
                    go_wp2_with fail
                    all_goals go_end0
                    all_goals exact ⟨rfl, _, HS6.out, by
                      have : B2 = [] := List.eq_nil_of_length_eq_zero (by have := HLN.out; have := HN.out; have := HQ3.out; omega)
                      rw [HD6.out, HM.out, this, mrg_nil]; simp, HW6.out⟩
                  · have k6 : ¬ (mid : Int) < (e : Int) := by omega
                    go_wp2_with fail
                    all_goals go_end0
                    all_goals exact ⟨rfl, _, HS6.out, by
                      have : A2 = [] := List.eq_nil_of_length_eq_zero (by have := HLN.out; have := HN.out; have := HQ3.out; omega)
                      rw [HD6.out, HM.out, this, nil_mrg]; simp, HW6.out⟩
              · have k3 : ¬ (a : Int) < (s : Int) := by omega
                have HD6 := Lib.hid (HD5.out.trans (show P ++ (A1 ++ (B1 ++ (A2 ++ (B2 ++ S)))) = P ++ (mrg ltT A1 B1 ++ (A2 ++ (B2 ++ S))) by
                  have : A1 = [] := List.eq_nil_of_length_eq_zero (by have := HLN.out; have := HQ2.out; omega)
                  rw [this, nil_mrg]; simp))
                clear HD5
                by_cases hq3 : m ≠ s ∧ e < b
                · have k5 : (mid : Int) < (e : Int) := by have := HN.out; have := HLN.out; omega
                  have k6 : (e : Int) < (b : Int) := by omega
                  go_wp2_with fail
                  all_goals with_reducible refine (IH.out _ _ (P ++ mrg ltT A1 B1) A2 B2 S (by have := HLN.out; have := HN.out; omega) (List.length_pos_iff.1 (by have := HLN.out; have := HN.out; omega)) (List.length_pos_iff.1 (by have := HLN.out; have := HN.out; omega)) HA2.out HB2.out HS6.out HW6.out (by rw [HD6.out]; simp) mid e b (by have := HLN.out; have := HP.out; have := HN.out; rw [List.length_append, len_mrg _ _ _ (Nat.le_refl _)]; omega) (by have := HLN.out; have := HN.out; omega) (by have := HLN.out; have := HN.out; omega)).mono ?_
                  all_goals rintro ee w7 ⟨rfl, dk7, hs7, hd7, hw7⟩
                  all_goals go_wp2_with fail
                  all_goals go_end0
                  all_goals exact ⟨rfl, dk7, hs7, by rw [hd7, HM.out]; simp, hw7⟩
                · have HQ3 := Lib.hid hq3
                  have k5 : (decide ((mid : Int) < (e : Int)) && decide ((e : Int) < (b : Int))) = false := by have := HN.out; have := HLN.out; simp; omega
                  rcases Nat.lt_or_ge mid e with z | z
                  · have k6 : (mid : Int) < (e : Int) := by omega
                    have k7 : ¬ (e : Int) < (b : Int) := by have := HN.out; have := HLN.out; omega
                    go_wp2_with fail
                    all_goals go_end0
                    all_goals exact ⟨rfl, _, HS6.out, by
                      have : B2 = [] := List.eq_nil_of_length_eq_zero (by have := HLN.out; have := HN.out; have := HQ3.out; omega)
                      rw [HD6.out, HM.out, this, mrg_nil]; simp, HW6.out⟩
                  · have k6 : ¬ (mid : Int) < (e : Int) := by omega
                    go_wp2_with fail
                    all_goals go_end0
                    all_goals exact ⟨rfl, _, HS6.out, by
                      have : A2 = [] := List.eq_nil_of_length_eq_zero (by have := HLN.out; have := HN.out; have := HQ3.out; omega)
                      rw [HD6.out, HM.out, this, nil_mrg]; simp, HW6.out⟩
          · have k1 : ¬ (s : Int) < (m : Int) := by omega
            have HD5 := Lib.hid (show dk.toList = P ++ (A1 ++ (B1 ++ (A2 ++ (B2 ++ S)))) by
              have : A2 = [] := List.eq_nil_of_length_eq_zero (by have := HLN.out; have := HQ1.out; omega)
              rw [HDE.out, this]; simp)
            clear HDE
            by_cases hq2 : a < s ∧ s < mid
            · have k3 : (a : Int) < (s : Int) := by omega
              have k4 : (s : Int) < (mid : Int) := by omega
              go_wp2_with fail
              with_reducible refine (IH.out _ _ P A1 B1 (A2 ++ (B2 ++ S)) (by have := HLN.out; have := HN.out; omega) (List.length_pos_iff.1 (by have := HLN.out; have := HN.out; omega)) (List.length_pos_iff.1 (by have := HLN.out; have := HN.out; omega)) HA1.out HB1.out HS5.out HW5.out HD5.out a s mid HP.out (by have := HLN.out; omega) (by have := HLN.out; have := HN.out; omega)).mono ?_
              rintro ee w6 ⟨rfl, dk6, hs6, hd6, hw6⟩
              have HS6 := Lib.hid hs6
              have HD6 := Lib.hid hd6
              have HW6 := Lib.hid hw6
              clear hs6 hd6 hw6 HS5 HD5 HW5
              by_cases hq3 : m ≠ s ∧ e < b
              · have k5 : (mid : Int) < (e : Int) := by have := HN.out; have := HLN.out; omega
                have k6 : (e : Int) < (b : Int) := by omega
                go_wp2_with fail
                all_goals with_reducible refine (IH.out _ _ (P ++ mrg ltT A1 B1) A2 B2 S (by have := HLN.out; have := HN.out; omega) (List.length_pos_iff.1 (by have := HLN.out; have := HN.out; omega)) (List.length_pos_iff.1 (by have := HLN.out; have := HN.out; omega)) HA2.out HB2.out HS6.out HW6.out (by rw [HD6.out]; simp) mid e b (by have := HLN.out; have := HP.out; have := HN.out; rw [List.length_append, len_mrg _ _ _ (Nat.le_refl _)]; omega) (by have := HLN.out; have := HN.out; omega) (by have := HLN.out; have := HN.out; omega)).mono ?_
                all_goals rintro ee w7 ⟨rfl, dk7, hs7, hd7, hw7⟩
                all_goals go_wp2_with fail
                all_goals go_end0
                all_goals exact ⟨rfl, dk7, hs7, by rw [hd7, HM.out]; simp, hw7⟩
              · have HQ3 := Lib.hid hq3
                have k5 : (decide ((mid : Int) < (e : Int)) && decide ((e : Int) < (b : Int))) = false := by have := HN.out; have := HLN.out; simp; omega
                rcases Nat.lt_or_ge mid e with z | z
                · have k6 : (mid : Int) < (e : Int) := by omega
                  have k7 : ¬ (e : Int) < (b : Int) := by have := HN.out; have := HLN.out; omega
                  go_wp2_with fail
                  all_goals go_end0
                  all_goals exact ⟨rfl, _, HS6.out, by
                    have : B2 = [] := List.eq_nil_of_length_eq_zero (by have := HLN.out; have := HN.out; have := HQ3.out; omega)
                    rw [HD6.out, HM.out, this, mrg_nil]; simp, HW6.out⟩
                · have k6 : ¬ (mid : Int) < (e : Int) := by omega
                  go_wp2_with fail
                  all_goals go_end0
                  all_goals exact ⟨rfl, _, HS6.out, by
                    have : A2 = [] := List.eq_nil_of_length_eq_zero (by have := HLN.out; have := HN.out; have := HQ3.out; omega)
                    rw [HD6.out, HM.out, this, nil_mrg]; simp, HW6.out⟩
            · have HQ2 := Lib.hid hq2
              have HS6 := HS5
              have HW6 := HW5
              rcases Nat.lt_or_ge a s with z2 | z2
              · have k3 : (a : Int) < (s : Int) := by omega
                have k4 : ¬ (s : Int) < (mid : Int) := by omega
                have HD6 := Lib.hid (HD5.out.trans (show P ++ (A1 ++ (B1 ++ (A2 ++ (B2 ++ S)))) = P ++ (mrg ltT A1 B1 ++ (A2 ++ (B2 ++ S))) by
                  have : B1 = [] := List.eq_nil_of_length_eq_zero (by have := HLN.out; have := HN.out; have := HQ2.out; omega)
                  rw [this, mrg_nil]; simp))
                clear HD5
                by_cases hq3 : m ≠ s ∧ e < b
                · have k5 : (mid : Int) < (e : Int) := by have := HN.out; have := HLN.out; omega
                  have k6 : (e : Int) < (b : Int) := by omega
                  go_wp2_with fail
                  all_goals with_reducible refine (IH.out _ _ (P ++ mrg ltT A1 B1) A2 B2 S (by have := HLN.out; have := HN.out; omega) (List.length_pos_iff.1 (by have := HLN.out; have := HN.out; omega)) (List.length_pos_iff.1 (by have := HLN.out; have := HN.out; omega)) HA2.out HB2.out HS6.out HW6.out (by rw [HD6.out]; simp) mid e b (by have := HLN.out; have := HP.out; have := HN.out; rw [List.length_append, len_mrg _ _ _ (Nat.le_refl _)]; omega) (by have := HLN.out; have := HN.out; omega) (by have := HLN.out; have := HN.out; omega)).mono ?_
                  all_goals rintro ee w7 ⟨rfl, dk7, hs7, hd7, hw7⟩
                  all_goals go_wp2_with fail
                  all_goals go_end0
                  all_goals exact ⟨rfl, dk7, hs7, by rw [hd7, HM.out]; simp, hw7⟩
                · have HQ3 := Lib.hid hq3
                  have k5 : (decide ((mid : Int) < (e : Int)) && decide ((e : Int) < (b : Int))) = false := by have := HN.out; have := HLN.out; simp; omega
                  rcases Nat.lt_or_ge mid e with z | z
                  · have k6 : (mid : Int) < (e : Int) := by omega
                    have k7 : ¬ (e : Int) < (b : Int) := by have := HN.out; have := HLN.out; omega
                    go_wp2_with fail
                    all_goals go_end0
                    all_goals exact ⟨rfl, _, HS6.out, by
                      have : B2 = [] := List.eq_nil_of_length_eq_zero (by have := HLN.out; have := HN.out; have := HQ3.out; omega)
                      rw [HD6.out, HM.out, this, mrg_nil]; simp, HW6.out⟩
                  · have k6 : ¬ (mid : Int) < (e : Int) := by omega
                    go_wp2_with fail
                    all_goals go_end0
                    all_goals exact ⟨rfl, _, HS6.out, by
                      have : A2 = [] := List.eq_nil_of_length_eq_zero (by have := HLN.out; have := HN.out; have := HQ3.out; omega)
                      rw [HD6.out, HM.out, this, nil_mrg]; simp, HW6.out⟩
              · have k3 : ¬ (a : Int) < (s : Int) := by omega
                have HD6 := Lib.hid (HD5.out.trans (show P ++ (A1 ++ (B1 ++ (A2 ++ (B2 ++ S)))) = P ++ (mrg ltT A1 B1 ++ (A2 ++ (B2 ++ S))) by
                  have : A1 = [] := List.eq_nil_of_length_eq_zero (by have := HLN.out; have := HQ2.out; omega)
                  rw [this, nil_mrg]; simp))
                clear HD5
                by_cases hq3 : m ≠ s ∧ e < b
                · have k5 : (mid : Int) < (e : Int) := by have := HN.out; have := HLN.out; omega
                  have k6 : (e : Int) < (b : Int) := by omega
                  go_wp2_with fail
                  all_goals with_reducible refine (IH.out _ _ (P ++ mrg ltT A1 B1) A2 B2 S (by have := HLN.out; have := HN.out; omega) (List.length_pos_iff.1 (by have := HLN.out; have := HN.out; omega)) (List.length_pos_iff.1 (by have := HLN.out; have := HN.out; omega)) HA2.out HB2.out HS6.out HW6.out (by rw [HD6.out]; simp) mid e b (by have := HLN.out; have := HP.out; have := HN.out; rw [List.length_append, len_mrg _ _ _ (Nat.le_refl _)]; omega) (by have := HLN.out; have := HN.out; omega) (by have := HLN.out; have := HN.out; omega)).mono ?_
                  all_goals rintro ee w7 ⟨rfl, dk7, hs7, hd7, hw7⟩
                  all_goals go_wp2_with fail
                  all_goals go_end0
                  all_goals exact ⟨rfl, dk7, hs7, by rw [hd7, HM.out]; simp, hw7⟩
                · have HQ3 := Lib.hid hq3
                  have k5 : (decide ((mid : Int) < (e : Int)) && decide ((e : Int) < (b : Int))) = false := by have := HN.out; have := HLN.out; simp; omega
                  rcases Nat.lt_or_ge mid e with z | z
                  · have k6 : (mid : Int) < (e : Int) := by omega
                    have k7 : ¬ (e : Int) < (b : Int) := by have := HN.out; have := HLN.out; omega
                    go_wp2_with fail
                    all_goals go_end0
                    all_goals exact ⟨rfl, _, HS6.out, by
                      have : B2 = [] := List.eq_nil_of_length_eq_zero (by have := HLN.out; have := HN.out; have := HQ3.out; omega)
                      rw [HD6.out, HM.out, this, mrg_nil]; simp, HW6.out⟩
                  · have k6 : ¬ (mid : Int) < (e : Int) := by omega
                    go_wp2_with fail
                    all_goals go_end0
                    all_goals exact ⟨rfl, _, HS6.out, by
                      have : A2 = [] := List.eq_nil_of_length_eq_zero (by have := HLN.out; have := HN.out; have := HQ3.out; omega)
                      rw [HD6.out, HM.out, this, nil_mrg]; simp, HW6.out⟩
end
end Go.Proofs.Ytaeiajodbpgbbaa
