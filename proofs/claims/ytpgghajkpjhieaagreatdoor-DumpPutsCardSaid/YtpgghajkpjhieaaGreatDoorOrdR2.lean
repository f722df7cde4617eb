/- Walks over the document's readers of numbers (fascicleref01). -/
import Derived.Test.YtpgghajkpjhieaaGreatDoorOrdR1
import Derived.Deep.QuietTactic
import Derived.BigQuiet
namespace Go.Proofs.YtpgghajkpjhieaaGreatDoor
open Go.RowKit

set_option maxHeartbeats 1000000 in
theorem rf_getSmall (a : Option Addr) (cap : Nat) (xs : List Nat) (w : World) (hb : Bytes xs) (ha : NatsAt w .u8 a xs) (hc : xs.length ≤ cap) (hm : cap ≤ 9223372036854775807) :
    Calls Tryz.prog 55 #[.slice a xs.length cap] w fun e w' => e = .returned (smallV (getSmall xs)) ∧ Same w w' := by
  have HB := Lib.hid hb; have HA := Lib.hid ha; clear hb ha
  cases xs with
  | nil =>
    go_enter Tryz.func55, Tryz.ntmps55
    go_wp2
    go_ret3
    exact ⟨rfl, Kept.refl _ _⟩
  | cons k r =>
    obtain ⟨b, off, x, rfl, _, hx, c0⟩ := HA.out.at (i := 0) (by simp)
    simp only [List.getElem?_cons_zero, Option.some.injEq, Nat.add_zero] at hx c0
    subst hx
    have hk : k < 256 := HB.out k (by simp)
    have hr : Bytes r := fun y hy => HB.out y (by simp [hy])
    have HR := Lib.hid hr; clear hr
    have hat : NatsAt w .u8 (some ⟨b, off + 1, none⟩) r := HA.out.drop 1
    have HT := Lib.hid hat; clear hat
    simp only [List.length_cons] at hc ⊢
    generalize hlr : r.length = n at *
    have HL := Lib.hid hlr; clear hlr
    have hne : (((n + 1 : Nat) : Int) == 0) = false := by simp; omega
    by_cases h8 : 8 < k
    · have HE : Hid (getSmall (k :: r) = (0, 0, 4)) := by show _ = _; simp [getSmall, h8]
      go_enter Tryz.func55, Tryz.ntmps55
      go_wp2
      go_ret3
      exact ⟨by rw [HE.out]; rfl, by first | exact Kept.refl _ _ | exact (Kept.refl _ w).drewN _⟩
    · by_cases hn : n < k
      · have HE : Hid (getSmall (k :: r) = (0, 0, 3)) := by show _ = _; simp [getSmall, h8, HL.out, hn]
        go_enter Tryz.func55, Tryz.ntmps55
        go_wp2
        go_ret3
        exact ⟨by rw [HE.out]; rfl, by first | exact Kept.refl _ _ | exact (Kept.refl _ w).drewN _⟩
      · by_cases hk0 : k = 0
        · subst hk0
          have HE : Hid (getSmall (0 :: r) = (0, 1, 0)) := by show _ = _; simp [getSmall]; rfl
          by_cases h1 : cap = 1
          all_goals
            go_enter Tryz.func55, Tryz.ntmps55
            go_wp2_with fail
            go_quiet ((go_at_call 87; exact Calls.quiet_of_same ((rf_low _ _ ([] : List Nat) _ (by simp) (by intro x hx; cases hx) (.inl rfl)).mono fun _ _ h => ⟨h.1, h.2.symm⟩)))
            go_wp2
            go_ret3
            exact ⟨by rw [HE.out]; rfl, (Kept.refl _ w).drewN _⟩
        · obtain ⟨y, ry, hr⟩ : ∃ y ry, r = y :: ry := by cases r with | nil => exact absurd HL.out (by simp; omega) | cons y ry => exact ⟨y, ry, rfl⟩
          have HRR := Lib.hid hr; clear hr
          have c1 : w.cell? ⟨b, off + 1, none⟩ = some (.int .u8 (y : Nat)) := by
            obtain ⟨b', off', x', e, _, hx', hc'⟩ := HT.out.at (i := 0) (by rw [HRR.out]; simp)
            simp only [Option.some.injEq, Addr.mk.injEq, and_true] at e
            obtain ⟨rfl, rfl⟩ := e
            rw [HRR.out] at hx'
            simp at hx'
            subst hx'
            simpa using hc'
          by_cases hy : y = 0
          · subst hy
            have HE : Hid (getSmall (k :: r) = (0, 0, 4)) := by show _ = _; simp only [getSmall]; rw [if_neg h8, if_neg (by rw [HL.out]; exact hn), if_pos ⟨by omega, by rw [HRR.out]; rfl⟩]
            go_enter Tryz.func55, Tryz.ntmps55
            go_wp2
            go_ret3
            exact ⟨by rw [HE.out]; rfl, by first | exact Kept.refl _ _ | exact (Kept.refl _ w).drewN _⟩
          · have HE : Hid (getSmall (k :: r) = (low (r.take k), 1 + k, 0)) := by show _ = _; simp only [getSmall]; rw [if_neg h8, if_neg (by rw [HL.out]; exact hn), if_neg (by rw [HRR.out]; simp; intro _; exact hy), Nat.add_comm 1 k]
            have hyy : (((y : Nat) : Int) == 0) = false := by simp [hy]
            have hlen : (r.take k).length = k := by rw [List.length_take, HL.out]; omega
            have hnum := fun w' (hat' : NatsAt w' .u8 (some ⟨b, off + 1, none⟩) (r.take k)) => rf_low (some ⟨b, off + 1, none⟩) (cap - 1) (r.take k) w' (by omega) (fun y hy => HR.out y (List.mem_of_mem_take hy)) hat'
            simp only [hlen] at hnum
            have HN := Lib.hid hnum; clear hnum hlen
            go_enter Tryz.func55, Tryz.ntmps55
            go_wp2_with fail
            go_quiet ((go_at_call 87; exact Calls.quiet_of_same ((HN.out _ (by exact HT.out.take k)).mono fun _ _ h => ⟨h.1, h.2.symm⟩)))
            go_wp2
            go_ret3
            exact ⟨by rw [HE.out]; rfl, by first | exact Kept.refl _ _ | exact (Kept.refl _ w).drewN _⟩


/-- The document's reader, as a value. -/
abbrev rdrV (a : Option Addr) (n cap : Nat) (er : Nat) : Value := .agg #[.slice a n cap, .int .i64 (er : Nat)]

set_option maxHeartbeats 1600000 in
theorem rf_small (a : Option Addr) (cap : Nat) (xs : List Nat) (er : Nat) (w : World) (hb : Bytes xs) (hat : NatsAt w .u8 a xs) (hc : xs.length ≤ cap) (hm : cap ≤ 9223372036854775807) :
    Calls Tryz.prog 30 #[rdrV a xs.length cap er] w fun e w' => ∃ a' cap', e = .returned (.tuple #[rdrV a' (rdSmall xs er).1.length cap' (rdSmall xs er).2.1, .int .i64 ((rdSmall xs er).2.2 : Nat)]) ∧
      NatsAt w' .u8 a' (rdSmall xs er).1 ∧ (rdSmall xs er).1.length ≤ cap' ∧ cap' ≤ 9223372036854775807 ∧ (∀ x, a' = some x → ∃ y, a = some y ∧ x.block = y.block) ∧ Same w w' := by
  have HA := Lib.hid hat
  have G := Lib.hid fun w' (h : NatsAt w' .u8 a xs) => rf_getSmall a cap xs w' hb h hc hm
  have HOK := Lib.hid (getSmall_ok xs)
  have HU := Lib.hid (getSmall_lt xs hb)
  clear hat hb
  by_cases he : er = 0
  · subst he
    have HD : Hid (rdSmall xs 0 = if (getSmall xs).2.2 ≠ 0 then (xs, (getSmall xs).2.2, 0) else if 1099511627776 < (getSmall xs).1 then (xs, 9, 0) else (xs.drop (getSmall xs).2.1, 0, (getSmall xs).1)) := rfl
    generalize getSmall xs = q at *
    obtain ⟨u, n, e2⟩ := q
    by_cases h2 : e2 = 0
    · subst h2
      obtain ⟨hn1, hn2, _⟩ := HOK.out rfl
      simp only at hn1 hn2
      by_cases hu : 1099511627776 < u
      · have HE : Hid (rdSmall xs 0 = (xs, 9, 0)) := by show _ = _; rw [HD.out]; simp [hu]
        clear HD HOK HU
        go_enter Tryz.func30, Tryz.ntmps30
        go_wp2_with fail
        refine Calls.boxes2 ?_
        intro W g1 g2 k1 hz
        refine (G.out W (HA.out.same k1)).mono ?_
        rintro e w2 ⟨rfl, k2⟩
        have G1 := g1.kept k2 (fun h => h)
        have G2 := g2.kept k2 (fun h => h)
        have K := Lib.hid (k1.trans k2)
        have q0 : w2.cell? ⟨w.heap.size, 0, none⟩ = some (.slice _ _ _) := G1.cell 0 rfl
        have q1 : w2.cell? ⟨w.heap.size, 1, none⟩ = some (.int .i64 ((0 : Nat) : Int)) := G1.cell 1 rfl
        have q2 : w2.cell? ⟨w.heap.size + 1, 0, none⟩ = some (.slice none 0 0) := G2.cell 0 rfl
        have q3 : w2.cell? ⟨w.heap.size + 1, 1, none⟩ = some (.int .i64 0) := G2.cell 1 rfl
        have f2 : ∀ i, w2.frozen? ⟨w.heap.size + 1, i, none⟩ = false := G2.free
        have GG := Lib.hid G2
        clear g1 g2 k1 k2 G1 G2 hz
        go_wp2_with fail
        have p := (GG.out.set 0 (.slice a xs.length cap)).set 1 (.int .i64 (9))
        have p0 := p.cell 0 (v := .slice a xs.length cap) rfl
        have p1 := p.cell 1 (v := .int .i64 (9)) rfl
        refine bodyPost_ret (v := .tuple #[.agg #[.slice a xs.length cap, .int .i64 (9)], .int .i64 (0)]) (by simp [results, Tryz.results30, go_sem, p0, p1]) rfl ?_
        rw [HE.out]
        have KK : Same w ((w2.setCell ⟨w.heap.size + 1, 0, none⟩ (.slice a xs.length cap)).setCell ⟨w.heap.size + 1, 1, none⟩ (.int .i64 (9))) := (K.out.setNew (by simp) _).setNew (by simp) _
        exact ⟨a, cap, rfl, HA.out.same KK, hc, hm, fun x hx => ⟨x, hx, rfl⟩, KK⟩
      · have HE : Hid (rdSmall xs 0 = (xs.drop n, 0, u)) := by show _ = _; rw [HD.out]; simp [hu]
        have hlt : u < 18446744073709551616 := HU.out
        obtain ⟨b, off, _, ha, _⟩ := HA.out.at (i := 0) (by omega)
        subst ha
        clear HD HOK HU
        rcases Nat.lt_or_ge n cap with hcap | hcap
        · skip
          go_enter Tryz.func30, Tryz.ntmps30
          go_wp2_with fail
          refine Calls.boxes2 ?_
          intro W g1 g2 k1 hz
          refine (G.out W (HA.out.same k1)).mono ?_
          rintro e w2 ⟨rfl, k2⟩
          have G1 := g1.kept k2 (fun h => h)
          have G2 := g2.kept k2 (fun h => h)
          have K := Lib.hid (k1.trans k2)
          have q0 : w2.cell? ⟨w.heap.size, 0, none⟩ = some (.slice _ _ _) := G1.cell 0 rfl
          have q1 : w2.cell? ⟨w.heap.size, 1, none⟩ = some (.int .i64 ((0 : Nat) : Int)) := G1.cell 1 rfl
          have q2 : w2.cell? ⟨w.heap.size + 1, 0, none⟩ = some (.slice none 0 0) := G2.cell 0 rfl
          have q3 : w2.cell? ⟨w.heap.size + 1, 1, none⟩ = some (.int .i64 0) := G2.cell 1 rfl
          have f2 : ∀ i, w2.frozen? ⟨w.heap.size + 1, i, none⟩ = false := G2.free
          have GG := Lib.hid G2
          clear g1 g2 k1 k2 G1 G2 hz
          go_wp2_with fail
          have p := (GG.out.set 0 (.slice (some ⟨b, off + n, none⟩) (xs.length - n) (cap - n))).set 1 (.int .i64 (0))
          have p0 := p.cell 0 (v := .slice (some ⟨b, off + n, none⟩) (xs.length - n) (cap - n)) rfl
          have p1 := p.cell 1 (v := .int .i64 (0)) rfl
          refine bodyPost_ret (v := .tuple #[.agg #[.slice (some ⟨b, off + n, none⟩) (xs.length - n) (cap - n), .int .i64 (0)], .int .i64 (((u : Nat) : Int))]) (by simp [results, Tryz.results30, go_sem, p0, p1]) rfl ?_
          rw [HE.out]
          have KK : Same w ((w2.setCell ⟨w.heap.size + 1, 0, none⟩ (.slice (some ⟨b, off + n, none⟩) (xs.length - n) (cap - n))).setCell ⟨w.heap.size + 1, 1, none⟩ (.int .i64 (0))) := (K.out.setNew (by simp) _).setNew (by simp) _
          exact ⟨some ⟨b, off + n, none⟩, cap - n, by rw [List.length_drop]; rfl, (HA.out.drop n).same KK, by rw [List.length_drop]; omega, by omega, fun x hx => ⟨_, rfl, by simp at hx; subst hx; rfl⟩, KK⟩
        · obtain rfl : n = cap := by omega
          have hlen : xs.length = n := by omega
          have HLn := Lib.hid hlen; clear hlen
          go_enter Tryz.func30, Tryz.ntmps30
          go_wp2_with fail
          refine Calls.boxes2 ?_
          intro W g1 g2 k1 hz
          refine (G.out W (HA.out.same k1)).mono ?_
          rintro e w2 ⟨rfl, k2⟩
          have G1 := g1.kept k2 (fun h => h)
          have G2 := g2.kept k2 (fun h => h)
          have K := Lib.hid (k1.trans k2)
          have q0 : w2.cell? ⟨w.heap.size, 0, none⟩ = some (.slice _ _ _) := G1.cell 0 rfl
          have q1 : w2.cell? ⟨w.heap.size, 1, none⟩ = some (.int .i64 ((0 : Nat) : Int)) := G1.cell 1 rfl
          have q2 : w2.cell? ⟨w.heap.size + 1, 0, none⟩ = some (.slice none 0 0) := G2.cell 0 rfl
          have q3 : w2.cell? ⟨w.heap.size + 1, 1, none⟩ = some (.int .i64 0) := G2.cell 1 rfl
          have f2 : ∀ i, w2.frozen? ⟨w.heap.size + 1, i, none⟩ = false := G2.free
          have GG := Lib.hid G2
          clear g1 g2 k1 k2 G1 G2 hz
          go_wp2_with fail
          have p := (GG.out.set 0 (.slice (some ⟨b, off, none⟩) 0 0)).set 1 (.int .i64 (0))
          have p0 := p.cell 0 (v := .slice (some ⟨b, off, none⟩) 0 0) rfl
          have p1 := p.cell 1 (v := .int .i64 (0)) rfl
          refine bodyPost_ret (v := .tuple #[.agg #[.slice (some ⟨b, off, none⟩) 0 0, .int .i64 (0)], .int .i64 (((u : Nat) : Int))]) (by simp [results, Tryz.results30, go_sem, p0, p1]) rfl ?_
          rw [HE.out]
          have KK : Same w ((w2.setCell ⟨w.heap.size + 1, 0, none⟩ (.slice (some ⟨b, off, none⟩) 0 0)).setCell ⟨w.heap.size + 1, 1, none⟩ (.int .i64 (0))) := (K.out.setNew (by simp) _).setNew (by simp) _
          have hnil : xs.drop n = [] := List.drop_of_length_le (by rw [HLn.out]; omega)
          exact ⟨some ⟨b, off, none⟩, 0, by rw [List.length_drop, HLn.out, Nat.sub_self]; rfl, by rw [hnil]; exact .inl rfl, by rw [hnil]; simp, by omega, fun x hx => ⟨_, rfl, by simp at hx; subst hx; rfl⟩, KK⟩
    · have HE : Hid (rdSmall xs 0 = (xs, e2, 0)) := by show _ = _; rw [HD.out]; simp [h2]
      have hbe : (((e2 : Nat) : Int) == 0) = false := by simp [h2]
      have hbn : (((e2 : Nat) : Int) != 0) = true := by simp [h2]
      clear HD HOK HU
      go_enter Tryz.func30, Tryz.ntmps30
      go_wp2_with fail
      refine Calls.boxes2 ?_
      intro W g1 g2 k1 hz
      refine (G.out W (HA.out.same k1)).mono ?_
      rintro e w2 ⟨rfl, k2⟩
      have G1 := g1.kept k2 (fun h => h)
      have G2 := g2.kept k2 (fun h => h)
      have K := Lib.hid (k1.trans k2)
      have q0 : w2.cell? ⟨w.heap.size, 0, none⟩ = some (.slice _ _ _) := G1.cell 0 rfl
      have q1 : w2.cell? ⟨w.heap.size, 1, none⟩ = some (.int .i64 ((0 : Nat) : Int)) := G1.cell 1 rfl
      have q2 : w2.cell? ⟨w.heap.size + 1, 0, none⟩ = some (.slice none 0 0) := G2.cell 0 rfl
      have q3 : w2.cell? ⟨w.heap.size + 1, 1, none⟩ = some (.int .i64 0) := G2.cell 1 rfl
      have f2 : ∀ i, w2.frozen? ⟨w.heap.size + 1, i, none⟩ = false := G2.free
      have GG := Lib.hid G2
      clear g1 g2 k1 k2 G1 G2 hz
      go_wp2_with fail
      have p := (GG.out.set 0 (.slice a xs.length cap)).set 1 (.int .i64 (((e2 : Nat) : Int)))
      have p0 := p.cell 0 (v := .slice a xs.length cap) rfl
      have p1 := p.cell 1 (v := .int .i64 (((e2 : Nat) : Int))) rfl
      refine bodyPost_ret (v := .tuple #[.agg #[.slice a xs.length cap, .int .i64 (((e2 : Nat) : Int))], .int .i64 (0)]) (by simp [results, Tryz.results30, go_sem, p0, p1]) rfl ?_
      rw [HE.out]
      have KK : Same w ((w2.setCell ⟨w.heap.size + 1, 0, none⟩ (.slice a xs.length cap)).setCell ⟨w.heap.size + 1, 1, none⟩ (.int .i64 (((e2 : Nat) : Int)))) := (K.out.setNew (by simp) _).setNew (by simp) _
      exact ⟨a, cap, rfl, HA.out.same KK, hc, hm, fun x hx => ⟨x, hx, rfl⟩, KK⟩
  · have HE : Hid (rdSmall xs er = (xs, er, 0)) := by show _ = _; simp [rdSmall, he]
    have hbn : (((er : Nat) : Int) != 0) = true := by simp [he]
    go_enter Tryz.func30, Tryz.ntmps30
    go_wp2_with fail
    have p : Blk ((w.alloc (.cells #[.slice a xs.length cap, .int .i64 (er : Nat)] 61)).alloc (.cells #[.slice a xs.length cap, .int .i64 (er : Nat)] 61)) (w.heap.size + 1) #[.slice a xs.length cap, .int .i64 (er : Nat)] 61 := Blk.new' _ _ _ (by simp)
    refine bodyPost_ret (v := .tuple #[.agg #[.slice a xs.length cap, .int .i64 (er : Nat)], .int .i64 0]) (by simp [results, Tryz.results30, go_sem]) rfl ?_
    rw [HE.out]
    have KK := (((Kept.refl (fun _ => False) w).alloc (.cells #[.slice a xs.length cap, .int .i64 (er : Nat)] 61)).alloc (.cells #[.slice a xs.length cap, .int .i64 (er : Nat)] 61))
    exact ⟨a, cap, rfl, HA.out.same KK, hc, hm, fun x hx => ⟨x, hx, rfl⟩, KK⟩

end Go.Proofs.YtpgghajkpjhieaaGreatDoor
