/- Dc3: the document's reader takes a text off. -/
import Derived.Test.YtpgghajkpjhieaaGreatDoorGDc
import Derived.Test.YtpgghajkpjhieaaGreatDoorOrdR2
import Derived.Lib.MinMax
namespace Go.Proofs.YtpgghajkpjhieaaGreatDoor
open Go.RowKit

theorem addT_ok {a : List Nat} {k : Nat} {r : List Nat × Nat × Nat} (h : (addT a k r).2.2 = 0) : r.2.2 = 0 ∧ (addT a k r).1 = a ++ r.1 ∧ (addT a k r).2.1 = k + r.2.1 := by
  unfold addT at h ⊢
  split at h
  · rename_i h0; rw [if_pos h0]; exact ⟨h0, rfl, rfl⟩
  · rename_i h0; exact absurd h h0
theorem gT_ok : ∀ (xs : List Nat), (gT xs).2.2 = 0 → 2 ≤ (gT xs).2.1 ∧ (gT xs).2.1 ≤ xs.length ∧ (gT xs).1.length ≤ xs.length
  | [], h => by simp [gT] at h
  | [_], h => by simp [gT] at h
  | c :: d :: m, h => by
    unfold gT at h ⊢
    by_cases hc : c = 0
    · rw [if_pos hc] at h ⊢
      by_cases h1 : d = 1
      · rw [if_pos h1]; simp
      · rw [if_neg h1] at h ⊢
        by_cases h2 : d = 255
        · rw [if_pos h2] at h ⊢
          obtain ⟨q0, q1, q2⟩ := addT_ok h
          obtain ⟨r1, r2, r3⟩ := gT_ok m q0
          rw [q1, q2]
          simp
          omega
        · rw [if_neg h2] at h; simp at h
    · rw [if_neg hc] at h ⊢
      obtain ⟨q0, q1, q2⟩ := addT_ok h
      obtain ⟨r1, r2, r3⟩ := gT_ok (d :: m) q0
      rw [q1, q2]
      simp at r2 r3 ⊢
      omega
/-- What a reader of bytes (er: its first error) tells of a text of at most so many bytes: what is left, the error, the text. -/
def rdText (xs : List Nat) (er most : Nat) : List Nat × Nat × List Nat :=
  if er ≠ 0 then (xs, er, []) else if (gT xs).2.2 ≠ 0 then (xs, (gT xs).2.2, []) else if most < (gT xs).1.length then (xs, 5, []) else (xs.drop (gT xs).2.1, 0, (gT xs).1)
set_option maxHeartbeats 1600000 in
theorem rf_text (a : Option Addr) (cap : Nat) (xs : List Nat) (er most : Nat) (w : World) (hb : Bts xs) (hl : xs.length ≤ 1000000) (hmo : most ≤ 1000000) (hat : NatsAt w .u8 a xs) (hc : xs.length ≤ cap) (hm : cap ≤ 9223372036854775807) :
    Calls Tryz.prog 31 #[rdrV a xs.length cap er, .int .i64 (most : Nat)] w fun e w' => ∃ a' cap', e = .returned (.tuple #[rdrV a' (rdText xs er most).1.length cap' (rdText xs er most).2.1, .string (strN (rdText xs er most).2.2)]) ∧
      NatsAt w' .u8 a' (rdText xs er most).1 ∧ (rdText xs er most).1.length ≤ cap' ∧ cap' ≤ 9223372036854775807 ∧ (∀ x, a' = some x → ∃ y, a = some y ∧ x.block = y.block) ∧ Same w w' := by
  have HA := Lib.hid hat
  have G := Lib.hid fun w' (h : NatsAt w' .u8 a xs) => (show Calls Tryz.prog 56 #[.slice a xs.length cap] w' fun e w'' => e = .returned (.tuple #[.string (strN (gT xs).1), .int .i64 ((gT xs).2.1 : Nat), .int .i64 ((gT xs).2.2 : Nat)]) ∧ Same w' w'' from rf_getText a xs.length cap xs rfl hb hl w' h)
  have MX : max (0 : Int) (most : Int) = (most : Int) := by omega
  have HOK := Lib.hid (gT_ok xs)
  clear hat hb
  by_cases he : er = 0
  · subst he
    have HD : Hid (rdText xs 0 most = if (gT xs).2.2 ≠ 0 then (xs, (gT xs).2.2, []) else if most < (gT xs).1.length then (xs, 5, []) else (xs.drop (gT xs).2.1, 0, (gT xs).1)) := rfl
    generalize gT xs = q at *
    obtain ⟨u, n, e2⟩ := q
    by_cases h2 : e2 = 0
    · subst h2
      obtain ⟨hn1, hn2, _⟩ := HOK.out rfl
      simp only at hn1 hn2
      have SZ : (strN u).size = u.length := strN_len u
      by_cases hu : most < u.length
      · have HE : Hid (rdText xs 0 most = (xs, 5, [])) := by show _ = _; rw [HD.out]; simp [hu]
        clear HD HOK
        go_enter Tryz.func31, Tryz.ntmps31
        go_wp2_with fail
        refine Calls.boxes2 ?_
        intro W g1 g2 k1 hz
        refine (G.out W (HA.out.same k1)).mono ?_
        rintro e w2 ⟨rfl, k2⟩
        have G1 := g1.kept k2 (fun h => h)
        have G2 := g2.kept k2 (fun h => h)
        have K := Lib.hid (k1.trans k2)
        have q0 : w2.cell? ⟨w.heap.size, 0, none⟩ = some (.slice _ _ _) := G1.cell 0 rfl
        have q1 : w2.cell? ⟨w.heap.size, 1, none⟩ = some (.int .i64 ((0 : Nat) : Int)) := G1.cell 1 rfl
        have q2 : w2.cell? ⟨w.heap.size + 1, 0, none⟩ = some (.slice none 0 0) := G2.cell 0 rfl
        have q3 : w2.cell? ⟨w.heap.size + 1, 1, none⟩ = some (.int .i64 0) := G2.cell 1 rfl
        have f2 : ∀ i, w2.frozen? ⟨w.heap.size + 1, i, none⟩ = false := G2.free
        have GG := Lib.hid G2
        clear g1 g2 k1 k2 G1 G2 hz
        go_wp2_with fail
        have p := (GG.out.set 0 (.slice a xs.length cap)).set 1 (.int .i64 (5))
        have p0 := p.cell 0 (v := .slice a xs.length cap) rfl
        have p1 := p.cell 1 (v := .int .i64 (5)) rfl
        refine bodyPost_ret (v := .tuple #[.agg #[.slice a xs.length cap, .int .i64 (5)], .string (strN [])]) (by simp [results, Tryz.results31, go_sem, p0, p1, strN]) rfl ?_
        rw [HE.out]
        have KK : Same w ((w2.setCell ⟨w.heap.size + 1, 0, none⟩ (.slice a xs.length cap)).setCell ⟨w.heap.size + 1, 1, none⟩ (.int .i64 (5))) := (K.out.setNew (by simp) _).setNew (by simp) _
        exact ⟨a, cap, rfl, HA.out.same KK, hc, hm, fun x hx => ⟨x, hx, rfl⟩, KK⟩
      · have HE : Hid (rdText xs 0 most = (xs.drop n, 0, u)) := by show _ = _; rw [HD.out]; simp [hu]
        obtain ⟨b, off, _, ha, _⟩ := HA.out.at (i := 0) (by omega)
        subst ha
        clear HD HOK
        rcases Nat.lt_or_ge n cap with hcap | hcap
        · skip
          go_enter Tryz.func31, Tryz.ntmps31
          go_wp2_with fail
          refine Calls.boxes2 ?_
          intro W g1 g2 k1 hz
          refine (G.out W (HA.out.same k1)).mono ?_
          rintro e w2 ⟨rfl, k2⟩
          have G1 := g1.kept k2 (fun h => h)
          have G2 := g2.kept k2 (fun h => h)
          have K := Lib.hid (k1.trans k2)
          have q0 : w2.cell? ⟨w.heap.size, 0, none⟩ = some (.slice _ _ _) := G1.cell 0 rfl
          have q1 : w2.cell? ⟨w.heap.size, 1, none⟩ = some (.int .i64 ((0 : Nat) : Int)) := G1.cell 1 rfl
          have q2 : w2.cell? ⟨w.heap.size + 1, 0, none⟩ = some (.slice none 0 0) := G2.cell 0 rfl
          have q3 : w2.cell? ⟨w.heap.size + 1, 1, none⟩ = some (.int .i64 0) := G2.cell 1 rfl
          have f2 : ∀ i, w2.frozen? ⟨w.heap.size + 1, i, none⟩ = false := G2.free
          have GG := Lib.hid G2
          clear g1 g2 k1 k2 G1 G2 hz
          go_wp2_with fail
          have p := (GG.out.set 0 (.slice (some ⟨b, off + n, none⟩) (xs.length - n) (cap - n))).set 1 (.int .i64 (0))
          have p0 := p.cell 0 (v := .slice (some ⟨b, off + n, none⟩) (xs.length - n) (cap - n)) rfl
          have p1 := p.cell 1 (v := .int .i64 (0)) rfl
          refine bodyPost_ret (v := .tuple #[.agg #[.slice (some ⟨b, off + n, none⟩) (xs.length - n) (cap - n), .int .i64 (0)], .string (strN u)]) (by simp [results, Tryz.results31, go_sem, p0, p1, strN]) rfl ?_
          rw [HE.out]
          have KK : Same w ((w2.setCell ⟨w.heap.size + 1, 0, none⟩ (.slice (some ⟨b, off + n, none⟩) (xs.length - n) (cap - n))).setCell ⟨w.heap.size + 1, 1, none⟩ (.int .i64 (0))) := (K.out.setNew (by simp) _).setNew (by simp) _
          exact ⟨some ⟨b, off + n, none⟩, cap - n, by rw [List.length_drop]; rfl, (HA.out.drop n).same KK, by rw [List.length_drop]; omega, by omega, fun x hx => ⟨_, rfl, by simp at hx; subst hx; rfl⟩, KK⟩
        · obtain rfl : n = cap := by omega
          have hlen : xs.length = n := by omega
          have HLn := Lib.hid hlen; clear hlen
          go_enter Tryz.func31, Tryz.ntmps31
          go_wp2_with fail
          refine Calls.boxes2 ?_
          intro W g1 g2 k1 hz
          refine (G.out W (HA.out.same k1)).mono ?_
          rintro e w2 ⟨rfl, k2⟩
          have G1 := g1.kept k2 (fun h => h)
          have G2 := g2.kept k2 (fun h => h)
          have K := Lib.hid (k1.trans k2)
          have q0 : w2.cell? ⟨w.heap.size, 0, none⟩ = some (.slice _ _ _) := G1.cell 0 rfl
          have q1 : w2.cell? ⟨w.heap.size, 1, none⟩ = some (.int .i64 ((0 : Nat) : Int)) := G1.cell 1 rfl
          have q2 : w2.cell? ⟨w.heap.size + 1, 0, none⟩ = some (.slice none 0 0) := G2.cell 0 rfl
          have q3 : w2.cell? ⟨w.heap.size + 1, 1, none⟩ = some (.int .i64 0) := G2.cell 1 rfl
          have f2 : ∀ i, w2.frozen? ⟨w.heap.size + 1, i, none⟩ = false := G2.free
          have GG := Lib.hid G2
          clear g1 g2 k1 k2 G1 G2 hz
          go_wp2_with fail
          have p := (GG.out.set 0 (.slice (some ⟨b, off, none⟩) 0 0)).set 1 (.int .i64 (0))
          have p0 := p.cell 0 (v := .slice (some ⟨b, off, none⟩) 0 0) rfl
          have p1 := p.cell 1 (v := .int .i64 (0)) rfl
          refine bodyPost_ret (v := .tuple #[.agg #[.slice (some ⟨b, off, none⟩) 0 0, .int .i64 (0)], .string (strN u)]) (by simp [results, Tryz.results31, go_sem, p0, p1, strN]) rfl ?_
          rw [HE.out]
          have KK : Same w ((w2.setCell ⟨w.heap.size + 1, 0, none⟩ (.slice (some ⟨b, off, none⟩) 0 0)).setCell ⟨w.heap.size + 1, 1, none⟩ (.int .i64 (0))) := (K.out.setNew (by simp) _).setNew (by simp) _
          have hnil : xs.drop n = [] := List.drop_of_length_le (by rw [HLn.out]; omega)
          exact ⟨some ⟨b, off, none⟩, 0, by rw [List.length_drop, HLn.out, Nat.sub_self]; rfl, by rw [hnil]; exact .inl rfl, by rw [hnil]; simp, by omega, fun x hx => ⟨_, rfl, by simp at hx; subst hx; rfl⟩, KK⟩
    · have HE : Hid (rdText xs 0 most = (xs, e2, [])) := by show _ = _; rw [HD.out]; simp [h2]
      have hbe : (((e2 : Nat) : Int) == 0) = false := by simp [h2]
      have hbn : (((e2 : Nat) : Int) != 0) = true := by simp [h2]
      clear HD HOK
      go_enter Tryz.func31, Tryz.ntmps31
      go_wp2_with fail
      refine Calls.boxes2 ?_
      intro W g1 g2 k1 hz
      refine (G.out W (HA.out.same k1)).mono ?_
      rintro e w2 ⟨rfl, k2⟩
      have G1 := g1.kept k2 (fun h => h)
      have G2 := g2.kept k2 (fun h => h)
      have K := Lib.hid (k1.trans k2)
      have q0 : w2.cell? ⟨w.heap.size, 0, none⟩ = some (.slice _ _ _) := G1.cell 0 rfl
      have q1 : w2.cell? ⟨w.heap.size, 1, none⟩ = some (.int .i64 ((0 : Nat) : Int)) := G1.cell 1 rfl
      have q2 : w2.cell? ⟨w.heap.size + 1, 0, none⟩ = some (.slice none 0 0) := G2.cell 0 rfl
      have q3 : w2.cell? ⟨w.heap.size + 1, 1, none⟩ = some (.int .i64 0) := G2.cell 1 rfl
      have f2 : ∀ i, w2.frozen? ⟨w.heap.size + 1, i, none⟩ = false := G2.free
      have GG := Lib.hid G2
      clear g1 g2 k1 k2 G1 G2 hz
      go_wp2_with fail
      have p := (GG.out.set 0 (.slice a xs.length cap)).set 1 (.int .i64 (((e2 : Nat) : Int)))
      have p0 := p.cell 0 (v := .slice a xs.length cap) rfl
      have p1 := p.cell 1 (v := .int .i64 (((e2 : Nat) : Int))) rfl
      refine bodyPost_ret (v := .tuple #[.agg #[.slice a xs.length cap, .int .i64 (((e2 : Nat) : Int))], .string (strN [])]) (by simp [results, Tryz.results31, go_sem, p0, p1, strN]) rfl ?_
      rw [HE.out]
      have KK : Same w ((w2.setCell ⟨w.heap.size + 1, 0, none⟩ (.slice a xs.length cap)).setCell ⟨w.heap.size + 1, 1, none⟩ (.int .i64 (((e2 : Nat) : Int)))) := (K.out.setNew (by simp) _).setNew (by simp) _
      exact ⟨a, cap, rfl, HA.out.same KK, hc, hm, fun x hx => ⟨x, hx, rfl⟩, KK⟩
  · have HE : Hid (rdText xs er most = (xs, er, [])) := by show _ = _; simp [rdText, he]
    have hbn : (((er : Nat) : Int) != 0) = true := by simp [he]
    go_enter Tryz.func31, Tryz.ntmps31
    go_wp2_with fail
    have p : Blk ((w.alloc (.cells #[.slice a xs.length cap, .int .i64 (er : Nat)] 61)).alloc (.cells #[.slice a xs.length cap, .int .i64 (er : Nat)] 61)) (w.heap.size + 1) #[.slice a xs.length cap, .int .i64 (er : Nat)] 61 := Blk.new' _ _ _ (by simp)
    refine bodyPost_ret (v := .tuple #[.agg #[.slice a xs.length cap, .int .i64 (er : Nat)], .string (strN [])]) (by simp [results, Tryz.results31, go_sem, strN]) rfl ?_
    rw [HE.out]
    have KK := (((Kept.refl (fun _ => False) w).alloc (.cells #[.slice a xs.length cap, .int .i64 (er : Nat)] 61)).alloc (.cells #[.slice a xs.length cap, .int .i64 (er : Nat)] 61))
    exact ⟨a, cap, rfl, HA.out.same KK, hc, hm, fun x hx => ⟨x, hx, rfl⟩, KK⟩

end Go.Proofs.YtpgghajkpjhieaaGreatDoor
