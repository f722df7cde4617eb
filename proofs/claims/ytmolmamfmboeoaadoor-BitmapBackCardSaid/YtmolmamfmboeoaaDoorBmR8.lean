/- Walks over the document's maps: Set. -/
import Derived.Test.YtmolmamfmboeoaaDoorBmR7
import Derived.Test.YtmolmamfmboeoaaDoorBmSet
import Derived.Test.YtmolmamfmboeoaaDoorBm3
import Derived.Test.YtmolmamfmboeoaaDoorSl2
namespace Go.Proofs.YtmolmamfmboeoaaDoor
open Go.RowKit

/-- A map that is told; its words lie somewhere. -/
def MapAt (w : World) (s : Int) (ws : List Nat) (e : Ending) (w' : World) : Prop :=
  ∃ v c, e = .returned (mapV s v ws.length c) ∧ NatsAt w' .u64 v ws ∧ (v = none → c = 0) ∧ Same w w'

theorem putBit_self (x k : Nat) (on : Bool) (h : x.testBit k = on) : putBit x k on = x := by simp [putBit, h]
theorem setN_same {s : Int} {ws : List Nat} {n : Int} {on : Bool} (h : bitN ws n.toNat = on) : setN s ws n on = ws := by
  unfold setN
  split
  · unfold putN
    rw [putBit_self _ _ _ h]
    by_cases hi : n.toNat / 64 < ws.length
    · rw [List.getD, List.getElem?_eq_getElem hi]
      simp
    · rw [List.set_eq_of_length_le (by omega)]
  · rfl
theorem setN_len (s : Int) (ws : List Nat) (n : Int) (on : Bool) : (setN s ws n on).length = ws.length := by
  unfold setN; split
  · exact putN_length _ _ _
  · rfl


set_option maxHeartbeats 800000 in
theorem rb_set_same (s : Int) (a : Option Addr) (cap : Nat) (ws : List Nat) (n : Int) (on : Bool) (w : World) (hw : Words ws) (hnil : a = none → cap = 0) (hat : NatsAt w .u64 a ws)
    (h : mapOK s ws = false ∨ n < 0 ∨ s ≤ n ∨ bitN ws n.toNat = on) :
    Calls Tryd.prog 13 #[mapV s a ws.length cap, .int .i64 n, .bool on] w (MapAt w s ws) := by
  have HA := Lib.hid hat; clear hat
  have HNil := Lib.hid hnil; clear hnil
  cases hm : mapOK s ws
  · have CC := Lib.hid fun w' h => rb_check4 s a cap ws w' hw hm h
    clear hm hw h
    generalize hl : ws.length = l at CC ⊢
    have HL := Lib.hid hl; clear hl
    go_enter Tryd.func13, Tryd.ntmps13
    go_wp2_with fail
    refine Calls.boxes2 ?_
    intro W g1 g2 k1 _
    refine (CC.out W (HA.out.same k1)).mono ?_
    rintro e w2 ⟨rfl, k2⟩
    have K := Lib.hid (k1.trans k2)
    have G1 := Lib.hid (g1.kept k2 (fun h => h))
    have G2 := Lib.hid (g2.kept k2 (fun h => h))
    have q0 : w2.cell? ⟨w.heap.size, 0, none⟩ = some (.int .i64 s) := G1.out.cell 0 rfl
    have q1 : w2.cell? ⟨w.heap.size, 1, none⟩ = some (.slice a l cap) := G1.out.cell 1 rfl
    have q2 : w2.cell? ⟨w.heap.size + 1, 0, none⟩ = some (.int .i64 0) := G2.out.cell 0 rfl
    have q3 : w2.cell? ⟨w.heap.size + 1, 1, none⟩ = some (.slice none 0 0) := G2.out.cell 1 rfl
    have f2 : ∀ i, w2.frozen? ⟨w.heap.size + 1, i, none⟩ = false := G2.out.free
    clear g1 g2 k1 k2
    go_wp2_with fail
    have p := (G2.out.set 0 (.int .i64 s)).set 1 (.slice a l cap)
    have p0 := p.cell 0 (v := .int .i64 s) rfl
    have p1 := p.cell 1 (v := .slice a l cap) rfl
    have KS := (K.out.setNew (p := ⟨w.heap.size + 1, 0, none⟩) (by show _ ≤ _ + 1; omega) (.int .i64 s)).setNew (p := ⟨w.heap.size + 1, 1, none⟩) (by show _ ≤ _ + 1; omega) (.slice a l cap)
    exact bodyPost_ret (v := mapV s a l cap) (by simp [results, Tryd.results13, go_sem, p0, p1]) rfl ⟨a, cap, by rw [HL.out], HA.out.same KS, HNil.out, KS⟩
  · have CC := Lib.hid fun w' h => rb_check0 s a cap ws w' hw hm h
    by_cases h0 : n < 0
    · clear hm hw h
      generalize hl : ws.length = l at CC ⊢
      have HL := Lib.hid hl; clear hl
      go_enter Tryd.func13, Tryd.ntmps13
      go_wp2_with fail
      refine Calls.boxes2 ?_
      intro W g1 g2 k1 _
      refine (CC.out W (HA.out.same k1)).mono ?_
      rintro e w2 ⟨rfl, k2⟩
      have K := Lib.hid (k1.trans k2)
      have G1 := Lib.hid (g1.kept k2 (fun h => h))
      have G2 := Lib.hid (g2.kept k2 (fun h => h))
      have q0 : w2.cell? ⟨w.heap.size, 0, none⟩ = some (.int .i64 s) := G1.out.cell 0 rfl
      have q1 : w2.cell? ⟨w.heap.size, 1, none⟩ = some (.slice a l cap) := G1.out.cell 1 rfl
      have q2 : w2.cell? ⟨w.heap.size + 1, 0, none⟩ = some (.int .i64 0) := G2.out.cell 0 rfl
      have q3 : w2.cell? ⟨w.heap.size + 1, 1, none⟩ = some (.slice none 0 0) := G2.out.cell 1 rfl
      have f2 : ∀ i, w2.frozen? ⟨w.heap.size + 1, i, none⟩ = false := G2.out.free
      clear g1 g2 k1 k2
      go_wp2_with fail
      have p := (G2.out.set 0 (.int .i64 s)).set 1 (.slice a l cap)
      have p0 := p.cell 0 (v := .int .i64 s) rfl
      have p1 := p.cell 1 (v := .slice a l cap) rfl
      have KS := (K.out.setNew (p := ⟨w.heap.size + 1, 0, none⟩) (by show _ ≤ _ + 1; omega) (.int .i64 s)).setNew (p := ⟨w.heap.size + 1, 1, none⟩) (by show _ ≤ _ + 1; omega) (.slice a l cap)
      exact bodyPost_ret (v := mapV s a l cap) (by simp [results, Tryd.results13, go_sem, p0, p1]) rfl ⟨a, cap, by rw [HL.out], HA.out.same KS, HNil.out, KS⟩
    · by_cases h1 : s ≤ n
      · clear hm hw h
        have h2 : decide (n ≥ s) = true := decide_eq_true h1
        generalize hl : ws.length = l at CC ⊢
        have HL := Lib.hid hl; clear hl
        go_enter Tryd.func13, Tryd.ntmps13
        go_wp2_with fail
        refine Calls.boxes2 ?_
        intro W g1 g2 k1 _
        refine (CC.out W (HA.out.same k1)).mono ?_
        rintro e w2 ⟨rfl, k2⟩
        have K := Lib.hid (k1.trans k2)
        have G1 := Lib.hid (g1.kept k2 (fun h => h))
        have G2 := Lib.hid (g2.kept k2 (fun h => h))
        have q0 : w2.cell? ⟨w.heap.size, 0, none⟩ = some (.int .i64 s) := G1.out.cell 0 rfl
        have q1 : w2.cell? ⟨w.heap.size, 1, none⟩ = some (.slice a l cap) := G1.out.cell 1 rfl
        have q2 : w2.cell? ⟨w.heap.size + 1, 0, none⟩ = some (.int .i64 0) := G2.out.cell 0 rfl
        have q3 : w2.cell? ⟨w.heap.size + 1, 1, none⟩ = some (.slice none 0 0) := G2.out.cell 1 rfl
        have f2 : ∀ i, w2.frozen? ⟨w.heap.size + 1, i, none⟩ = false := G2.out.free
        clear g1 g2 k1 k2
        go_wp2_with fail
        have p := (G2.out.set 0 (.int .i64 s)).set 1 (.slice a l cap)
        have p0 := p.cell 0 (v := .int .i64 s) rfl
        have p1 := p.cell 1 (v := .slice a l cap) rfl
        have KS := (K.out.setNew (p := ⟨w.heap.size + 1, 0, none⟩) (by show _ ≤ _ + 1; omega) (.int .i64 s)).setNew (p := ⟨w.heap.size + 1, 1, none⟩) (by show _ ≤ _ + 1; omega) (.slice a l cap)
        exact bodyPost_ret (v := mapV s a l cap) (by simp [results, Tryd.results13, go_sem, p0, p1]) rfl ⟨a, cap, by rw [HL.out], HA.out.same KS, HNil.out, KS⟩
      · have hb : bitN ws n.toNat = on := by rcases h with h | h | h | h; rw [hm] at h; cases h; omega; omega; exact h
        obtain ⟨N, rfl⟩ := Int.eq_ofNat_of_zero_le (show 0 ≤ n by omega)
        have p1 := mapOK_pos hm
        have p2 := mapOK_len hm
        have BB := Lib.hid fun w' h => rb_bit s a cap ws N w' h (by omega) (by omega)
        rw [Int.toNat_natCast] at hb
        rw [hb] at BB
        have hbb : (on == on) = true := by simp
        have h2 : decide ((N : Int) ≥ s) = false := decide_eq_false (by omega)
        clear hm hw h p1 p2 hb
        generalize hl : ws.length = l at CC BB ⊢
        have HL := Lib.hid hl; clear hl
        go_enter Tryd.func13, Tryd.ntmps13
        go_wp2_with fail
        refine Calls.boxes2 ?_
        intro W g1 g2 k1 _
        refine (CC.out W (HA.out.same k1)).mono ?_
        rintro e w2 ⟨rfl, k2⟩
        have K := Lib.hid (k1.trans k2)
        have G1 := Lib.hid (g1.kept k2 (fun h => h))
        have G2 := Lib.hid (g2.kept k2 (fun h => h))
        have q0 : w2.cell? ⟨w.heap.size, 0, none⟩ = some (.int .i64 s) := G1.out.cell 0 rfl
        have q1 : w2.cell? ⟨w.heap.size, 1, none⟩ = some (.slice a l cap) := G1.out.cell 1 rfl
        clear g1 g2 k1 k2
        go_wp2_with fail
        refine (BB.out w2 (HA.out.same K.out)).mono ?_
        rintro e w3 ⟨rfl, k3⟩
        have K := Lib.hid (K.out.trans k3)
        have G1 := Lib.hid (G1.out.kept k3 (fun h => h))
        have G2 := Lib.hid (G2.out.kept k3 (fun h => h))
        clear q0 q1 k3
        have q0 : w3.cell? ⟨w.heap.size, 0, none⟩ = some (.int .i64 s) := G1.out.cell 0 rfl
        have q1 : w3.cell? ⟨w.heap.size, 1, none⟩ = some (.slice a l cap) := G1.out.cell 1 rfl
        have q2 : w3.cell? ⟨w.heap.size + 1, 0, none⟩ = some (.int .i64 0) := G2.out.cell 0 rfl
        have q3 : w3.cell? ⟨w.heap.size + 1, 1, none⟩ = some (.slice none 0 0) := G2.out.cell 1 rfl
        have f2 : ∀ i, w3.frozen? ⟨w.heap.size + 1, i, none⟩ = false := G2.out.free
        go_wp2_with fail
        have p := (G2.out.set 0 (.int .i64 s)).set 1 (.slice a l cap)
        have p0 := p.cell 0 (v := .int .i64 s) rfl
        have p1 := p.cell 1 (v := .slice a l cap) rfl
        have KS := (K.out.setNew (p := ⟨w.heap.size + 1, 0, none⟩) (by show _ ≤ _ + 1; omega) (.int .i64 s)).setNew (p := ⟨w.heap.size + 1, 1, none⟩) (by show _ ≤ _ + 1; omega) (.slice a l cap)
        exact bodyPost_ret (v := mapV s a l cap) (by simp [results, Tryd.results13, go_sem, p0, p1]) rfl ⟨a, cap, by rw [HL.out], HA.out.same KS, HNil.out, KS⟩

end Go.Proofs.YtmolmamfmboeoaaDoor
