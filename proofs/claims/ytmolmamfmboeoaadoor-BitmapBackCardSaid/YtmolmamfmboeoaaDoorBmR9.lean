/- Walks over the document's maps: Set. -/
import Derived.Test.YtmolmamfmboeoaaDoorBmR8
import Derived.IntWalk
namespace Go.Proofs.YtmolmamfmboeoaaDoor
open Go.RowKit

theorem own_some {w : World} {base l : Nat} {e : TypeId} {k : IntKind} {v : Value} {xs : List Nat} (h : OwnN w base e k v ([] ++ xs)) (hl : xs.length = l) (hx : 0 < l) :
    ∃ g c, v = .slice (some ⟨g, 0, none⟩) l c ∧ base ≤ g ∧ g < w.heap.size ∧ OwnN w base e k (.slice (some ⟨g, 0, none⟩) l c) xs := by
  rw [List.nil_append] at h
  subst hl
  obtain ⟨A, C, rfl, r1, r2, r3, r4, r5⟩ := h.read
  cases A with
  | none => have := r3 rfl; omega
  | some x =>
    obtain ⟨h1, h2, h3, h4⟩ := r5 x rfl
    obtain ⟨g, o, sp⟩ := x
    simp only at h1 h2 h3 h4
    subst h3 h4
    exact ⟨g, C, rfl, h1, h2, h⟩

/-- The new map's block, behind an append onto another row. -/
theorem map_grown {w w' : World} {g r : Nat} {row : Option Nat} (h : Blk w g #[.int .i64 0, .slice none 0 0] 24) (hg : w.grownBy w' row) (hr : row = some r) (hne : g ≠ r) :
    w'.cell? ⟨g, 0, none⟩ = some (.int .i64 0) ∧ w'.cell? ⟨g, 1, none⟩ = some (.slice none 0 0) ∧ (∀ i, w'.frozen? ⟨g, i, none⟩ = false) ∧ Blk w' g #[.int .i64 0, .slice none 0 0] 24 := by
  subst hr
  have k := (Kept.refl (fun j => j = r) w).grown hg (fun k hk _ => by cases hk; rfl)
  have b := h.kept k hne
  exact ⟨b.cell 0 rfl, b.cell 1 rfl, b.free, b⟩


set_option maxHeartbeats 400000 in
theorem rb_set_put (S N : Nat) (b off cap : Nat) (ws : List Nat) (on : Bool) (w : World) (hw : Words ws) (hat : NatsAt w .u64 (some ⟨b, off, none⟩) ws)
    (hm : mapOK S ws = true) (hN : N < S) (hb : bitN ws N = !on) :
    Calls Tryd.prog 13 #[mapV S (some ⟨b, off, none⟩) ws.length cap, .int .i64 (N : Nat), .bool on] w (MapAt w S (putN ws N on)) := by
  have HA := Lib.hid hat; clear hat
  have CC := Lib.hid fun w' h => rb_check0 S (some ⟨b, off, none⟩) cap ws w' hw hm h
  have p1 := mapOK_pos hm
  have p2 := mapOK_len hm
  rw [Int.toNat_natCast] at p2
  have hi : N / 64 < ws.length := by omega
  have hl64 : ws.length ≤ 64 := by omega
  have BB := Lib.hid fun w' h => rb_bit S (some ⟨b, off, none⟩) cap ws N w' h hi hl64
  rw [hb] at BB
  have hbb : (!on == on) = false := by cases on <;> rfl
  have h2 : decide ((N : Int) ≥ (S : Int)) = false := decide_eq_false (by omega)
  have hS : S ≤ 4096 := by omega
  have HW := Lib.hid hw; have HB := Lib.hid hb
  clear hm hw p1 p2 hb
  generalize hl : ws.length = l at CC BB hi hl64 ⊢
  have HL := Lib.hid hl; clear hl
  go_enter Tryd.func13, Tryd.ntmps13
  go_wp2_with fail
  refine Calls.boxes2 ?_
  intro W g1 g2 k1 _
  refine (CC.out W (HA.out.same k1)).mono ?_
  rintro e w2 ⟨rfl, k2⟩
  have K := Lib.hid (k1.trans k2)
  have G1 := Lib.hid (g1.kept k2 (fun h => h))
  have G2 := Lib.hid (g2.kept k2 (fun h => h))
  have q0 : w2.cell? ⟨w.heap.size, 0, none⟩ = some (.int .i64 S) := G1.out.cell 0 rfl
  have q1 : w2.cell? ⟨w.heap.size, 1, none⟩ = some (.slice (some ⟨b, off, none⟩) l cap) := G1.out.cell 1 rfl
  clear g1 g2 k1 k2
  go_wp2_with fail
  refine (BB.out w2 (HA.out.same K.out)).mono ?_
  rintro e w3 ⟨rfl, k3⟩
  have K := Lib.hid (K.out.trans k3)
  have G1 := Lib.hid (G1.out.kept k3 (fun h => h))
  have G2 := Lib.hid (G2.out.kept k3 (fun h => h))
  clear q0 q1 k3
  have q0 : w3.cell? ⟨w.heap.size, 0, none⟩ = some (.int .i64 S) := G1.out.cell 0 rfl
  have q1 : w3.cell? ⟨w.heap.size, 1, none⟩ = some (.slice (some ⟨b, off, none⟩) l cap) := G1.out.cell 1 rfl
  have QQ : Hid (∀ w', Same w3 w' → w'.cell? ⟨w.heap.size, 0, none⟩ = some (.int .i64 S) ∧ w'.cell? ⟨w.heap.size, 1, none⟩ = some (.slice (some ⟨b, off, none⟩) l cap)) := by
    intro w' kk
    exact ⟨(G1.out.kept kk (fun h => h)).cell 0 rfl, (G1.out.kept kk (fun h => h)).cell 1 rfl⟩
  have hlt1 : w.heap.size + 1 < w3.heap.size := G2.out.lt
  have KN := Lib.hid (Kept.refl (fun _ => False) w3)
  have MLA := Lib.hid fun (wa w5 : World) (h : Blk wa w3.heap.size #[.int .i64 0, .slice none 0 0] 24) (hg : wa.grownBy w5 (Value.ownBlock (.slice (some ⟨w3.heap.size + 1, 0, none⟩) 0 0))) => map_grown (r := w3.heap.size + 1) h hg rfl (by omega)
  have MLB := Lib.hid fun (wa w5 : World) (h : Blk wa (w3.heap.size + 1) #[.int .i64 0, .slice none 0 0] 24) (hg : wa.grownBy w5 (Value.ownBlock (.slice (some ⟨w3.heap.size, 0, none⟩) 0 0))) => map_grown (r := w3.heap.size) h hg rfl (by omega)
  have hne0 : 0 < l := by omega
  have hlen8 : (([] : List Nat).length + ws.length) * 8 ≤ 140737488355328 := by rw [HL.out]; simp; omega
  go_wp2_with fail
  go_region_held3 (fun w' => w'.cell? ⟨w.heap.size, 0, none⟩ = some (.int .i64 S) ∧ w'.cell? ⟨w.heap.size, 1, none⟩ = some (.slice (some ⟨b, off, none⟩) l cap))
    (exact QQ.out _ (by repeat (first | exact KN.out | with_reducible refine Kept.drew ?_ | with_reducible refine Kept.alloc ?_ _ | refine Kept.setNew ?_ (by first | (simp; done) | (simp; omega)) _)))
    ((refine step_appendN rfl _ _ 22 rfl w3.heap.size 36 .u64 8 Tryd.underlying22 info64 (by omega) _ [] rfl (OwnN.blk (by repeat (first | exact Blk.new' _ _ _ (by simp) | with_reducible refine Blk.drew ?_ | with_reducible refine Blk.alloc ?_ _)) rfl (by simp) (by simp [maxLen])) _ _ _ ws rfl HL.out.symm (HA.out.same (K.out.trans (by repeat (first | exact KN.out | with_reducible refine Kept.drew ?_ | with_reducible refine Kept.alloc ?_ _)))) (fun h => by cases h) hlen8 (by first | (simp; done) | (simp; omega)) ?_; intro v' w5 ho hg hv; obtain ⟨g, C, rfl, r1, r2, ho2⟩ := own_some ho HL.out hne0; have KM := Lib.hid (show Same w3 w5 from Kept.grownNew (by repeat (first | exact KN.out | with_reducible refine Kept.drew ?_ | with_reducible refine Kept.alloc ?_ _)) hg (by (intro k hk; (try simp only [World.size_alloc, World.drew_size] at hk); first | (cases hk; simp; done) | (cases hk; simp; omega)))); have HO := Lib.hid ho2; clear ho2; (try (have MA := MLA.out _ _ (by first | exact ((Blk.new' _ _ _ (by simp)).alloc _).drew | exact (Blk.new' _ _ _ (by simp)).alloc _) hg; obtain ⟨MA0, MA1, MAf, MA2⟩ := MA; have MM := Lib.hid MA2; clear MA2)); (try (have MB := MLB.out _ _ (by first | exact (Blk.new' _ _ _ (by simp)).drew | exact Blk.new' _ _ _ (by simp)) hg; obtain ⟨MB0, MB1, MBf, MB2⟩ := MB; have MM := Lib.hid MB2; clear MB2)); clear KN ho; have KN := KM; clear KM))
  · have hne : Hid (g ≠ w5.heap.size) := by show _ ≠ _; omega
    have G6 := Lib.hid (Blk.new w5 #[.int .i64 S, .slice (some ⟨g, 0, none⟩) l C] 24)
    have O6 := Lib.hid (HO.out.same ((Kept.refl (fun _ => False) w5).alloc (.cells #[.int .i64 S, .slice (some ⟨g, 0, none⟩) l C] 24)))
    have K6 := Lib.hid (KN.out.alloc (.cells #[.int .i64 S, .slice (some ⟨g, 0, none⟩) l C] 24))
    generalize w5.alloc (.cells #[.int .i64 S, .slice (some ⟨g, 0, none⟩) l C] 24) = w6 at G6 O6 K6 ⊢
    have q0 : w6.cell? ⟨w5.heap.size, 0, none⟩ = some (.int .i64 S) := G6.out.cell 0 rfl
    have q1 : w6.cell? ⟨w5.heap.size, 1, none⟩ = some (.slice (some ⟨g, 0, none⟩) l C) := G6.out.cell 1 rfl
    have R6 := Lib.hid (G2.out.kept K6.out (fun h => h))
    have q2 : w6.cell? ⟨w.heap.size + 1, 0, none⟩ = some (.int .i64 0) := R6.out.cell 0 rfl
    have q3 : w6.cell? ⟨w.heap.size + 1, 1, none⟩ = some (.slice none 0 0) := R6.out.cell 1 rfl
    have f2 : ∀ i, w6.frozen? ⟨w.heap.size + 1, i, none⟩ = false := R6.out.free
    have q4 : w6.cell? ⟨g, N / 64, none⟩ = some (.int .u64 ((ws.getD (N / 64) 0 : Nat) : Int)) := O6.out.cell HL.out (by rw [List.getD, List.getElem?_eq_getElem (by rw [HL.out]; exact hi)]; rfl)
    have f4 : ∀ i, w6.frozen? ⟨g, i, none⟩ = false := O6.out.free HL.out
    obtain ⟨x, hx⟩ : ∃ x, ws.getD (N / 64) 0 = x := ⟨_, rfl⟩
    rw [hx] at q4
    have HX := Lib.hid hx
    have exb : bits .xor .u64 (x : Int) (IntKind.u64.wrap (2 ^ (N % 64))) = ((putBit x (N % 64) on : Nat) : Int) := by
      have hx64 : x < 18446744073709551616 := by rw [← hx]; exact getD_word HW.out _
      have h2 : 2 ^ (N % 64) < 18446744073709551616 := pow64 (Nat.mod_lt _ (by decide))
      have hne : ¬ x.testBit (N % 64) = on := by
        have := HB.out
        unfold bitN at this
        rw [hx] at this
        rw [this]; cases on <;> decide
      rw [wrap_bit (N % 64) (Nat.mod_lt _ (by decide)), u64_xor_nat x (2 ^ (N % 64)) hx64 h2, putBit, if_neg hne]
    obtain ⟨pv, hpv⟩ : ∃ pv, putBit x (N % 64) on = pv := ⟨_, rfl⟩
    rw [hpv] at exb
    have HPV := Lib.hid hpv
    clear hx hpv
    clear hv hg
    have t1 : (N : Int).tdiv 64 = (N : Int) / 64 := Int.tdiv_eq_ediv_of_nonneg (by omega)
    have t2 : (N : Int).tmod 64 = (N : Int) % 64 := Int.tmod_eq_emod_of_nonneg (by omega)
    have t3 : (0 : Int) ≤ (N : Int) / 64 := by omega
    have t4 : (N : Int) / 64 < (l : Int) := by omega
    have t6 : ((N : Int) / 64).toNat = N / 64 := by omega
    have t7 : ((N : Int) % 64).toNat = N % 64 := by omega
    have t5 : IntKind.i64.wrap ((N : Int) / 64) = (N : Int) / 64 := IntWalk.i64_in _ (by omega)
    have t8 : IntKind.i64.wrap ((N : Int) % 64) = (N : Int) % 64 := IntWalk.i64_in _ (by omega)
    have t9 : (0 : Int) ≤ (N : Int) % 64 := by omega
    have n1 : ¬ g = w5.heap.size := hne.out
    have n2 : ¬ w5.heap.size = g := fun h => hne.out h.symm
    have n3 : ¬ g = w.heap.size + 1 := by omega
    have n4 : ¬ w.heap.size + 1 = g := by omega
    go_wp2_with fail
    go_region_with (fail)
    all_goals
     go_wp2_with fail
     have pd := (((R6.out.other (p := ⟨g, N / 64, none⟩) (by show _ ≠ g; omega) (.int .u64 ((pv : Nat) : Int))).set 0 (.int .i64 S)).set 1 (.slice (some ⟨g, 0, none⟩) l C))
     have p0 := pd.cell 0 (v := .int .i64 S) rfl
     have p1 := pd.cell 1 (v := .slice (some ⟨g, 0, none⟩) l C) rfl
     have o7 := O6.out.set HL.out (N / 64) pv
     have ep : ws.set (N / 64) pv = putN ws N on := by unfold putN; rw [HX.out, HPV.out]
     rw [ep] at o7
     have KG := (((Kept.refl (fun j => j = w.heap.size + 1) (w6.setCell ⟨g, N / 64, none⟩ (.int .u64 ((pv : Nat) : Int)))).setG 0 (.int .i64 S)).setG 1 (.slice (some ⟨g, 0, none⟩) l C)).drew
     have o8 := o7.kept KG (fun j hj => by simp [Value.ownBlock] at hj; omega)
     have KF := ((((K.out.trans K6.out).setNew (p := ⟨g, N / 64, none⟩) (by show _ ≤ g; omega) (.int .u64 ((pv : Nat) : Int))).setNew (p := ⟨w.heap.size + 1, 0, none⟩) (by show _ ≤ _ + 1; omega) (.int .i64 S)).setNew (p := ⟨w.heap.size + 1, 1, none⟩) (by show _ ≤ _ + 1; omega) (.slice (some ⟨g, 0, none⟩) l C)).drew
     have hfin := (show MapAt w S (putN ws N on) (.returned (mapV S (some ⟨g, 0, none⟩) l C)) _ from ⟨some ⟨g, 0, none⟩, C, by rw [putN_length, HL.out], o8.nats, (fun h => by cases h), KF⟩)
     refine bodyPost_ret (v := mapV S (some ⟨g, 0, none⟩) l C) ?_ rfl hfin
     simp [results, Tryd.results13, go_sem, p0, p1]
  · have hne : Hid (g ≠ w3.heap.size + 1) := by
      show _ ≠ _
      rcases hv with h | h
      · have h1 : some g = some w3.heap.size := h
        cases h1; omega
      · have h1 : some g = some _ := h
        simp at h1; omega
    have G6 := Lib.hid ((MM.out.set 0 (.int .i64 S)).set 1 (.slice (some ⟨g, 0, none⟩) l C))
    have KG6 := (Kept.refl (fun j => j = w3.heap.size + 1) w5).setG 0 (.int .i64 S) |>.setG 1 (.slice (some ⟨g, 0, none⟩) l C)
    have O6 := Lib.hid (HO.out.kept KG6 (fun j hj => by simp [Value.ownBlock] at hj; have := hne.out; omega))
    have K6 := Lib.hid ((KN.out.setNew (p := ⟨w3.heap.size + 1, 0, none⟩) (by show _ ≤ w3.heap.size + 1; omega) (.int .i64 S)).setNew (p := ⟨w3.heap.size + 1, 1, none⟩) (by show _ ≤ w3.heap.size + 1; omega) (.slice (some ⟨g, 0, none⟩) l C))
    clear MB0 MB1 MBf MM KN HO KG6
    generalize (w5.setCell ⟨w3.heap.size + 1, 0, none⟩ (.int .i64 S)).setCell ⟨w3.heap.size + 1, 1, none⟩ (.slice (some ⟨g, 0, none⟩) l C) = w6 at G6 O6 K6 ⊢
    have q0 : w6.cell? ⟨(w3.heap.size + 1), 0, none⟩ = some (.int .i64 S) := G6.out.cell 0 rfl
    have q1 : w6.cell? ⟨(w3.heap.size + 1), 1, none⟩ = some (.slice (some ⟨g, 0, none⟩) l C) := G6.out.cell 1 rfl
    have R6 := Lib.hid (G2.out.kept K6.out (fun h => h))
    have q2 : w6.cell? ⟨w.heap.size + 1, 0, none⟩ = some (.int .i64 0) := R6.out.cell 0 rfl
    have q3 : w6.cell? ⟨w.heap.size + 1, 1, none⟩ = some (.slice none 0 0) := R6.out.cell 1 rfl
    have f2 : ∀ i, w6.frozen? ⟨w.heap.size + 1, i, none⟩ = false := R6.out.free
    have q4 : w6.cell? ⟨g, N / 64, none⟩ = some (.int .u64 ((ws.getD (N / 64) 0 : Nat) : Int)) := O6.out.cell HL.out (by rw [List.getD, List.getElem?_eq_getElem (by rw [HL.out]; exact hi)]; rfl)
    have f4 : ∀ i, w6.frozen? ⟨g, i, none⟩ = false := O6.out.free HL.out
    obtain ⟨x, hx⟩ : ∃ x, ws.getD (N / 64) 0 = x := ⟨_, rfl⟩
    rw [hx] at q4
    have HX := Lib.hid hx
    have exb : bits .xor .u64 (x : Int) (IntKind.u64.wrap (2 ^ (N % 64))) = ((putBit x (N % 64) on : Nat) : Int) := by
      have hx64 : x < 18446744073709551616 := by rw [← hx]; exact getD_word HW.out _
      have h2 : 2 ^ (N % 64) < 18446744073709551616 := pow64 (Nat.mod_lt _ (by decide))
      have hne : ¬ x.testBit (N % 64) = on := by
        have := HB.out
        unfold bitN at this
        rw [hx] at this
        rw [this]; cases on <;> decide
      rw [wrap_bit (N % 64) (Nat.mod_lt _ (by decide)), u64_xor_nat x (2 ^ (N % 64)) hx64 h2, putBit, if_neg hne]
    obtain ⟨pv, hpv⟩ : ∃ pv, putBit x (N % 64) on = pv := ⟨_, rfl⟩
    rw [hpv] at exb
    have HPV := Lib.hid hpv
    clear hx hpv
    clear hv hg
    have t1 : (N : Int).tdiv 64 = (N : Int) / 64 := Int.tdiv_eq_ediv_of_nonneg (by omega)
    have t2 : (N : Int).tmod 64 = (N : Int) % 64 := Int.tmod_eq_emod_of_nonneg (by omega)
    have t3 : (0 : Int) ≤ (N : Int) / 64 := by omega
    have t4 : (N : Int) / 64 < (l : Int) := by omega
    have t6 : ((N : Int) / 64).toNat = N / 64 := by omega
    have t7 : ((N : Int) % 64).toNat = N % 64 := by omega
    have t5 : IntKind.i64.wrap ((N : Int) / 64) = (N : Int) / 64 := IntWalk.i64_in _ (by omega)
    have t8 : IntKind.i64.wrap ((N : Int) % 64) = (N : Int) % 64 := IntWalk.i64_in _ (by omega)
    have t9 : (0 : Int) ≤ (N : Int) % 64 := by omega
    have n1 : ¬ g = (w3.heap.size + 1) := hne.out
    have n2 : ¬ (w3.heap.size + 1) = g := fun h => hne.out h.symm
    have n3 : ¬ g = w.heap.size + 1 := by omega
    have n4 : ¬ w.heap.size + 1 = g := by omega
    go_wp2_with fail
    go_region_with (fail)
    all_goals
     go_wp2_with fail
     have pd := (((R6.out.other (p := ⟨g, N / 64, none⟩) (by show _ ≠ g; omega) (.int .u64 ((pv : Nat) : Int))).set 0 (.int .i64 S)).set 1 (.slice (some ⟨g, 0, none⟩) l C))
     have p0 := pd.cell 0 (v := .int .i64 S) rfl
     have p1 := pd.cell 1 (v := .slice (some ⟨g, 0, none⟩) l C) rfl
     have o7 := O6.out.set HL.out (N / 64) pv
     have ep : ws.set (N / 64) pv = putN ws N on := by unfold putN; rw [HX.out, HPV.out]
     rw [ep] at o7
     have KG := (((Kept.refl (fun j => j = w.heap.size + 1) (w6.setCell ⟨g, N / 64, none⟩ (.int .u64 ((pv : Nat) : Int)))).setG 0 (.int .i64 S)).setG 1 (.slice (some ⟨g, 0, none⟩) l C)).drew
     have o8 := o7.kept KG (fun j hj => by simp [Value.ownBlock] at hj; omega)
     have KF := ((((K.out.trans K6.out).setNew (p := ⟨g, N / 64, none⟩) (by show _ ≤ g; omega) (.int .u64 ((pv : Nat) : Int))).setNew (p := ⟨w.heap.size + 1, 0, none⟩) (by show _ ≤ _ + 1; omega) (.int .i64 S)).setNew (p := ⟨w.heap.size + 1, 1, none⟩) (by show _ ≤ _ + 1; omega) (.slice (some ⟨g, 0, none⟩) l C)).drew
     have hfin := (show MapAt w S (putN ws N on) (.returned (mapV S (some ⟨g, 0, none⟩) l C)) _ from ⟨some ⟨g, 0, none⟩, C, by rw [putN_length, HL.out], o8.nats, (fun h => by cases h), KF⟩)
     refine bodyPost_ret (v := mapV S (some ⟨g, 0, none⟩) l C) ?_ rfl hfin
     simp [results, Tryd.results13, go_sem, p0, p1]
  · have hne : Hid (g ≠ w3.heap.size) := by
      show _ ≠ _
      rcases hv with h | h
      · have h1 : some g = some (w3.heap.size + 1) := h
        cases h1; omega
      · have h1 : some g = some _ := h
        simp at h1; omega
    have G6 := Lib.hid ((MM.out.set 0 (.int .i64 S)).set 1 (.slice (some ⟨g, 0, none⟩) l C))
    have KG6 := (Kept.refl (fun j => j = w3.heap.size) w5).setG 0 (.int .i64 S) |>.setG 1 (.slice (some ⟨g, 0, none⟩) l C)
    have O6 := Lib.hid (HO.out.kept KG6 (fun j hj => by simp [Value.ownBlock] at hj; have := hne.out; omega))
    have K6 := Lib.hid ((KN.out.setNew (p := ⟨w3.heap.size, 0, none⟩) (by show _ ≤ w3.heap.size; omega) (.int .i64 S)).setNew (p := ⟨w3.heap.size, 1, none⟩) (by show _ ≤ w3.heap.size; omega) (.slice (some ⟨g, 0, none⟩) l C))
    clear MA0 MA1 MAf MM KN HO KG6
    generalize (w5.setCell ⟨w3.heap.size, 0, none⟩ (.int .i64 S)).setCell ⟨w3.heap.size, 1, none⟩ (.slice (some ⟨g, 0, none⟩) l C) = w6 at G6 O6 K6 ⊢
    have q0 : w6.cell? ⟨(w3.heap.size), 0, none⟩ = some (.int .i64 S) := G6.out.cell 0 rfl
    have q1 : w6.cell? ⟨(w3.heap.size), 1, none⟩ = some (.slice (some ⟨g, 0, none⟩) l C) := G6.out.cell 1 rfl
    have R6 := Lib.hid (G2.out.kept K6.out (fun h => h))
    have q2 : w6.cell? ⟨w.heap.size + 1, 0, none⟩ = some (.int .i64 0) := R6.out.cell 0 rfl
    have q3 : w6.cell? ⟨w.heap.size + 1, 1, none⟩ = some (.slice none 0 0) := R6.out.cell 1 rfl
    have f2 : ∀ i, w6.frozen? ⟨w.heap.size + 1, i, none⟩ = false := R6.out.free
    have q4 : w6.cell? ⟨g, N / 64, none⟩ = some (.int .u64 ((ws.getD (N / 64) 0 : Nat) : Int)) := O6.out.cell HL.out (by rw [List.getD, List.getElem?_eq_getElem (by rw [HL.out]; exact hi)]; rfl)
    have f4 : ∀ i, w6.frozen? ⟨g, i, none⟩ = false := O6.out.free HL.out
    obtain ⟨x, hx⟩ : ∃ x, ws.getD (N / 64) 0 = x := ⟨_, rfl⟩
    rw [hx] at q4
    have HX := Lib.hid hx
    have exb : bits .xor .u64 (x : Int) (IntKind.u64.wrap (2 ^ (N % 64))) = ((putBit x (N % 64) on : Nat) : Int) := by
      have hx64 : x < 18446744073709551616 := by rw [← hx]; exact getD_word HW.out _
      have h2 : 2 ^ (N % 64) < 18446744073709551616 := pow64 (Nat.mod_lt _ (by decide))
      have hne : ¬ x.testBit (N % 64) = on := by
        have := HB.out
        unfold bitN at this
        rw [hx] at this
        rw [this]; cases on <;> decide
      rw [wrap_bit (N % 64) (Nat.mod_lt _ (by decide)), u64_xor_nat x (2 ^ (N % 64)) hx64 h2, putBit, if_neg hne]
    obtain ⟨pv, hpv⟩ : ∃ pv, putBit x (N % 64) on = pv := ⟨_, rfl⟩
    rw [hpv] at exb
    have HPV := Lib.hid hpv
    clear hx hpv
    clear hv hg
    have t1 : (N : Int).tdiv 64 = (N : Int) / 64 := Int.tdiv_eq_ediv_of_nonneg (by omega)
    have t2 : (N : Int).tmod 64 = (N : Int) % 64 := Int.tmod_eq_emod_of_nonneg (by omega)
    have t3 : (0 : Int) ≤ (N : Int) / 64 := by omega
    have t4 : (N : Int) / 64 < (l : Int) := by omega
    have t6 : ((N : Int) / 64).toNat = N / 64 := by omega
    have t7 : ((N : Int) % 64).toNat = N % 64 := by omega
    have t5 : IntKind.i64.wrap ((N : Int) / 64) = (N : Int) / 64 := IntWalk.i64_in _ (by omega)
    have t8 : IntKind.i64.wrap ((N : Int) % 64) = (N : Int) % 64 := IntWalk.i64_in _ (by omega)
    have t9 : (0 : Int) ≤ (N : Int) % 64 := by omega
    have n1 : ¬ g = (w3.heap.size) := hne.out
    have n2 : ¬ (w3.heap.size) = g := fun h => hne.out h.symm
    have n3 : ¬ g = w.heap.size + 1 := by omega
    have n4 : ¬ w.heap.size + 1 = g := by omega
    go_wp2_with fail
    go_region_with (fail)
    all_goals
     go_wp2_with fail
     have pd := (((R6.out.other (p := ⟨g, N / 64, none⟩) (by show _ ≠ g; omega) (.int .u64 ((pv : Nat) : Int))).set 0 (.int .i64 S)).set 1 (.slice (some ⟨g, 0, none⟩) l C))
     have p0 := pd.cell 0 (v := .int .i64 S) rfl
     have p1 := pd.cell 1 (v := .slice (some ⟨g, 0, none⟩) l C) rfl
     have o7 := O6.out.set HL.out (N / 64) pv
     have ep : ws.set (N / 64) pv = putN ws N on := by unfold putN; rw [HX.out, HPV.out]
     rw [ep] at o7
     have KG := (((Kept.refl (fun j => j = w.heap.size + 1) (w6.setCell ⟨g, N / 64, none⟩ (.int .u64 ((pv : Nat) : Int)))).setG 0 (.int .i64 S)).setG 1 (.slice (some ⟨g, 0, none⟩) l C)).drew
     have o8 := o7.kept KG (fun j hj => by simp [Value.ownBlock] at hj; omega)
     have KF := ((((K.out.trans K6.out).setNew (p := ⟨g, N / 64, none⟩) (by show _ ≤ g; omega) (.int .u64 ((pv : Nat) : Int))).setNew (p := ⟨w.heap.size + 1, 0, none⟩) (by show _ ≤ _ + 1; omega) (.int .i64 S)).setNew (p := ⟨w.heap.size + 1, 1, none⟩) (by show _ ≤ _ + 1; omega) (.slice (some ⟨g, 0, none⟩) l C)).drew
     have hfin := (show MapAt w S (putN ws N on) (.returned (mapV S (some ⟨g, 0, none⟩) l C)) _ from ⟨some ⟨g, 0, none⟩, C, by rw [putN_length, HL.out], o8.nats, (fun h => by cases h), KF⟩)
     refine bodyPost_ret (v := mapV S (some ⟨g, 0, none⟩) l C) ?_ rfl hfin
     simp [results, Tryd.results13, go_sem, p0, p1]

end Go.Proofs.YtmolmamfmboeoaaDoor
