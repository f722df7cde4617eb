/- A step of both clocks. -/
import Derived.Test.YthiafdnemfihgaaOra4
import Derived.Deep.QuietTactic
import Derived.BigQuiet
import Derived.Deep.RegionHeld3
namespace Go.Proofs.Ythiafdnemfihgaa
open Go.RowKit

/-- What a call leaves, the error, the time. -/
def actDo (k : Int) (x : Int) (n : Int) (s : Bool) : (Int × Bool) × Int × Int :=
  if k % 4 = 0 then ((ckStart n s x).1, (ckStart n s x).2, 0)
  else if k % 4 = 3 then ((ckPush n s x).1, (ckPush n s x).2, 0)
  else (((ckNext n).1, true), (ckNext n).2.2, (ckNext n).2.1)

theorem Calls.boxes3 {P : Program} {f : FuncId} {args : Array Value} {w : World} {c1 c2 c3 : Array Value} {t1 t2 t3 : TypeId} {R : Ending → World → Prop}
    (h : ∀ W, Blk W w.heap.size c1 t1 → Blk W (w.heap.size + 1) c2 t2 → Blk W (w.heap.size + 1 + 1) c3 t3 → Same w W → Calls P f args W R) :
    Calls P f args (((w.alloc (.cells c1 t1)).alloc (.cells c2 t2)).alloc (.cells c3 t3)) R :=
  h _ (((Blk.new w _ _).alloc _).alloc _) ((Blk.new' _ _ _ (by simp)).alloc _) (Blk.new' _ _ _ (by simp)) ((((Kept.refl _ w).alloc _).alloc _).alloc _)

set_option maxHeartbeats 1600000 in
theorem do_start (b : Nat) (k x n : Int) (s : Bool) (w : World) (h0 : 0 ≤ k) (h1 : k ≤ 255) (hk : k % 4 = 0) (hb : Ora w b n s) (hi : OraInv n s) :
    Calls Try.prog 6 #[.pointer (some ⟨b, 0, none⟩), ckV n s, .agg #[.int .u8 k, .int .i64 x]] w fun e w' =>
      e = .returned (.tuple #[ckV ((ckStart n s x).1.1) ((ckStart n s x).1.2), .bool true]) ∧ Ora w' b ((ckStart n s x).1.1) ((ckStart n s x).1.2) ∧ Kept (fun k => k = b) w w' := by
  have HB := Lib.hid hb
  have HI := Lib.hid hi
  have hlt := Blk.lt hb
  clear hb hi
  have hk1 : (k % 4 == 0) = true := by simp [hk]
  clear hk
  go_enter Try.func6, Try.ntmps6
  go_wp2_with fail
  refine Calls.boxes3 ?_
  intro w1 g1 g2 g3 g5
  have G1 := Lib.hid g1; have G2 := Lib.hid g2; have G3 := Lib.hid g3; have G5 := Lib.hid g5
  clear g1 g2 g3 g5
  refine (ora_start b n s x w1 (Blk.kept HB.out G5.out (fun h => h))).mono ?_
  rintro e w2 ⟨rfl, h4, h5⟩
  have G4 := Lib.hid h4; clear h4
  have G1 := Lib.hid (G1.out.kept h5 (by omega)); have G2 := Lib.hid (G2.out.kept h5 (by omega)); have G3 := Lib.hid (G3.out.kept h5 (by omega))
  have G5 : Hid (Kept (fun k => k = b) w w2) := (G5.out.mono (fun _ _ h => h.elim)).step h5 (fun _ _ h => h)
  clear h5
  have q1 : w2.cell? ⟨w.heap.size, 0, none⟩ = some (.int .i64 n) := G1.out.cell 0 rfl
  have q2 : w2.cell? ⟨w.heap.size, 1, none⟩ = some (.bool s) := G1.out.cell 1 rfl
  have q3 : w2.cell? ⟨w.heap.size + 1, 1, none⟩ = some (.int .i64 x) := G2.out.cell 1 rfl
  go_wp2_with (go_at_call 13; go_must (refine (ck_start n x s _).mono ?_); rintro e w3 ⟨rfl, hk3⟩; have G1 := Lib.hid (G1.out.kept hk3 (fun h => h)); have G3 := Lib.hid (G3.out.kept hk3 (fun h => h)); have G4 := Lib.hid (Blk.kept G4.out hk3 (fun h => h)); have G5 := Lib.hid (G5.out.step hk3 (fun _ _ h => h.elim)); have q1 : w3.cell? ⟨w.heap.size, 0, none⟩ = some (.int .i64 n) := G1.out.cell 0 rfl; have q2 : w3.cell? ⟨w.heap.size, 1, none⟩ = some (.bool s) := G1.out.cell 1 rfl; have z1 : ∀ i, w3.frozen? ⟨w.heap.size, i, none⟩ = false := G1.out.free; clear hk3)
  have g1 := (G1.out.set 0 (.int .i64 ((ckStart n s x).1.1))).set 1 (.bool ((ckStart n s x).1.2))
  have g3 := (G3.out.other (p := ⟨w.heap.size, 0, none⟩) (by simp; omega) (.int .i64 ((ckStart n s x).1.1))).other (p := ⟨w.heap.size, 1, none⟩) (by simp; omega) (.bool ((ckStart n s x).1.2))
  have g4 : Ora _ _ _ _ := (Blk.other G4.out (p := ⟨w.heap.size, 0, none⟩) (by simp; omega) (.int .i64 ((ckStart n s x).1.1))).other (p := ⟨w.heap.size, 1, none⟩) (by simp; omega) (.bool ((ckStart n s x).1.2))
  have g5 := (G5.out.setCell (p := ⟨w.heap.size, 0, none⟩) (by simp) (.int .i64 ((ckStart n s x).1.1))).setCell (p := ⟨w.heap.size, 1, none⟩) (by simp) (.bool ((ckStart n s x).1.2))
  have hz := G3.out.lt
  clear HB G1 G3 G4 G5 q1 q2 z1
  generalize (w3.setCell ⟨w.heap.size, 0, none⟩ (.int .i64 ((ckStart n s x).1.1))).setCell ⟨w.heap.size, 1, none⟩ (.bool ((ckStart n s x).1.2)) = w4 at *
  generalize (ckStart n s x).2 = er at *
  generalize hn1 : (ckStart n s x).1.1 = n' at *
  have HN := Lib.hid hn1; clear hn1
  generalize hs1 : (ckStart n s x).1.2 = s' at *
  have HS := Lib.hid hs1; clear hs1
  skip
  have G3 := Lib.hid g3; have G4 := Lib.hid g4; have G5 := Lib.hid g5; clear g3 g4 g5
  have q1 : w4.cell? ⟨w.heap.size, 0, none⟩ = some (.int .i64 n') := g1.cell 0 rfl
  have q2 : w4.cell? ⟨w.heap.size, 1, none⟩ = some (.bool s') := g1.cell 1 rfl
  have z3 : ∀ i, w4.frozen? ⟨w.heap.size + 1 + 1, i, none⟩ = false := G3.out.free
  have q4 : w4.cell? ⟨w.heap.size + 1 + 1, 0, none⟩ = some (.int .i64 0) := G3.out.cell 0 rfl
  have q5 : w4.cell? ⟨w.heap.size + 1 + 1, 1, none⟩ = some (.bool false) := G3.out.cell 1 rfl
  have G1 : Hid (Blk w4 w.heap.size #[.int .i64 n', .bool s'] 26) := g1
  clear g1
  go_region_held3 (fun w' => w'.cell? ⟨w.heap.size, 0, none⟩ = some (.int .i64 n') ∧ w'.cell? ⟨w.heap.size, 1, none⟩ = some (.bool s')) (first | exact ⟨q1, q2⟩ | exact ⟨Blk.cell ((G1.out.other (p := ⟨w.heap.size + 1 + 1, 0, none⟩) (by simp; omega) _).other (p := ⟨w.heap.size + 1 + 1, 1, none⟩) (by simp; omega) _) 0 rfl, Blk.cell ((G1.out.other (p := ⟨w.heap.size + 1 + 1, 0, none⟩) (by simp; omega) _).other (p := ⟨w.heap.size + 1 + 1, 1, none⟩) (by simp; omega) _) 1 rfl⟩) (first | (go_at_call 10; refine (ora_now b n' s' _ (by exact G4.out)).mono ?_; rintro e w' ⟨rfl, rfl⟩) | (go_at_call 11; refine (ora_started b n' s' _ (by exact G4.out)).mono ?_; rintro e w' ⟨rfl, rfl⟩))
  go_wp2
  have p0 := (G3.out.set 0 (.int .i64 n')).set 1 (.bool s')
  have p1 : ((w4.setCell ⟨w.heap.size + 1 + 1, 0, none⟩ (.int .i64 n')).setCell ⟨w.heap.size + 1 + 1, 1, none⟩ (.bool s')).cell? ⟨w.heap.size + 1 + 1, 0, none⟩ = some (.int .i64 n') := p0.cell 0 rfl
  have p2 : ((w4.setCell ⟨w.heap.size + 1 + 1, 0, none⟩ (.int .i64 n')).setCell ⟨w.heap.size + 1 + 1, 1, none⟩ (.bool s')).cell? ⟨w.heap.size + 1 + 1, 1, none⟩ = some (.bool s') := p0.cell 1 rfl
  refine bodyPost_ret (v := .tuple #[ckV n' s', .bool true]) (by simp [results, Try.results6, go_sem, p1, p2]) rfl ⟨by rw [HN.out, HS.out], ?_, ?_⟩
  · rw [HN.out, HS.out]; exact ((Blk.other G4.out (p := ⟨w.heap.size + 1 + 1, 0, none⟩) (by simp; omega) (.int .i64 n')).other (p := ⟨w.heap.size + 1 + 1, 1, none⟩) (by simp; omega) (.bool s')).drew
  · exact ((G5.out.setNew (p := ⟨w.heap.size + 1 + 1, 0, none⟩) (by show _ ≤ _ + 1 + 1; omega) (.int .i64 n')).setNew (p := ⟨w.heap.size + 1 + 1, 1, none⟩) (by show _ ≤ _ + 1 + 1; omega) (.bool s')).drew

set_option maxHeartbeats 1600000 in
theorem do_push (b : Nat) (k x n : Int) (s : Bool) (w : World) (h0 : 0 ≤ k) (h1 : k ≤ 255) (hk : k % 4 = 3) (hb : Ora w b n s) (hi : OraInv n s) :
    Calls Try.prog 6 #[.pointer (some ⟨b, 0, none⟩), ckV n s, .agg #[.int .u8 k, .int .i64 x]] w fun e w' =>
      e = .returned (.tuple #[ckV ((ckPush n s x).1.1) ((ckPush n s x).1.2), .bool true]) ∧ Ora w' b ((ckPush n s x).1.1) ((ckPush n s x).1.2) ∧ Kept (fun k => k = b) w w' := by
  have HB := Lib.hid hb
  have HI := Lib.hid hi
  have hlt := Blk.lt hb
  clear hb hi
  have hk1 : (k % 4 == 0) = false := by simp [hk]
  have hk2 : (k % 4 == 3) = true := by simp [hk]
  clear hk
  go_enter Try.func6, Try.ntmps6
  go_wp2_with fail
  refine Calls.boxes3 ?_
  intro w1 g1 g2 g3 g5
  have G1 := Lib.hid g1; have G2 := Lib.hid g2; have G3 := Lib.hid g3; have G5 := Lib.hid g5
  clear g1 g2 g3 g5
  refine ((fun w hb => ora_push b n x s w hb HI.out) w1 (Blk.kept HB.out G5.out (fun h => h))).mono ?_
  rintro e w2 ⟨rfl, h4, h5⟩
  have G4 := Lib.hid h4; clear h4
  have G1 := Lib.hid (G1.out.kept h5 (by omega)); have G2 := Lib.hid (G2.out.kept h5 (by omega)); have G3 := Lib.hid (G3.out.kept h5 (by omega))
  have G5 : Hid (Kept (fun k => k = b) w w2) := (G5.out.mono (fun _ _ h => h.elim)).step h5 (fun _ _ h => h)
  clear h5
  have q1 : w2.cell? ⟨w.heap.size, 0, none⟩ = some (.int .i64 n) := G1.out.cell 0 rfl
  have q2 : w2.cell? ⟨w.heap.size, 1, none⟩ = some (.bool s) := G1.out.cell 1 rfl
  have q3 : w2.cell? ⟨w.heap.size + 1, 1, none⟩ = some (.int .i64 x) := G2.out.cell 1 rfl
  go_wp2_with (go_at_call 14; go_must (refine (ck_push n x s _).mono ?_); rintro e w3 ⟨rfl, hk3⟩; have G1 := Lib.hid (G1.out.kept hk3 (fun h => h)); have G3 := Lib.hid (G3.out.kept hk3 (fun h => h)); have G4 := Lib.hid (Blk.kept G4.out hk3 (fun h => h)); have G5 := Lib.hid (G5.out.step hk3 (fun _ _ h => h.elim)); have q1 : w3.cell? ⟨w.heap.size, 0, none⟩ = some (.int .i64 n) := G1.out.cell 0 rfl; have q2 : w3.cell? ⟨w.heap.size, 1, none⟩ = some (.bool s) := G1.out.cell 1 rfl; have z1 : ∀ i, w3.frozen? ⟨w.heap.size, i, none⟩ = false := G1.out.free; clear hk3)
  have g1 := (G1.out.set 0 (.int .i64 ((ckPush n s x).1.1))).set 1 (.bool ((ckPush n s x).1.2))
  have g3 := (G3.out.other (p := ⟨w.heap.size, 0, none⟩) (by simp; omega) (.int .i64 ((ckPush n s x).1.1))).other (p := ⟨w.heap.size, 1, none⟩) (by simp; omega) (.bool ((ckPush n s x).1.2))
  have g4 : Ora _ _ _ _ := (Blk.other G4.out (p := ⟨w.heap.size, 0, none⟩) (by simp; omega) (.int .i64 ((ckPush n s x).1.1))).other (p := ⟨w.heap.size, 1, none⟩) (by simp; omega) (.bool ((ckPush n s x).1.2))
  have g5 := (G5.out.setCell (p := ⟨w.heap.size, 0, none⟩) (by simp) (.int .i64 ((ckPush n s x).1.1))).setCell (p := ⟨w.heap.size, 1, none⟩) (by simp) (.bool ((ckPush n s x).1.2))
  have hz := G3.out.lt
  clear HB G1 G3 G4 G5 q1 q2 z1
  generalize (w3.setCell ⟨w.heap.size, 0, none⟩ (.int .i64 ((ckPush n s x).1.1))).setCell ⟨w.heap.size, 1, none⟩ (.bool ((ckPush n s x).1.2)) = w4 at *
  generalize (ckPush n s x).2 = er at *
  generalize hn1 : (ckPush n s x).1.1 = n' at *
  have HN := Lib.hid hn1; clear hn1
  generalize hs1 : (ckPush n s x).1.2 = s' at *
  have HS := Lib.hid hs1; clear hs1
  skip
  have G3 := Lib.hid g3; have G4 := Lib.hid g4; have G5 := Lib.hid g5; clear g3 g4 g5
  have q1 : w4.cell? ⟨w.heap.size, 0, none⟩ = some (.int .i64 n') := g1.cell 0 rfl
  have q2 : w4.cell? ⟨w.heap.size, 1, none⟩ = some (.bool s') := g1.cell 1 rfl
  have z3 : ∀ i, w4.frozen? ⟨w.heap.size + 1 + 1, i, none⟩ = false := G3.out.free
  have q4 : w4.cell? ⟨w.heap.size + 1 + 1, 0, none⟩ = some (.int .i64 0) := G3.out.cell 0 rfl
  have q5 : w4.cell? ⟨w.heap.size + 1 + 1, 1, none⟩ = some (.bool false) := G3.out.cell 1 rfl
  have G1 : Hid (Blk w4 w.heap.size #[.int .i64 n', .bool s'] 26) := g1
  clear g1
  go_region_held3 (fun w' => w'.cell? ⟨w.heap.size, 0, none⟩ = some (.int .i64 n') ∧ w'.cell? ⟨w.heap.size, 1, none⟩ = some (.bool s')) (first | exact ⟨q1, q2⟩ | exact ⟨Blk.cell ((G1.out.other (p := ⟨w.heap.size + 1 + 1, 0, none⟩) (by simp; omega) _).other (p := ⟨w.heap.size + 1 + 1, 1, none⟩) (by simp; omega) _) 0 rfl, Blk.cell ((G1.out.other (p := ⟨w.heap.size + 1 + 1, 0, none⟩) (by simp; omega) _).other (p := ⟨w.heap.size + 1 + 1, 1, none⟩) (by simp; omega) _) 1 rfl⟩) (first | (go_at_call 10; refine (ora_now b n' s' _ (by exact G4.out)).mono ?_; rintro e w' ⟨rfl, rfl⟩) | (go_at_call 11; refine (ora_started b n' s' _ (by exact G4.out)).mono ?_; rintro e w' ⟨rfl, rfl⟩))
  go_wp2
  have p0 := (G3.out.set 0 (.int .i64 n')).set 1 (.bool s')
  have p1 : ((w4.setCell ⟨w.heap.size + 1 + 1, 0, none⟩ (.int .i64 n')).setCell ⟨w.heap.size + 1 + 1, 1, none⟩ (.bool s')).cell? ⟨w.heap.size + 1 + 1, 0, none⟩ = some (.int .i64 n') := p0.cell 0 rfl
  have p2 : ((w4.setCell ⟨w.heap.size + 1 + 1, 0, none⟩ (.int .i64 n')).setCell ⟨w.heap.size + 1 + 1, 1, none⟩ (.bool s')).cell? ⟨w.heap.size + 1 + 1, 1, none⟩ = some (.bool s') := p0.cell 1 rfl
  refine bodyPost_ret (v := .tuple #[ckV n' s', .bool true]) (by simp [results, Try.results6, go_sem, p1, p2]) rfl ⟨by rw [HN.out, HS.out], ?_, ?_⟩
  · rw [HN.out, HS.out]; exact ((Blk.other G4.out (p := ⟨w.heap.size + 1 + 1, 0, none⟩) (by simp; omega) (.int .i64 n')).other (p := ⟨w.heap.size + 1 + 1, 1, none⟩) (by simp; omega) (.bool s')).drew
  · exact ((G5.out.setNew (p := ⟨w.heap.size + 1 + 1, 0, none⟩) (by show _ ≤ _ + 1 + 1; omega) (.int .i64 n')).setNew (p := ⟨w.heap.size + 1 + 1, 1, none⟩) (by show _ ≤ _ + 1 + 1; omega) (.bool s')).drew

set_option maxHeartbeats 1600000 in
theorem do_next (b : Nat) (k x n : Int) (s : Bool) (w : World) (h0 : 0 ≤ k) (h1 : k ≤ 255) (hk : ¬ k % 4 = 0) (hk3 : ¬ k % 4 = 3) (hb : Ora w b n s) (hi : OraInv n s) :
    Calls Try.prog 6 #[.pointer (some ⟨b, 0, none⟩), ckV n s, .agg #[.int .u8 k, .int .i64 x]] w fun e w' =>
      e = .returned (.tuple #[ckV ((ckNext n).1) (true), .bool true]) ∧ Ora w' b ((ckNext n).1) (true) ∧ Kept (fun k => k = b) w w' := by
  have HB := Lib.hid hb
  have HI := Lib.hid hi
  have hlt := Blk.lt hb
  clear hb hi
  have hk1 : (k % 4 == 0) = false := by simp [hk]
  have hk2 : (k % 4 == 3) = false := by simp [hk3]
  clear hk hk3
  go_enter Try.func6, Try.ntmps6
  go_wp2_with fail
  refine Calls.boxes3 ?_
  intro w1 g1 g2 g3 g5
  have G1 := Lib.hid g1; have G2 := Lib.hid g2; have G3 := Lib.hid g3; have G5 := Lib.hid g5
  clear g1 g2 g3 g5
  refine ((fun w hb => ora_next b n s w hb HI.out) w1 (Blk.kept HB.out G5.out (fun h => h))).mono ?_
  rintro e w2 ⟨rfl, h4, h5⟩
  have G4 := Lib.hid h4; clear h4
  have G1 := Lib.hid (G1.out.kept h5 (by omega)); have G2 := Lib.hid (G2.out.kept h5 (by omega)); have G3 := Lib.hid (G3.out.kept h5 (by omega))
  have G5 : Hid (Kept (fun k => k = b) w w2) := (G5.out.mono (fun _ _ h => h.elim)).step h5 (fun _ _ h => h)
  clear h5
  have q1 : w2.cell? ⟨w.heap.size, 0, none⟩ = some (.int .i64 n) := G1.out.cell 0 rfl
  have q2 : w2.cell? ⟨w.heap.size, 1, none⟩ = some (.bool s) := G1.out.cell 1 rfl
  have q3 : w2.cell? ⟨w.heap.size + 1, 1, none⟩ = some (.int .i64 x) := G2.out.cell 1 rfl
  go_wp2_with (go_at_call 15; go_must (refine (ck_next n s _ HI.out.1 HI.out.2.1).mono ?_); rintro e w3 ⟨rfl, hk3⟩; have G1 := Lib.hid (G1.out.kept hk3 (fun h => h)); have G3 := Lib.hid (G3.out.kept hk3 (fun h => h)); have G4 := Lib.hid (Blk.kept G4.out hk3 (fun h => h)); have G5 := Lib.hid (G5.out.step hk3 (fun _ _ h => h.elim)); have q1 : w3.cell? ⟨w.heap.size, 0, none⟩ = some (.int .i64 n) := G1.out.cell 0 rfl; have q2 : w3.cell? ⟨w.heap.size, 1, none⟩ = some (.bool s) := G1.out.cell 1 rfl; have z1 : ∀ i, w3.frozen? ⟨w.heap.size, i, none⟩ = false := G1.out.free; clear hk3)
  have g1 := (G1.out.set 0 (.int .i64 ((ckNext n).1))).set 1 (.bool (true))
  have g3 := (G3.out.other (p := ⟨w.heap.size, 0, none⟩) (by simp; omega) (.int .i64 ((ckNext n).1))).other (p := ⟨w.heap.size, 1, none⟩) (by simp; omega) (.bool (true))
  have g4 : Ora _ _ _ _ := (Blk.other G4.out (p := ⟨w.heap.size, 0, none⟩) (by simp; omega) (.int .i64 ((ckNext n).1))).other (p := ⟨w.heap.size, 1, none⟩) (by simp; omega) (.bool (true))
  have g5 := (G5.out.setCell (p := ⟨w.heap.size, 0, none⟩) (by simp) (.int .i64 ((ckNext n).1))).setCell (p := ⟨w.heap.size, 1, none⟩) (by simp) (.bool (true))
  have hz := G3.out.lt
  clear HB G1 G3 G4 G5 q1 q2 z1
  generalize (w3.setCell ⟨w.heap.size, 0, none⟩ (.int .i64 ((ckNext n).1))).setCell ⟨w.heap.size, 1, none⟩ (.bool (true)) = w4 at *
  generalize (ckNext n).2.2 = er at *
  generalize hn1 : (ckNext n).1 = n' at *
  have HN := Lib.hid hn1; clear hn1
  skip
  generalize (ckNext n).2.1 = m at *
  have G3 := Lib.hid g3; have G4 := Lib.hid g4; have G5 := Lib.hid g5; clear g3 g4 g5
  have q1 : w4.cell? ⟨w.heap.size, 0, none⟩ = some (.int .i64 n') := g1.cell 0 rfl
  have q2 : w4.cell? ⟨w.heap.size, 1, none⟩ = some (.bool true) := g1.cell 1 rfl
  have z3 : ∀ i, w4.frozen? ⟨w.heap.size + 1 + 1, i, none⟩ = false := G3.out.free
  have q4 : w4.cell? ⟨w.heap.size + 1 + 1, 0, none⟩ = some (.int .i64 0) := G3.out.cell 0 rfl
  have q5 : w4.cell? ⟨w.heap.size + 1 + 1, 1, none⟩ = some (.bool false) := G3.out.cell 1 rfl
  have G1 : Hid (Blk w4 w.heap.size #[.int .i64 n', .bool true] 26) := g1
  clear g1
  go_region_held3 (fun w' => w'.cell? ⟨w.heap.size, 0, none⟩ = some (.int .i64 n') ∧ w'.cell? ⟨w.heap.size, 1, none⟩ = some (.bool true)) (first | exact ⟨q1, q2⟩ | exact ⟨Blk.cell ((G1.out.other (p := ⟨w.heap.size + 1 + 1, 0, none⟩) (by simp; omega) _).other (p := ⟨w.heap.size + 1 + 1, 1, none⟩) (by simp; omega) _) 0 rfl, Blk.cell ((G1.out.other (p := ⟨w.heap.size + 1 + 1, 0, none⟩) (by simp; omega) _).other (p := ⟨w.heap.size + 1 + 1, 1, none⟩) (by simp; omega) _) 1 rfl⟩) (first | (go_at_call 10; refine (ora_now b n' true _ (by exact G4.out)).mono ?_; rintro e w' ⟨rfl, rfl⟩) | (go_at_call 11; refine (ora_started b n' true _ (by exact G4.out)).mono ?_; rintro e w' ⟨rfl, rfl⟩))
  go_wp2
  have p0 := (G3.out.set 0 (.int .i64 n')).set 1 (.bool true)
  have p1 : ((w4.setCell ⟨w.heap.size + 1 + 1, 0, none⟩ (.int .i64 n')).setCell ⟨w.heap.size + 1 + 1, 1, none⟩ (.bool true)).cell? ⟨w.heap.size + 1 + 1, 0, none⟩ = some (.int .i64 n') := p0.cell 0 rfl
  have p2 : ((w4.setCell ⟨w.heap.size + 1 + 1, 0, none⟩ (.int .i64 n')).setCell ⟨w.heap.size + 1 + 1, 1, none⟩ (.bool true)).cell? ⟨w.heap.size + 1 + 1, 1, none⟩ = some (.bool true) := p0.cell 1 rfl
  refine bodyPost_ret (v := .tuple #[ckV n' true, .bool true]) (by simp [results, Try.results6, go_sem, p1, p2]) rfl ⟨by rw [HN.out], ?_, ?_⟩
  · rw [HN.out]; exact ((Blk.other G4.out (p := ⟨w.heap.size + 1 + 1, 0, none⟩) (by simp; omega) (.int .i64 n')).other (p := ⟨w.heap.size + 1 + 1, 1, none⟩) (by simp; omega) (.bool true)).drew
  · exact ((G5.out.setNew (p := ⟨w.heap.size + 1 + 1, 0, none⟩) (by show _ ≤ _ + 1 + 1; omega) (.int .i64 n')).setNew (p := ⟨w.heap.size + 1 + 1, 1, none⟩) (by show _ ≤ _ + 1 + 1; omega) (.bool true)).drew

end Go.Proofs.Ythiafdnemfihgaa
