/- The document's log: Left, Restart, New. -/
import Derived.Test.YtlmpkonfclnceaaGreatGRqB
import Derived.Test.YtlmpkonfclnceaaGreatGRef
import Derived.Test.YtlmpkonfclnceaaGreatTxa
namespace Go.Proofs.YtlmpkonfclnceaaGreat
open Go.RowKit Go.Sort

/-- The cells of the document's log. -/
def lgV (a : Option Addr) (c : Nat) (D : Dsk) (L : Lg) (ha : Option Addr) (hc : Nat) (wa : Option Addr) (wc : Nat) : Array Value :=
  #[.slice a D.s.length c, .bool D.off, .int .i64 D.calls, .int .i64 D.after, .bool D.done, .int .i64 (L.first : Nat), .int .i64 (L.count : Nat), .int .i64 (L.epoch : Nat), .int .i64 (L.at_ : Nat), .slice ha L.has.length hc, .slice wa L.wait.length wc, .bool L.closed, .bool L.bad]
/-- What lies where its slices point. -/
structure RLog (w : World) (P : Nat → Prop) (a : Option Addr) (D : Dsk) (L : Lg) (ha : Option Addr) (hc : Nat) (wa : Option Addr) (wc : Nat) : Prop where
  s : SecsAt w a D.s
  has : TxtsAt w ha L.has
  hnil : ha = none → hc = 0
  wt : TxtsAt w wa L.wait
  wnil : wa = none → wc = 0
  pa : ∀ y, a = some y → P y.block
  ph : ∀ y, ha = some y → P y.block
  pw : ∀ y, wa = some y → P y.block
  lh : ∀ y, ha = some y → y.block < w.heap.size
  lw : ∀ y, wa = some y → y.block < w.heap.size
theorem RLog.kept {w w' : World} {fp P : Nat → Prop} {a : Option Addr} {D : Dsk} {L : Lg} {ha : Option Addr} {hc : Nat} {wa : Option Addr} {wc : Nat} (h : RLog w P a D L ha hc wa wc) (k : Kept fp w w') (hp : ∀ j, P j → ¬ fp j) : RLog w' P a D L ha hc wa wc :=
  ⟨h.s.kept k (.inr (fun y hy => hp _ (h.pa y hy))), h.has.kept k (fun y hy => hp _ (h.ph y hy)), h.hnil, h.wt.kept k (fun y hy => hp _ (h.pw y hy)), h.wnil, h.pa, h.ph, h.pw, fun y hy => Nat.lt_of_lt_of_le (h.lh y hy) k.size, fun y hy => Nat.lt_of_lt_of_le (h.lw y hy) k.size⟩
/-- Texts of one's own lie in a block that is there. -/
theorem ownT_lt {w : World} {base n c : Nat} {a : Option Addr} {l : List (List Nat)} (h : OwnT w base (.slice a n c) l) : ∀ y, a = some y → y.block < w.heap.size := fun y hy => (World.ownsRow.lt h y.block (by rw [hy]; rfl)).2
theorem RLog.same {w w' : World} {P : Nat → Prop} {a : Option Addr} {D : Dsk} {L : Lg} {ha : Option Addr} {hc : Nat} {wa : Option Addr} {wc : Nat} (h : RLog w P a D L ha hc wa wc) (k : Same w w') : RLog w' P a D L ha hc wa wc := h.kept k (fun _ _ h => h)
set_option maxRecDepth 100000 in
theorem rx_left (a : Option Addr) (c : Nat) (D : Dsk) (L : Lg) (ha : Option Addr) (hc : Nat) (wa : Option Addr) (wc : Nat) (hat : L.at_ ≤ L.count) (hcn : L.count ≤ 256) (w : World) :
    Calls Tryz.prog 29 #[.agg (lgV a c D L ha hc wa wc)] w fun e w' => e = .returned (.int .i64 (leftL L : Nat)) ∧ Same w w' := by
  unfold lgV
  have g1 : Hid (((L.count - L.at_ : Nat) : Int) = (L.count : Int) - (L.at_ : Int)) := by show _ = _; omega
  have g2 : IntKind.i64.wrap ((L.count : Int) - (L.at_ : Int)) = (L.count : Int) - (L.at_ : Int) := IntWalk.i64_in _ (by omega)
  unfold leftL
  cases hcl : L.closed
  · go_enter Tryz.func29, Tryz.ntmps29
    go_wp2_with fail
    go_ret
    exact ⟨by rw [g1.out]; rfl, (Kept.refl _ w).alloc _⟩
  · go_enter Tryz.func29, Tryz.ntmps29
    go_wp2_with fail
    go_ret
    exact ⟨rfl, (Kept.refl _ w).alloc _⟩
set_option maxRecDepth 100000 in
set_option maxHeartbeats 800000 in
theorem rx_restart {w : World} {P : Nat → Prop} {a : Option Addr} {c : Nat} {D : Dsk} {L : Lg} {ha : Option Addr} {hc : Nat} {wa : Option Addr} {wc : Nat} (h : RLog w P a D L ha hc wa wc) (e : Int) :
    Calls Tryz.prog 31 #[.agg (lgV a c D L ha hc wa wc), .int .i64 e] w fun r w' => (∃ ha' hc' wa' wc', r = .returned (.tuple #[.agg (lgV a c D (restartL L e) ha' hc' wa' wc'), .int .i64 (restartE L e : Nat)]) ∧ RLog w' P a D (restartL L e) ha' hc' wa' wc') ∧ Same w w' := by
  have HI := Lib.hid h
  clear h
  have k1 : ∀ C1 C2 : Obj, Same w ((w.alloc C1).alloc C2) := fun _ _ => ((Kept.refl _ w).alloc _).alloc _
  have K1 := Lib.hid k1
  clear k1
  cases hb : L.bad
  · by_cases h1 : e ≤ (L.epoch : Int)
    · have e1 : restartE L e = 12 := by unfold restartE; rw [hb, if_neg (by decide), if_pos h1]
      have e2 : restartL L e = L := by unfold restartL; rw [e1]; rfl
      rw [e1, e2]
      unfold lgV
      rw [hb]
      clear e1 e2
      go_enter Tryz.func31, Tryz.ntmps31
      go_wp2_with fail
      refine bodyPost_ret (results_two_tmp rfl _ _ _ _ _ _ rfl (Blk.new' _ _ _ (by simp)) Tryz.underlying48 rfl (by kernel_rfl)) rfl ?_
      exact ⟨⟨ha, hc, wa, wc, rfl, HI.out.same (K1.out _ _)⟩, K1.out _ _⟩
    by_cases h2 : 1099511627776 < e
    · have e1 : restartE L e = 9 := by unfold restartE; rw [hb, if_neg (by decide), if_neg h1, if_pos h2]
      have e2 : restartL L e = L := by unfold restartL; rw [e1]; rfl
      rw [e1, e2]
      unfold lgV
      rw [hb]
      clear e1 e2
      go_enter Tryz.func31, Tryz.ntmps31
      go_wp2_with fail
      refine bodyPost_ret (results_two_tmp rfl _ _ _ _ _ _ rfl (Blk.new' _ _ _ (by simp)) Tryz.underlying48 rfl (by kernel_rfl)) rfl ?_
      exact ⟨⟨ha, hc, wa, wc, rfl, HI.out.same (K1.out _ _)⟩, K1.out _ _⟩
    have e1 : restartE L e = 0 := by unfold restartE; rw [hb, if_neg (by decide), if_neg h1, if_neg h2]
    have e2 : restartL L e = ⟨L.first, L.count, e.toNat, 0, [], [], false, false⟩ := by unfold restartL; rw [if_pos e1]
    rw [e1, e2]
    obtain ⟨m, rfl⟩ : ∃ m : Nat, e = (m : Int) := ⟨e.toNat, by omega⟩
    rw [Int.toNat_natCast]
    unfold lgV
    rw [hb]
    clear e1 e2
    go_enter Tryz.func31, Tryz.ntmps31
    go_wp2_with fail
    refine bodyPost_ret (results_two_tmp rfl _ _ _ _ _ _ rfl (Blk.new' _ _ _ (by simp)) Tryz.underlying48 rfl (by kernel_rfl)) rfl ?_
    exact ⟨⟨none, 0, none, 0, rfl, ⟨HI.out.s.kept (K1.out _ _) (.inr (fun _ _ h => h)), .inl rfl, fun _ => rfl, .inl rfl, fun _ => rfl, HI.out.pa, fun y hy => (by cases hy), fun y hy => (by cases hy), fun y hy => (by cases hy), fun y hy => (by cases hy)⟩⟩, K1.out _ _⟩
  · have e1 : restartE L e = 11 := by unfold restartE; rw [hb, if_pos rfl]
    have e2 : restartL L e = L := by unfold restartL; rw [e1]; rfl
    rw [e1, e2]
    unfold lgV
    rw [hb]
    clear e1 e2
    go_enter Tryz.func31, Tryz.ntmps31
    go_wp2_with fail
    refine bodyPost_ret (results_two_tmp rfl _ _ _ _ _ _ rfl (Blk.new' _ _ _ (by simp)) Tryz.underlying48 rfl (by kernel_rfl)) rfl ?_
    exact ⟨⟨ha, hc, wa, wc, rfl, HI.out.same (K1.out _ _)⟩, K1.out _ _⟩
/-- The cells of no log. -/
def zrV : Array Value := #[.slice none 0 0, .bool false, .int .i64 0, .int .i64 0, .bool false, .int .i64 0, .int .i64 0, .int .i64 0, .int .i64 0, .slice none 0 0, .slice none 0 0, .bool false, .bool false]
def RNew (w : World) (P : Nat → Prop) (a : Option Addr) (c : Nat) (D : Dsk) (E : Nat) (L : Lg) (r : Ending) (w' : World) : Prop :=
  (if E = 0 then ∃ ha hc wa wc, r = .returned (.tuple #[.agg (lgV a c D L ha hc wa wc), .int .i64 0]) ∧ RLog w' P a D L ha hc wa wc else r = .returned (.tuple #[.agg zrV, .int .i64 (E : Nat)])) ∧ Same w w'
set_option maxRecDepth 100000 in
set_option maxHeartbeats 1600000 in
theorem rx_new {w : World} {P : Nat → Prop} (a : Option Addr) (c : Nat) (D : Dsk) (hs : SecsAt w a D.s) (hpa : ∀ y, a = some y → P y.block) (hl : D.s.length ≤ 4096) (f q e : Int) :
    Calls Tryz.prog 13 #[refV a D.s.length c D, .int .i64 f, .int .i64 q, .int .i64 e] w (RNew w P a c D (newE D f q e) (newL f q e)) := by
  have HS := Lib.hid hs
  have HP := Lib.hid hpa
  clear hs hpa
  have k1 : ∀ C1 C2 : Obj, Same w ((w.alloc C1).alloc C2) := fun _ _ => ((Kept.refl _ w).alloc _).alloc _
  have K1 := Lib.hid k1
  clear k1
  obtain ⟨N, hN⟩ : ∃ N, D.s.length = N := ⟨_, rfl⟩
  unfold newE newL
  rw [hN] at hl ⊢
  cases ho : D.off
  · by_cases h1 : q < 0 ∨ 256 < q ∨ f < 0 ∨ (N : Int) - q < f
    · rw [if_neg (by decide), if_pos h1]
      by_cases z1 : q < 0
      · unfold refV
        go_enter Tryz.func13, Tryz.ntmps13
        go_wp2_with fail
        refine bodyPost_ret (results_two_tmp rfl _ _ _ _ _ _ rfl (Blk.new' _ _ _ (by simp)) Tryz.underlying48 rfl (by kernel_rfl)) rfl ?_
        exact ⟨by rw [if_neg (by decide)]; rfl, K1.out _ _⟩
      by_cases z2 : 256 < q
      · unfold refV
        go_enter Tryz.func13, Tryz.ntmps13
        go_wp2_with fail
        refine bodyPost_ret (results_two_tmp rfl _ _ _ _ _ _ rfl (Blk.new' _ _ _ (by simp)) Tryz.underlying48 rfl (by kernel_rfl)) rfl ?_
        exact ⟨by rw [if_neg (by decide)]; rfl, K1.out _ _⟩
      by_cases z3 : f < 0
      · unfold refV
        go_enter Tryz.func13, Tryz.ntmps13
        go_wp2_with fail
        refine bodyPost_ret (results_two_tmp rfl _ _ _ _ _ _ rfl (Blk.new' _ _ _ (by simp)) Tryz.underlying48 rfl (by kernel_rfl)) rfl ?_
        exact ⟨by rw [if_neg (by decide)]; rfl, K1.out _ _⟩
      have z4 : (N : Int) - q < f := by omega
      have z5 : IntKind.i64.wrap ((N : Int) - q) = (N : Int) - q := IntWalk.i64_in _ (by omega)
      clear h1
      unfold refV
      go_enter Tryz.func13, Tryz.ntmps13
      go_wp2_with fail
      refine bodyPost_ret (results_two_tmp rfl _ _ _ _ _ _ rfl (Blk.new' _ _ _ (by simp)) Tryz.underlying48 rfl (by kernel_rfl)) rfl ?_
      exact ⟨by rw [if_neg (by decide)]; rfl, K1.out _ _⟩
    · rw [if_neg (by decide), if_neg h1]
      have z1 : ¬ q < 0 := by omega
      have z2 : ¬ 256 < q := by omega
      have z3 : ¬ f < 0 := by omega
      have z4 : ¬ (N : Int) - q < f := by omega
      have z5 : IntKind.i64.wrap ((N : Int) - q) = (N : Int) - q := IntWalk.i64_in _ (by omega)
      clear h1
      by_cases y1 : e < 1
      · rw [if_pos (.inl y1)]
        unfold refV
        go_enter Tryz.func13, Tryz.ntmps13
        go_wp2_with fail
        refine bodyPost_ret (results_two_tmp rfl _ _ _ _ _ _ rfl (Blk.new' _ _ _ (by simp)) Tryz.underlying48 rfl (by kernel_rfl)) rfl ?_
        exact ⟨by rw [if_neg (by decide)]; rfl, K1.out _ _⟩
      by_cases y2 : 1099511627776 < e
      · rw [if_pos (.inr y2)]
        unfold refV
        go_enter Tryz.func13, Tryz.ntmps13
        go_wp2_with fail
        refine bodyPost_ret (results_two_tmp rfl _ _ _ _ _ _ rfl (Blk.new' _ _ _ (by simp)) Tryz.underlying48 rfl (by kernel_rfl)) rfl ?_
        exact ⟨by rw [if_neg (by decide)]; rfl, K1.out _ _⟩
      rw [if_neg (by omega)]
      obtain ⟨f', rfl⟩ : ∃ m : Nat, f = (m : Int) := ⟨f.toNat, by omega⟩
      obtain ⟨q', rfl⟩ : ∃ m : Nat, q = (m : Int) := ⟨q.toNat, by omega⟩
      obtain ⟨e', rfl⟩ : ∃ m : Nat, e = (m : Int) := ⟨e.toNat, by omega⟩
      rw [Int.toNat_natCast, Int.toNat_natCast, Int.toNat_natCast]
      unfold refV
      go_enter Tryz.func13, Tryz.ntmps13
      go_wp2_with fail
      refine bodyPost_ret (results_two_tmp rfl _ _ _ _ _ _ rfl (Blk.new' _ _ _ (by simp)) Tryz.underlying48 rfl (by kernel_rfl)) rfl ?_
      refine ⟨?_, K1.out _ _⟩
      rw [if_pos rfl]
      refine ⟨none, 0, none, 0, ?_, HS.out.kept (K1.out _ _) (.inr (fun _ _ h => h)), .inl rfl, fun _ => rfl, .inl rfl, fun _ => rfl, HP.out, fun y hy => (by cases hy), fun y hy => (by cases hy), fun y hy => (by cases hy), fun y hy => (by cases hy)⟩
      unfold lgV
      rw [hN, ho]
      rfl
  · rw [if_pos rfl]
    unfold refV
    go_enter Tryz.func13, Tryz.ntmps13
    go_wp2_with fail
    refine bodyPost_ret (results_two_tmp rfl _ _ _ _ _ _ rfl (Blk.new' _ _ _ (by simp)) Tryz.underlying48 rfl (by kernel_rfl)) rfl ?_
    exact ⟨by rw [if_neg (by decide)]; rfl, K1.out _ _⟩
end Go.Proofs.YtlmpkonfclnceaaGreat
