/- A log in memory: alive, Left, Epoch, Closed, Bad, Records, Waits. -/
import Derived.Test.YtlmpkonfclnceaaGreatWlP
import Derived.Test.YtlmpkonfclnceaaGreatWs4
import Derived.Lib.QuietBelow
import Derived.Deep.QuietTactic
import Derived.BigQuiet
namespace Go.Proofs.YtlmpkonfclnceaaGreat
open Go.RowKit Go.Sort

def lgC (d : Nat) (L : Lg) (ha : Option Addr) (hc : Nat) (wa : Option Addr) (wc : Nat) : Array Value := #[.pointer (some ⟨d, 0, none⟩), .int .i64 (L.first : Nat), .int .i64 (L.count : Nat), .int .i64 (L.epoch : Nat), .int .i64 (L.at_ : Nat), .slice ha L.has.length hc, .slice wa L.wait.length wc, .bool L.closed, .bool L.bad]
/-- Block g is the log L upon the disk d. -/
structure LogIn (w : World) (g d bs m : Nat) (L : Lg) (ha : Option Addr) (hc : Nat) (wa : Option Addr) (wc : Nat) : Prop where
  box : Blk w g (lgC d L ha hc wa wc) 79
  has : TxtsAt w ha L.has
  hcap : L.has.length ≤ hc
  hnil : ha = none → hc = 0
  wt : TxtsAt w wa L.wait
  wcap : L.wait.length ≤ wc
  wnil : wa = none → wc = 0
  og : ¬ dod d bs m g
  oh : ∀ y, ha = some y → ¬ dod d bs m y.block ∧ y.block ≠ g ∧ y.block < w.heap.size ∧ ∃ b o, y = ⟨b, o, none⟩
  ow : ∀ y, wa = some y → ¬ dod d bs m y.block ∧ y.block ≠ g ∧ y.block < w.heap.size ∧ ∃ b o, y = ⟨b, o, none⟩
def LogI (w : World) (g d bs m : Nat) (L : Lg) : Prop := ∃ ha hc wa wc, LogIn w g d bs m L ha hc wa wc
theorem LogI.kept {w w' : World} {g d bs m : Nat} {L : Lg} (h : LogI w g d bs m L) (k : Kept (dod d bs m) w w') : LogI w' g d bs m L := by
  obtain ⟨ha, hc, wa, wc, h⟩ := h
  exact ⟨ha, hc, wa, wc, ⟨h.box.kept k h.og, h.has.kept k (fun y hy => (h.oh y hy).1), h.hcap, h.hnil, h.wt.kept k (fun y hy => (h.ow y hy).1), h.wcap, h.wnil, h.og,
    fun y hy => ⟨(h.oh y hy).1, (h.oh y hy).2.1, Nat.lt_of_lt_of_le (h.oh y hy).2.2.1 k.size, (h.oh y hy).2.2.2⟩, fun y hy => ⟨(h.ow y hy).1, (h.ow y hy).2.1, Nat.lt_of_lt_of_le (h.ow y hy).2.2.1 k.size, (h.ow y hy).2.2.2⟩⟩⟩
theorem LogI.same {w w' : World} {g d bs m : Nat} {L : Lg} (h : LogI w g d bs m L) (k : Same w w') : LogI w' g d bs m L := h.kept (k.mono (fun _ _ q => q.elim))
theorem LogI.blk {w : World} {g d bs m : Nat} {L : Lg} (h : LogI w g d bs m L) : g < w.heap.size := by obtain ⟨_, _, _, _, h⟩ := h; exact h.box.lt
theorem wl_alive {w : World} {g d bs m : Nat} {L : Lg} (h : LogI w g d bs m L) :
    Calls Tryz.prog 43 #[.pointer (some ⟨g, 0, none⟩)] w fun e w' => e = .returned (.int .i64 (aliveE L : Nat)) ∧ w' = w := by
  obtain ⟨ha, hc, wa, wc, h⟩ := h
  have p0 := cell_blk h.box
  simp only [lgC] at p0
  unfold aliveE
  clear h
  obtain ⟨first, count, epoch, at_, has, wait, closed, bad⟩ := L
  cases bad
  · cases closed
    · go_enter Tryz.func43, Tryz.ntmps43
      go_wp2_with fail
      go_ret
      exact ⟨rfl, rfl⟩
    · go_enter Tryz.func43, Tryz.ntmps43
      go_wp2_with fail
      go_ret
      exact ⟨rfl, rfl⟩
  · go_enter Tryz.func43, Tryz.ntmps43
    go_wp2_with fail
    go_ret
    exact ⟨rfl, rfl⟩
theorem wl_epoch {w : World} {g d bs m : Nat} {L : Lg} (h : LogI w g d bs m L) :
    Calls Tryz.prog 22 #[.pointer (some ⟨g, 0, none⟩)] w fun e w' => e = .returned (.int .i64 (L.epoch : Nat)) ∧ w' = w := by
  obtain ⟨ha, hc, wa, wc, h⟩ := h
  have p0 := cell_blk h.box
  simp only [lgC] at p0
  clear h
  go_enter Tryz.func22, Tryz.ntmps22
  go_wp2_with fail
  go_ret
  exact ⟨rfl, rfl⟩
theorem wl_closed {w : World} {g d bs m : Nat} {L : Lg} (h : LogI w g d bs m L) :
    Calls Tryz.prog 24 #[.pointer (some ⟨g, 0, none⟩)] w fun e w' => e = .returned (.bool L.closed) ∧ w' = w := by
  obtain ⟨ha, hc, wa, wc, h⟩ := h
  have p0 := cell_blk h.box
  simp only [lgC] at p0
  clear h
  go_enter Tryz.func24, Tryz.ntmps24
  go_wp2_with fail
  go_ret
  exact ⟨rfl, rfl⟩
theorem wl_left {w : World} {g d bs m : Nat} {L : Lg} (h : LogI w g d bs m L) (hat : L.at_ ≤ L.count) (hcn : L.count ≤ 256) :
    Calls Tryz.prog 23 #[.pointer (some ⟨g, 0, none⟩)] w fun e w' => e = .returned (.int .i64 (leftL L : Nat)) ∧ Same w w' := by
  obtain ⟨ha, hc, wa, wc, h⟩ := h
  have p0 := cell_blk h.box
  have G0 := fun dq os i => cell_blk (h.box.kept (Kept.of_below (below_regrown w dq os)) (fun h => h)) i
  simp only [lgC] at p0 G0
  unfold leftL
  clear h
  obtain ⟨first, count, epoch, at_, has, wait, closed, bad⟩ := L
  simp only at hat hcn ⊢
  cases closed
  · have g1 : ((count - at_ : Nat) : Int) = (count : Int) - (at_ : Int) := by omega
    have g2 : IntKind.i64.wrap ((count : Int) - (at_ : Int)) = (count : Int) - (at_ : Int) := IntWalk.i64_in _ (by omega)
    have G1 := Lib.hid g1
    clear g1
    go_enter Tryz.func23, Tryz.ntmps23
    go_wp2_with fail
    refine wp_region_quiet_below (by kernel_rfl) (by kernel_rfl) ?_
    repeat (quiet_step (fail))
    refine wpQuiet_nil ?_
    intro _ hw'
    obtain ⟨⟨dq, osq⟩, hw''⟩ := hw'
    subst hw''
    have kq := Lib.hid (show Same w _ from Kept.of_below (below_regrown w dq osq))
    go_wp2_with fail
    go_ret
    exact ⟨by rw [G1.out]; rfl, kq.out⟩
  · go_enter Tryz.func23, Tryz.ntmps23
    go_wp2_with fail
    go_ret
    exact ⟨rfl, Kept.refl _ _⟩
theorem txts_arrays {w : World} {b off : Nat} {l : List (List Nat)} (h : TxtsAt w (some ⟨b, off, none⟩) l) : ∀ j, j < (l.map strN).length → w.cell? ⟨b, off + j, none⟩ = some (.string ((l.map strN).getD j ByteArray.empty)) := by
  intro j hj
  rw [List.length_map] at hj
  obtain ⟨b', o', s, e, -, hs, hc⟩ := h.at hj
  cases e
  rw [hc, List.getD_eq_getElem?_getD, List.getElem?_map, hs]
  rfl
theorem strE_all (l : List (List Nat)) : strE.all l = l.map (Value.string ∘ strN) := by
  induction l with
  | nil => rfl
  | cons s l ih => rw [Enc.all_cons, ih]; rfl
/-- A copy of texts. -/
theorem sl_clone_txt (a : Option Addr) (n c : Nat) (l : List (List Nat)) (hn : n = l.length) (hl : n ≤ 1000000) (hp : ∀ y, a = some y → ∃ b o, y = ⟨b, o, none⟩) (w : World) (hat : TxtsAt w a l) :
    Calls Tryz.prog 42 #[.slice a n c] w fun e w' => (∃ v, e = .returned v ∧ OwnT w' w.heap.size v l) ∧ Same w w' := by
  cases a with
  | none =>
    have : l = [] := by rcases hat with q | ⟨_, _, q, _⟩; exact q; cases q
    subst this
    refine (Tryz.slices_Clone_string_nil n c w).mono ?_
    rintro e w' ⟨rfl, rfl⟩
    exact ⟨⟨_, rfl, OwnE.nil _ _ _⟩, Kept.refl _ _⟩
  | some ad =>
    obtain ⟨b, off, rfl⟩ := hp ad rfl
    refine (Tryz.slices_Clone_string b off n c (l.map strN) w (by rw [List.length_map]; omega) (by omega) (txts_arrays hat)).mono ?_
    rintro e w' ⟨v, rfl, ho, -, hb⟩
    refine ⟨⟨v, rfl, ?_⟩, Kept.of_below hb⟩
    show w'.ownsRow _ _ _ _ _ _
    rw [List.take_of_length_le (by rw [List.length_map]; omega), hn, List.map_map] at ho
    rw [strE_all]
    exact ho
set_option maxRecDepth 100000 in
theorem wl_records {w : World} {g d bs m : Nat} {L : Lg} (h : LogI w g d bs m L) (hl : L.has.length ≤ 1000000) :
    Calls Tryz.prog 20 #[.pointer (some ⟨g, 0, none⟩)] w fun e w' => (∃ v, e = .returned v ∧ OwnT w' w.heap.size v L.has) ∧ Same w w' := by
  obtain ⟨ha, hc, wa, wc, h⟩ := h
  have p0 := cell_blk h.box
  simp only [lgC] at p0
  have CL := Lib.hid (sl_clone_txt ha L.has.length hc L.has rfl hl (fun y hy => (h.oh y hy).2.2.2) w h.has)
  clear h hl
  go_enter Tryz.func20, Tryz.ntmps20
  go_wp2_with fail
  with_reducible refine CL.out.mono ?_
  rintro e w' ⟨⟨v, rfl, ho⟩, k⟩
  have HO := Lib.hid ho
  have K := Lib.hid k
  clear ho k
  go_wp2_with fail
  go_ret
  exact ⟨⟨v, rfl, HO.out⟩, K.out⟩
set_option maxRecDepth 100000 in
theorem wl_waits {w : World} {g d bs m : Nat} {L : Lg} (h : LogI w g d bs m L) (hl : L.wait.length ≤ 1000000) :
    Calls Tryz.prog 21 #[.pointer (some ⟨g, 0, none⟩)] w fun e w' => (∃ v, e = .returned v ∧ OwnT w' w.heap.size v L.wait) ∧ Same w w' := by
  obtain ⟨ha, hc, wa, wc, h⟩ := h
  have p0 := cell_blk h.box
  simp only [lgC] at p0
  have CL := Lib.hid (sl_clone_txt wa L.wait.length wc L.wait rfl hl (fun y hy => (h.ow y hy).2.2.2) w h.wt)
  clear h hl
  go_enter Tryz.func21, Tryz.ntmps21
  go_wp2_with fail
  with_reducible refine CL.out.mono ?_
  rintro e w' ⟨⟨v, rfl, ho⟩, k⟩
  have HO := Lib.hid ho
  have K := Lib.hid k
  clear ho k
  go_wp2_with fail
  go_ret
  exact ⟨⟨v, rfl, HO.out⟩, K.out⟩
end Go.Proofs.YtlmpkonfclnceaaGreat
