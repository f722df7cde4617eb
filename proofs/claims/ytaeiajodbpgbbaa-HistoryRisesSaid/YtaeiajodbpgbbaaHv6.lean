/- The first event of a kind of a transaction's. -/
import Derived.Test.YtaeiajodbpgbbaaHv5
namespace Go.Proofs.Ytaeiajodbpgbbaa
open Go.RowKit Go.Sort Go.Shelf

/-- Is an event of a kind, and a transaction's? -/
def hit (kind : Nat) (id : Int) (e : HEv) : Bool := decide (e.k = kind) && decide (e.x = id)
/-- The place of the first one; -1. -/
def fstI (l : List HEv) (kind : Nat) (id : Int) : Int := Lib.idxBy (fun _ y => hit kind id y) l default
theorem fstI_cases (l : List HEv) (kind : Nat) (id : Int) : (fstI l kind id = -1 ∧ l.find? (hit kind id) = none) ∨ ∃ (k : Nat) (h : k < l.length), fstI l kind id = (k : Int) ∧ l.find? (hit kind id) = some l[k] := by
  unfold fstI Lib.idxBy
  suffices H : ∀ (l : List HEv) (i : Nat), (Lib.idxByFrom (fun _ y => hit kind id y) default l i = -1 ∧ l.find? (hit kind id) = none) ∨ ∃ (k : Nat) (h : k < l.length), Lib.idxByFrom (fun _ y => hit kind id y) default l i = ((i + k : Nat) : Int) ∧ l.find? (hit kind id) = some l[k] by
    rcases H l 0 with h | ⟨k, h, h1, h2⟩
    · exact .inl h
    · exact .inr ⟨k, h, by simpa using h1, h2⟩
  intro l
  induction l with
  | nil => intro i; exact .inl ⟨rfl, rfl⟩
  | cons x l ih =>
    intro i
    cases hx : hit kind id x
    · rcases ih (i + 1) with ⟨h1, h2⟩ | ⟨k, h, h1, h2⟩
      · exact .inl ⟨by simp only [Lib.idxByFrom, hx]; exact h1, by rw [List.find?_cons, hx]; exact h2⟩
      · exact .inr ⟨k + 1, by simpa using h, by simp only [Lib.idxByFrom, hx]; rw [show i + (k + 1) = i + 1 + k by omega]; exact h1, by rw [List.find?_cons, hx]; exact h2⟩
    · exact .inr ⟨0, by simp, by simp [Lib.idxByFrom, hx], by rw [List.find?_cons, hx]; rfl⟩
def zeroH : HEv := ⟨0, 0, 0, [], [], false⟩
/-- The first one, and whether there is one. -/
def fstE (l : List HEv) (kind : Nat) (id : Int) : HEv := (l.find? (hit kind id)).getD zeroH
def fstB (l : List HEv) (kind : Nat) (id : Int) : Bool := (l.find? (hit kind id)).isSome
set_option maxRecDepth 100000 in
theorem ix_empty (a : Option Addr) (c : Nat) (fv : Value) (w : World) : Calls Try.prog 32 #[.slice a 0 c, fv] w fun e w' => e = .returned (.int .i64 (-1)) ∧ w' = w := by
  go_enter Try.func32, Try.ntmps32
  go_wp2_with fail
  go_loopw [8] (fun t wr => t = .int .i64 0 ∧ wr = w) (fun _ _ => 0)
  case atStart => exact ⟨rfl, rfl⟩
  case round =>
    obtain ⟨rfl, rfl⟩ := hrel
    go_wp2_with fail
    go_ret
    exact ⟨rfl, rfl⟩
set_option maxRecDepth 100000 in
theorem pred_first (kind : Nat) (id : Int) (B1 B2 : Nat) (w : World) (h1 : Blk w B1 #[.int .u8 (kind : Nat)] 5) (h2 : Blk w B2 #[.int .i64 id] 3) :
    PredBelow Try.prog 33 #[.pointer (some ⟨B1, 0, none⟩), .pointer (some ⟨B2, 0, none⟩)] (fun x => .agg (encH x).toArray) (hit kind id) w := fun W x hb => by
  have k := Kept.of_below hb
  have b1 := h1.kept k (fun h => h)
  have b2 := h2.kept k (fun h => h)
  have p1 := cell_blk b1
  have p2 := cell_blk b2
  have z1 := b1.lt
  have z2 := b2.lt
  obtain ⟨ek, ex, et, ey, ev, ei⟩ := x
  have HB := Lib.hid hb
  clear h1 h2 b1 b2 k hb
  show Calls Try.prog 33 #[.agg #[.int .u8 (ek : Nat), .int .i64 ex, .int .i64 et, encStr ey, encStr ev, .bool ei], .pointer (some ⟨B1, 0, none⟩), .pointer (some ⟨B2, 0, none⟩)] W _
  unfold hit
  by_cases q1 : ek = kind
  · by_cases q2 : ex = id
    · subst q1 q2
      go_enter Try.func33, Try.ntmps33
      go_wp2_with fail
      go_ret
      exact ⟨by simp, HB.out.alloc HB.out.size _⟩
    · subst q1
      have g2 : (ex == id) = false := by simpa using q2
      go_enter Try.func33, Try.ntmps33
      go_wp2_with fail
      go_ret
      exact ⟨by simp [q2], HB.out.alloc HB.out.size _⟩
  · have g1 : ((ek : Int) == (kind : Int)) = false := by simp; omega
    go_enter Try.func33, Try.ntmps33
    go_wp2_with fail
    go_ret
    exact ⟨by simp [q1], HB.out.alloc HB.out.size _⟩
theorem Blk.set6 {w : World} {b : Nat} {v0 v1 v2 v3 v4 v5 u0 u1 u2 u3 u4 u5 : Value} {t : TypeId} (h : Blk w b #[v0, v1, v2, v3, v4, v5] t) :
    Blk ((((((w.setCell ⟨b, 0, none⟩ u0).setCell ⟨b, 1, none⟩ u1).setCell ⟨b, 2, none⟩ u2).setCell ⟨b, 3, none⟩ u3).setCell ⟨b, 4, none⟩ u4).setCell ⟨b, 5, none⟩ u5) b #[u0, u1, u2, u3, u4, u5] t :=
  (((((h.set 0 u0).set 1 u1).set 2 u2).set 3 u3).set 4 u4).set 5 u5
/-- What first tells. -/
def FsPost (w : World) (l : List HEv) (kind : Nat) (id : Int) (e : Ending) (w' : World) : Prop := e = .returned (.tuple #[.agg (encH (fstE l kind id)).toArray, .bool (fstB l kind id)]) ∧ Same w w'
set_option maxRecDepth 100000 in
set_option maxHeartbeats 800000 in
theorem hv_first (a : Option Addr) (n c : Nat) (l : List HEv) (hn : n = l.length) (hl : n ≤ 1000) (kind : Nat) (id : Int) (w : World) (hat : ElsAt evE w a l) :
    Calls Try.prog 21 #[.slice a n c, .int .u8 (kind : Nat), .int .i64 id] w (FsPost w l kind id) := by
  have HN := Lib.hid hn; have HAT := Lib.hid hat
  have IX := Lib.hid (show ∀ (W : World) (B1 B2 : Nat), Same w W → Blk W B1 #[.int .u8 (kind : Nat)] 5 → Blk W B2 #[.int .i64 id] 3 → Calls Try.prog 32 #[.slice a n c, .func (.func 33) #[] #[.pointer (some ⟨B1, 0, none⟩), .pointer (some ⟨B2, 0, none⟩)]] W fun e w' => e = .returned (.int .i64 (fstI l kind id)) ∧ Same W w' from by
    intro W B1 B2 k h1 h2
    by_cases h0 : l = []
    · subst h0
      simp at hn
      subst hn
      exact (ix_empty a c _ W).mono (fun e w' ⟨q1, q2⟩ => ⟨q1, q2 ▸ Kept.refl _ _⟩)
    · obtain ⟨b, off, rfl, hb⟩ := hat.there h0
      have hcon := AnyQ.slices_IndexFunc Try.ixeA 6 Try.isAgg42 Try.sizeOf42 encH (fun _ => rfl) (hit kind id) 33 #[.pointer (some ⟨B1, 0, none⟩), .pointer (some ⟨B2, 0, none⟩)] (enters_of Try.func33 (by kernel_rfl) rfl) b off n c l W (pred_first kind id B1 B2 W h1 h2) (by omega) (by omega) (Nat.lt_of_lt_of_le hb k.size) (fun j hj i v hi => by
        have hx : l[j]? = some l[j]! := by rw [List.getElem?_eq_getElem hj, getElem!_pos l j hj]
        have := (hat.same k).get hx i hi
        rw [Nat.add_assoc]; exact this)
      change Calls Try.prog 32 _ _ _ at hcon
      rw [List.take_of_length_le (by omega)] at hcon
      exact hcon.mono (fun e w' ⟨q1, q2⟩ => ⟨q1, Kept.of_below q2⟩))
  have FC := Lib.hid (fstI_cases l kind id)
  clear hn hat
  go_enter Try.func21, Try.ntmps21
  go_upto_region 1 with fail
  obtain ⟨y, hy⟩ : ∃ y, w.heap.size = y := ⟨_, rfl⟩
  rw [hy]
  refine cutWl (fun wn => Fr wn [(y + 1 + 1, #[.int .u8 0, .int .i64 0, .int .i64 0, encStr [], encStr [], .bool false], 42), (y + 1, #[.int .i64 id], 3), (y, #[.int .u8 (kind : Nat)], 5)] ∧ Same w wn) ⟨⟨Blk.new' _ _ _ (by simp [hy]), (Blk.new' _ _ _ (by simp [hy])).alloc _, ((Blk.new' _ _ _ hy.symm).alloc _).alloc _, trivial⟩, (((Kept.refl _ _).alloc _).alloc _).alloc _⟩ ?_
  rintro w4 ⟨hf4, k4⟩
  have F4 := Lib.hid hf4
  have K4 := Lib.hid k4
  have B1 := Lib.hid hf4.2.1
  have B0 := Lib.hid hf4.2.2.1
  have HY := Lib.hid hy
  clear hf4 k4 hy
  go_wp2_with fail
  with_reducible refine (IX.out w4 y (y + 1) K4.out B0.out B1.out).mono ?_
  rintro e w5 ⟨rfl, k5⟩
  have F5 := Lib.hid (F4.out.same k5)
  have B5 := Lib.hid (F4.out.same k5).1
  have K5 := Lib.hid (K4.out.trans k5)
  clear k5 F4 K4 IX
  obtain ⟨p2, f2, p1, f1, p0, f0, -⟩ := F5.out.rules
  have z2 := F5.out.1.lt
  rcases FC.out with ⟨e1, e2⟩ | ⟨k, hk, e1, e2⟩
  · rw [e1]
    have E1 := Lib.hid (show fstE l kind id = zeroH from by unfold fstE; rw [e2]; rfl)
    have E2 := Lib.hid (show fstB l kind id = false from by unfold fstB; rw [e2]; rfl)
    clear e1 e2 FC
    go_wp2_with fail
    (try simp only [Exit.inBlock, Exit.then])
    refine bodyPost_ret (results_two_tmp rfl _ _ _ _ _ _ rfl (Blk.set6 B5.out) Try.underlying42 rfl (by kernel_rfl)) rfl ?_
    refine ⟨by rw [E1.out, E2.out]; rfl, ?_⟩
    have hyy := HY.out
    repeat (first | with_reducible exact K5.out | refine Kept.setNew ?_ (by dsimp only; omega) _)
  · rw [e1]
    have E1 := Lib.hid (show fstE l kind id = l[k] from by unfold fstE; rw [e2]; rfl)
    have E2 := Lib.hid (show fstB l kind id = true from by unfold fstB; rw [e2]; rfl)
    clear e1 e2 FC
    obtain ⟨b, off, rfl, hbl, hc⟩ := ev_at HAT.out hk
    obtain ⟨c0, c1, c2, c3, c4, c5⟩ := hc _ K5.out
    obtain ⟨x, hx⟩ : ∃ x, l[k] = x := ⟨_, rfl⟩
    rw [hx] at c0 c1 c2 c3 c4 c5 E1
    have g1 : (k : Int) < (n : Int) := by have := HN.out; omega
    have g0 : (0 : Int) ≤ (k : Int) := by omega
    have hyb : b < y := by have := HY.out; omega
    clear hc hx
    go_wp2_with fail
    (try simp only [Exit.inBlock, Exit.then])
    refine bodyPost_ret (results_two_tmp rfl _ _ _ _ _ _ rfl (Blk.set6 B5.out) Try.underlying42 rfl (by kernel_rfl)) rfl ?_
    refine ⟨by rw [E1.out, E2.out]; rfl, ?_⟩
    have hyy := HY.out
    repeat (first | with_reducible exact K5.out | refine Kept.setNew ?_ (by dsimp only; omega) _)
end Go.Proofs.Ytaeiajodbpgbbaa
