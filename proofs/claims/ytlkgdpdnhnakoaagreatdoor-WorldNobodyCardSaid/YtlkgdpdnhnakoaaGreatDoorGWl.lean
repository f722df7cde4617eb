/- GWl: WsP, Ws1, Ws4, WlP, Wl1, Wl2, Wl3. -/
import Derived.Test.YtlkgdpdnhnakoaaGreatDoorSecP
import Derived.Test.YtlkgdpdnhnakoaaGreatDoorGSecB
import Derived.Test.YtlkgdpdnhnakoaaGreatDoorEl
import Derived.Lib.MinMax
import Derived.Test.YtlkgdpdnhnakoaaGreatDoorGCpy
import Derived.Lib.BufferWrite
import Derived.Test.YtlkgdpdnhnakoaaGreatDoorGRow
import Derived.Lib.QuietBelow
import Derived.Deep.QuietTactic
import Derived.BigQuiet
namespace Go.Proofs.YtlkgdpdnhnakoaaGreatDoor
def need (s : List Nat) : Nat := 1 + min s.length 238
/-- The texts that go behind what is used, and the further sectors' ones. -/
def gsp : Nat → List (List Nat) → List (List Nat) × List (List (List Nat))
  | _, [] => ([], [])
  | u, s :: l => if u + need s ≤ 239 then (s :: (gsp (u + need s) l).1, (gsp (u + need s) l).2) else ([], (s :: (gsp (need s) l).1) :: (gsp (need s) l).2)
def gs (l : List (List Nat)) : List (List (List Nat)) := (gsp 239 l).2
def addG (o : List (List (List Nat))) (s : List Nat) : List (List (List Nat)) := o.dropLast ++ [o.getLastD [] ++ [s]]
def TBts (l : List (List Nat)) : Prop := ∀ s ∈ l, Bts s
end Go.Proofs.YtlkgdpdnhnakoaaGreatDoor
namespace Go.Proofs.YtlkgdpdnhnakoaaGreatDoor
open Go.RowKit Go.Sort
def strE : Enc (List Nat) := ⟨1, fun xs => [.string (strN xs)], fun _ => rfl, by decide, fun x v hv => by simp at hv; subst hv; rfl⟩
abbrev TxtsAt (w : World) (a : Option Addr) (l : List (List Nat)) : Prop := ElsAt strE w a l
/-- One text in memory. -/
theorem TxtsAt.at {w : World} {a : Option Addr} {l : List (List Nat)} (h : TxtsAt w a l) {i : Nat} (hi : i < l.length) :
    ∃ b off s, a = some ⟨b, off, none⟩ ∧ b < w.heap.size ∧ l[i]? = some s ∧ w.cell? ⟨b, off + i, none⟩ = some (.string (strN s)) := by
  obtain ⟨b, off, rfl, hb⟩ := h.there (fun e => by rw [e] at hi; simp at hi)
  have hx : l[i]? = some l[i] := List.getElem?_eq_getElem hi
  refine ⟨b, off, l[i], rfl, hb, hx, ?_⟩
  have := h.get hx 0 (u := .string (strN l[i])) rfl
  simpa [strE] using this
theorem TxtsAt.tail {w : World} {b off : Nat} {l : List (List Nat)} (h : TxtsAt w (some ⟨b, off, none⟩) l) (k : Nat) : TxtsAt w (some ⟨b, off + k, none⟩) (l.drop k) := by
  have := ElsAt.drop h k
  rw [show k * strE.n = k from Nat.mul_one k] at this
  exact this
end Go.Proofs.YtlkgdpdnhnakoaaGreatDoor
namespace Go.Proofs.YtlkgdpdnhnakoaaGreatDoor
open Go.RowKit Go.Sort
/-- Texts that a log takes. -/
structure TxOK (l : List (List Nat)) : Prop where
  few : l.length ≤ 100000
  short : ∀ s ∈ l, s.length ≤ 238
  bts : TBts l
theorem TxOK.drop {l : List (List Nat)} (h : TxOK l) (k : Nat) : TxOK (l.drop k) := ⟨by rw [List.length_drop]; have := h.few; omega, fun s hs => h.short s (List.mem_of_mem_drop hs), fun s hs => h.bts s (List.mem_of_mem_drop hs)⟩
section
attribute [local go_sem ↓] exec_app semAt_app
attribute [local go_sem] isApp_lit appA appX
end
end Go.Proofs.YtlkgdpdnhnakoaaGreatDoor
namespace Go.Proofs.YtlkgdpdnhnakoaaGreatDoor
/-- A log. -/
structure Lg where
  first : Nat
  count : Nat
  epoch : Nat
  at_ : Nat
  has : List (List Nat)
  wait : List (List Nat)
  closed : Bool
  bad : Bool
/-- Errors of a new log. -/
def newE (D : Dsk) (f c e : Int) : Nat :=
  if D.off then 8 else if c < 0 ∨ 256 < c ∨ f < 0 ∨ (D.s.length : Int) - c < f then 2 else if e < 1 ∨ 1099511627776 < e then 9 else 0
def newL (f c e : Int) : Lg := ⟨f.toNat, c.toNat, e.toNat, 0, [], [], false, false⟩
def restartE (L : Lg) (e : Int) : Nat := if L.bad then 11 else if e ≤ L.epoch then 12 else if 1099511627776 < e then 9 else 0
def restartL (L : Lg) (e : Int) : Lg := if restartE L e = 0 then ⟨L.first, L.count, e.toNat, 0, [], [], false, false⟩ else L
end Go.Proofs.YtlkgdpdnhnakoaaGreatDoor
namespace Go.Proofs.YtlkgdpdnhnakoaaGreatDoor
open Go.RowKit Go.Sort
def lgC (d : Nat) (L : Lg) (ha : Option Addr) (hc : Nat) (wa : Option Addr) (wc : Nat) : Array Value := #[.pointer (some ⟨d, 0, none⟩), .int .i64 (L.first : Nat), .int .i64 (L.count : Nat), .int .i64 (L.epoch : Nat), .int .i64 (L.at_ : Nat), .slice ha L.has.length hc, .slice wa L.wait.length wc, .bool L.closed, .bool L.bad]
/-- Block g is the log L upon the disk d. -/
structure LogIn (w : World) (g d bs m : Nat) (L : Lg) (ha : Option Addr) (hc : Nat) (wa : Option Addr) (wc : Nat) : Prop where
  box : Blk w g (lgC d L ha hc wa wc) 194
  has : TxtsAt w ha L.has
  hcap : L.has.length ≤ hc
  hnil : ha = none → hc = 0
  wt : TxtsAt w wa L.wait
  wcap : L.wait.length ≤ wc
  wnil : wa = none → wc = 0
  og : ¬ dod d bs m g
  oh : ∀ y, ha = some y → ¬ dod d bs m y.block ∧ y.block ≠ g ∧ y.block < w.heap.size ∧ ∃ b o, y = ⟨b, o, none⟩
  ow : ∀ y, wa = some y → ¬ dod d bs m y.block ∧ y.block ≠ g ∧ y.block < w.heap.size ∧ ∃ b o, y = ⟨b, o, none⟩
def LogI (w : World) (g d bs m : Nat) (L : Lg) : Prop := ∃ ha hc wa wc, LogIn w g d bs m L ha hc wa wc
theorem LogI.kept {w w' : World} {g d bs m : Nat} {L : Lg} (h : LogI w g d bs m L) (k : Kept (dod d bs m) w w') : LogI w' g d bs m L := by
  obtain ⟨ha, hc, wa, wc, h⟩ := h
  exact ⟨ha, hc, wa, wc, ⟨h.box.kept k h.og, h.has.kept k (fun y hy => (h.oh y hy).1), h.hcap, h.hnil, h.wt.kept k (fun y hy => (h.ow y hy).1), h.wcap, h.wnil, h.og,
    fun y hy => ⟨(h.oh y hy).1, (h.oh y hy).2.1, Nat.lt_of_lt_of_le (h.oh y hy).2.2.1 k.size, (h.oh y hy).2.2.2⟩, fun y hy => ⟨(h.ow y hy).1, (h.ow y hy).2.1, Nat.lt_of_lt_of_le (h.ow y hy).2.2.1 k.size, (h.ow y hy).2.2.2⟩⟩⟩
theorem LogI.same {w w' : World} {g d bs m : Nat} {L : Lg} (h : LogI w g d bs m L) (k : Same w w') : LogI w' g d bs m L := h.kept (k.mono (fun _ _ q => q.elim))
theorem LogI.blk {w : World} {g d bs m : Nat} {L : Lg} (h : LogI w g d bs m L) : g < w.heap.size := by obtain ⟨_, _, _, _, h⟩ := h; exact h.box.lt
theorem wl_epoch {w : World} {g d bs m : Nat} {L : Lg} (h : LogI w g d bs m L) :
    Calls Tryz.prog 95 #[.pointer (some ⟨g, 0, none⟩)] w fun e w' => e = .returned (.int .i64 (L.epoch : Nat)) ∧ w' = w := by
  obtain ⟨ha, hc, wa, wc, h⟩ := h
  have p0 := cell_blk h.box
  simp only [lgC] at p0
  clear h
  go_enter Tryz.func95, Tryz.ntmps95
  go_wp2_with fail
  go_ret
  exact ⟨rfl, rfl⟩
end Go.Proofs.YtlkgdpdnhnakoaaGreatDoor
namespace Go.Proofs.YtlkgdpdnhnakoaaGreatDoor
open Go.RowKit Go.Sort
/-- What New, and Open, tell. -/
def NewPost (w : World) (d bs m : Nat) (E : Nat) (L : Lg) (r : Ending) (w' : World) : Prop :=
  (if E = 0 then ∃ g, r = .returned (.tuple #[.pointer (some ⟨g, 0, none⟩), .int .i64 0]) ∧ LogI w' g d bs m L ∧ w.heap.size ≤ g else r = .returned (.tuple #[.pointer none, .int .i64 (E : Nat)])) ∧ Same w w'
theorem newPost_err {w w' : World} {d bs m E : Nat} {L : Lg} (h : E ≠ 0) (k : Same w w') : NewPost w d bs m E L (.returned (.tuple #[.pointer none, .int .i64 (E : Nat)])) w' := ⟨by rw [if_neg h], k⟩
set_option maxRecDepth 100000 in
set_option maxHeartbeats 800000 in
theorem wl_new {w : World} {d bs cap m : Nat} {D : Dsk} (h : DiskIn w d bs cap m D) (f c e : Int) :
    Calls Tryz.prog 37 #[.pointer (some ⟨d, 0, none⟩), .int .i64 f, .int .i64 c, .int .i64 e] w (NewPost w d bs m (newE D f c e) (newL f c e)) := by
  have OF := Lib.hid (sd_off h)
  have SZ := Lib.hid (sd_size h)
  have few := h.ok.few
  have l1 := h.box.lt; have l2 := h.safe.lt; have l3 := h.map.lt
  clear h
  cases hoff : D.off
  · rw [hoff] at OF
    by_cases c1 : c < 0
    · have hE : newE D f c e = 2 := by unfold newE; rw [hoff]; simp; omega
      rw [hE]
      clear hE
      go_enter Tryz.func37, Tryz.ntmps37
      go_wp2_with fail
      with_reducible refine OF.out.mono ?_
      rintro r w1 ⟨rfl, rfl⟩
      go_wp2_with fail
      go_ret2
      exact newPost_err (by decide) (Kept.refl _ _)
    by_cases c2 : 256 < c
    · have hE : newE D f c e = 2 := by unfold newE; rw [hoff]; simp; omega
      rw [hE]
      clear hE
      go_enter Tryz.func37, Tryz.ntmps37
      go_wp2_with fail
      with_reducible refine OF.out.mono ?_
      rintro r w1 ⟨rfl, rfl⟩
      go_wp2_with fail
      go_ret2
      exact newPost_err (by decide) (Kept.refl _ _)
    by_cases c3 : f < 0
    · have hE : newE D f c e = 2 := by unfold newE; rw [hoff]; simp; omega
      rw [hE]
      clear hE
      go_enter Tryz.func37, Tryz.ntmps37
      go_wp2_with fail
      with_reducible refine OF.out.mono ?_
      rintro r w1 ⟨rfl, rfl⟩
      go_wp2_with fail
      go_ret2
      exact newPost_err (by decide) (Kept.refl _ _)
    by_cases c4 : (D.s.length : Int) - c < f
    · have hE : newE D f c e = 2 := by unfold newE; rw [hoff, if_neg (by decide), if_pos (by omega)]
      rw [hE]
      clear hE
      go_enter Tryz.func37, Tryz.ntmps37
      go_wp2_with fail
      with_reducible refine OF.out.mono ?_
      rintro r w1 ⟨rfl, rfl⟩
      go_wp2_with fail
      with_reducible refine SZ.out.mono ?_
      rintro r w2 ⟨rfl, rfl⟩
      go_wp2_with fail
      go_ret2
      exact newPost_err (by decide) (Kept.refl _ _)
    by_cases c5 : e < 1
    · have hE : newE D f c e = 9 := by unfold newE; rw [hoff, if_neg (by decide), if_neg (by omega), if_pos (by omega)]
      rw [hE]
      clear hE
      go_enter Tryz.func37, Tryz.ntmps37
      go_wp2_with fail
      with_reducible refine OF.out.mono ?_
      rintro r w1 ⟨rfl, rfl⟩
      go_wp2_with fail
      with_reducible refine SZ.out.mono ?_
      rintro r w2 ⟨rfl, rfl⟩
      go_wp2_with fail
      go_ret2
      exact newPost_err (by decide) (Kept.refl _ _)
    by_cases c6 : 1099511627776 < e
    · have hE : newE D f c e = 9 := by unfold newE; rw [hoff, if_neg (by decide), if_neg (by omega), if_pos (by omega)]
      rw [hE]
      clear hE
      go_enter Tryz.func37, Tryz.ntmps37
      go_wp2_with fail
      with_reducible refine OF.out.mono ?_
      rintro r w1 ⟨rfl, rfl⟩
      go_wp2_with fail
      with_reducible refine SZ.out.mono ?_
      rintro r w2 ⟨rfl, rfl⟩
      go_wp2_with fail
      go_ret2
      exact newPost_err (by decide) (Kept.refl _ _)
    have hE : newE D f c e = 0 := by unfold newE; rw [hoff, if_neg (by decide), if_neg (by omega), if_neg (by omega)]
    rw [hE]
    clear hE
    go_enter Tryz.func37, Tryz.ntmps37
    go_wp2_with fail
    with_reducible refine OF.out.mono ?_
    rintro r w1 ⟨rfl, rfl⟩
    go_wp2_with fail
    with_reducible refine SZ.out.mono ?_
    rintro r w2 ⟨rfl, rfl⟩
    go_wp2_with fail
    go_ret2
    refine ⟨?_, (Kept.refl _ _).alloc _⟩
    rw [if_pos rfl]
    refine ⟨w2.heap.size, rfl, ⟨none, 0, none, 0, ?_, .inl rfl, Nat.le_refl _, fun _ => rfl, .inl rfl, Nat.le_refl _, fun _ => rfl, ?_, fun y hy => (by cases hy), fun y hy => (by cases hy)⟩, Nat.le_refl _⟩
    · have e1 : ((f.toNat : Nat) : Int) = f := by omega
      have e2 : ((c.toNat : Nat) : Int) = c := by omega
      have e3 : ((e.toNat : Nat) : Int) = e := by omega
      unfold lgC newL
      simp only [e1, e2, e3]
      exact Blk.new _ _ _
    · rintro (q | q | q) <;> omega
  · rw [hoff] at OF
    have hE : newE D f c e = 8 := by unfold newE; rw [hoff]; rfl
    rw [hE]
    clear hE
    go_enter Tryz.func37, Tryz.ntmps37
    go_wp2_with fail
    with_reducible refine OF.out.mono ?_
    rintro r w1 ⟨rfl, rfl⟩
    go_wp2_with fail
    go_ret2
    exact newPost_err (by decide) (Kept.refl _ _)
end Go.Proofs.YtlkgdpdnhnakoaaGreatDoor
namespace Go.Proofs.YtlkgdpdnhnakoaaGreatDoor
open Go.RowKit Go.Sort
/-- A log whose slices lie in such blocks. -/
def LogP (w : World) (g d bs m : Nat) (L : Lg) (P : Nat → Prop) : Prop := ∃ ha hc wa wc, LogIn w g d bs m L ha hc wa wc ∧ (∀ y, ha = some y → P y.block) ∧ (∀ y, wa = some y → P y.block)
theorem LogP.i {w : World} {g d bs m : Nat} {L : Lg} {P : Nat → Prop} (h : LogP w g d bs m L P) : LogI w g d bs m L := by
  obtain ⟨ha, hc, wa, wc, h, _⟩ := h
  exact ⟨ha, hc, wa, wc, h⟩
theorem LogI.p {w : World} {g d bs m : Nat} {L : Lg} (h : LogI w g d bs m L) : LogP w g d bs m L (fun _ => True) := by
  obtain ⟨ha, hc, wa, wc, h⟩ := h
  exact ⟨ha, hc, wa, wc, h, fun _ _ => trivial, fun _ _ => trivial⟩
theorem LogP.mono {w : World} {g d bs m : Nat} {L : Lg} {P Q : Nat → Prop} (h : LogP w g d bs m L P) (hq : ∀ j, j < w.heap.size → P j → Q j) : LogP w g d bs m L Q := by
  obtain ⟨ha, hc, wa, wc, h, h1, h2⟩ := h
  exact ⟨ha, hc, wa, wc, h, fun y hy => hq _ (h.oh y hy).2.2.1 (h1 y hy), fun y hy => hq _ (h.ow y hy).2.2.1 (h2 y hy)⟩
theorem LogP.kept {fp : Nat → Prop} {w w' : World} {g d bs m : Nat} {L : Lg} {P : Nat → Prop} (h : LogP w g d bs m L P) (k : Kept fp w w') (hg : ¬ fp g) (hp : ∀ j, P j → ¬ fp j) : LogP w' g d bs m L P := by
  obtain ⟨ha, hc, wa, wc, h, h1, h2⟩ := h
  exact ⟨ha, hc, wa, wc, ⟨h.box.kept k hg, h.has.kept k (fun y hy => hp _ (h1 y hy)), h.hcap, h.hnil, h.wt.kept k (fun y hy => hp _ (h2 y hy)), h.wcap, h.wnil, h.og,
    fun y hy => ⟨(h.oh y hy).1, (h.oh y hy).2.1, Nat.lt_of_lt_of_le (h.oh y hy).2.2.1 k.size, (h.oh y hy).2.2.2⟩, fun y hy => ⟨(h.ow y hy).1, (h.ow y hy).2.1, Nat.lt_of_lt_of_le (h.ow y hy).2.2.1 k.size, (h.ow y hy).2.2.2⟩⟩, h1, h2⟩
theorem LogP.same {w w' : World} {g d bs m : Nat} {L : Lg} {P : Nat → Prop} (h : LogP w g d bs m L P) (k : Same w w') : LogP w' g d bs m L P := h.kept k (fun h => h) (fun _ _ h => h)
section
attribute [local go_sem ↓] exec_app semAt_app
attribute [local go_sem] isApp_lit appA appX
theorem Blk.set9 {w : World} {b : Nat} {v0 v1 v2 v3 v4 v5 v6 v7 v8 u0 u1 u2 u3 u4 u5 u6 u7 u8 : Value} {t : TypeId} (h : Blk w b #[v0, v1, v2, v3, v4, v5, v6, v7, v8] t) :
    Blk (((((((((w.setCell ⟨b, 0, none⟩ u0).setCell ⟨b, 1, none⟩ u1).setCell ⟨b, 2, none⟩ u2).setCell ⟨b, 3, none⟩ u3).setCell ⟨b, 4, none⟩ u4).setCell ⟨b, 5, none⟩ u5).setCell ⟨b, 6, none⟩ u6).setCell ⟨b, 7, none⟩ u7).setCell ⟨b, 8, none⟩ u8) b #[u0, u1, u2, u3, u4, u5, u6, u7, u8] t := by
  have h0 : Blk _ b #[u0, v1, v2, v3, v4, v5, v6, v7, v8] t := h.set 0 u0
  have h1 : Blk _ b #[u0, u1, v2, v3, v4, v5, v6, v7, v8] t := h0.set 1 u1
  have h2 : Blk _ b #[u0, u1, u2, v3, v4, v5, v6, v7, v8] t := h1.set 2 u2
  have h3 : Blk _ b #[u0, u1, u2, u3, v4, v5, v6, v7, v8] t := h2.set 3 u3
  have h4 : Blk _ b #[u0, u1, u2, u3, u4, v5, v6, v7, v8] t := h3.set 4 u4
  have h5 : Blk _ b #[u0, u1, u2, u3, u4, u5, v6, v7, v8] t := h4.set 5 u5
  have h6 : Blk _ b #[u0, u1, u2, u3, u4, u5, u6, v7, v8] t := h5.set 6 u6
  have h7 : Blk _ b #[u0, u1, u2, u3, u4, u5, u6, u7, v8] t := h6.set 7 u7
  have h8 : Blk _ b #[u0, u1, u2, u3, u4, u5, u6, u7, u8] t := h7.set 8 u8
  exact h8
set_option maxRecDepth 100000 in
set_option maxHeartbeats 800000 in
theorem wl_restartP {w : World} {g d bs m : Nat} {L : Lg} {P : Nat → Prop} (h : LogP w g d bs m L P) (e : Int) :
    Calls Tryz.prog 98 #[.pointer (some ⟨g, 0, none⟩), .int .i64 e] w fun r w' => r = .returned (.int .i64 (restartE L e : Nat)) ∧ LogP w' g d bs m (restartL L e) P ∧ Kept (fun j => j = g) w w' := by
  have HI := Lib.hid h
  obtain ⟨ha, hc, wa, wc, hin, -, -⟩ := h
  have IN := Lib.hid hin
  have p0 := cell_blk hin.box
  have f0 := fun i => hin.box.free i
  have z0 := hin.box.lt
  simp only [lgC] at p0
  clear hin
  cases hb : L.bad
  · rw [hb] at p0
    by_cases h1 : e ≤ (L.epoch : Int)
    · have e1 : restartE L e = 12 := by unfold restartE; rw [hb, if_neg (by decide), if_pos h1]
      have e2 : restartL L e = L := by unfold restartL; rw [e1]; rfl
      rw [e1, e2]
      clear e1 e2
      go_enter Tryz.func98, Tryz.ntmps98
      go_wp2_with fail
      go_ret
      exact ⟨rfl, HI.out, Kept.refl _ _⟩
    by_cases h2 : 1099511627776 < e
    · have e1 : restartE L e = 9 := by unfold restartE; rw [hb, if_neg (by decide), if_neg h1, if_pos h2]
      have e2 : restartL L e = L := by unfold restartL; rw [e1]; rfl
      rw [e1, e2]
      clear e1 e2
      go_enter Tryz.func98, Tryz.ntmps98
      go_wp2_with fail
      go_ret
      exact ⟨rfl, HI.out, Kept.refl _ _⟩
    have e1 : restartE L e = 0 := by unfold restartE; rw [hb, if_neg (by decide), if_neg h1, if_neg h2]
    have e2 : restartL L e = ⟨L.first, L.count, e.toNat, 0, [], [], false, false⟩ := by unfold restartL; rw [if_pos e1]
    rw [e1, e2]
    have e3 : Hid (((e.toNat : Nat) : Int) = e) := by show _ = _; omega
    clear e1 e2
    go_enter Tryz.func98, Tryz.ntmps98
    go_wp2_with fail
    go_ret
    refine ⟨rfl, ⟨none, 0, none, 0, ⟨?_, .inl rfl, Nat.le_refl _, fun _ => rfl, .inl rfl, Nat.le_refl _, fun _ => rfl, IN.out.og, fun y hy => (by cases hy), fun y hy => (by cases hy)⟩, fun y hy => (by cases hy), fun y hy => (by cases hy)⟩, ?_⟩
    · have b0 := IN.out.box
      unfold lgC at b0 ⊢
      simp only [e3.out, List.length_nil, Int.natCast_zero]
      with_reducible exact Blk.set9 b0
    · repeat (first | with_reducible exact Kept.refl _ _ | with_reducible refine Kept.setG ?_ _ _)
  · rw [hb] at p0
    have e1 : restartE L e = 11 := by unfold restartE; rw [hb, if_pos rfl]
    have e2 : restartL L e = L := by unfold restartL; rw [e1]; rfl
    rw [e1, e2]
    clear e1 e2
    go_enter Tryz.func98, Tryz.ntmps98
    go_wp2_with fail
    go_ret
    exact ⟨rfl, HI.out, Kept.refl _ _⟩
theorem wl_restart {w : World} {g d bs m : Nat} {L : Lg} (h : LogI w g d bs m L) (e : Int) :
    Calls Tryz.prog 98 #[.pointer (some ⟨g, 0, none⟩), .int .i64 e] w fun r w' => r = .returned (.int .i64 (restartE L e : Nat)) ∧ LogI w' g d bs m (restartL L e) ∧ Kept (fun j => j = g) w w' :=
  (wl_restartP h.p e).mono (by rintro e w' ⟨h1, h2, h3⟩; exact ⟨h1, h2.i, h3⟩)
end
end Go.Proofs.YtlkgdpdnhnakoaaGreatDoor
