/- TrN: tree.New by the kernel, and what is then in memory; a node without anything, and a head, as bytes. -/
import Derived.Test.YtlkgdpdnhnakoaaGreatDoorGEb
import Derived.Test.YtlkgdpdnhnakoaaGreatDoorMapI
namespace Go.Proofs.YtlkgdpdnhnakoaaGreatDoor
open Go.RowKit
/-- A tree of one leaf, fresh, as it lies: in block t, its root's link in l, the leaf in m, what is kept in mind in i. -/
structure TrIn (w : World) (s t t' l l' m m' i i' c : Nat) (r id : Int) (dirty : Bool) : Prop where
  t0 : w.cell? ⟨t, t', none⟩ = some (.pointer (some ⟨s, 0, none⟩))
  t1 : w.cell? ⟨t, t' + 1, none⟩ = some (.pointer (some ⟨l, l', none⟩))
  t2 : w.cell? ⟨t, t' + 2, none⟩ = some (.int .i64 r)
  t3 : w.cell? ⟨t, t' + 3, none⟩ = some (.slice (some ⟨i, i', none⟩) 1 c)
  t6 : w.cell? ⟨t, t' + 6, none⟩ = some (.bool false)
  l0 : w.cell? ⟨l, l', none⟩ = some (.int .i64 id)
  l1 : w.cell? ⟨l, l' + 1, none⟩ = some (.pointer (some ⟨m, m', none⟩))
  m0 : w.cell? ⟨m, m', none⟩ = some (.int .i64 0)
  m1 : w.cell? ⟨m, m' + 1, none⟩ = some (.slice none 0 0)
  m2 : w.cell? ⟨m, m' + 2, none⟩ = some (.slice none 0 0)
  m3 : w.cell? ⟨m, m' + 3, none⟩ = some (.slice none 0 0)
  m4 : w.cell? ⟨m, m' + 4, none⟩ = some (.slice none 0 0)
  m5 : w.cell? ⟨m, m' + 5, none⟩ = some (.slice none 0 0)
  m6 : w.cell? ⟨m, m' + 6, none⟩ = some (.bool dirty)
  i0 : w.cell? ⟨i, i', none⟩ = some (.int .i64 1)
  i1 : w.cell? ⟨i, i' + 1, none⟩ = some (.int .i64 0)
  i2 : w.cell? ⟨i, i' + 2, none⟩ = some (.bool false)
  fl : w.frozen? ⟨l, l', none⟩ = false
  fm : w.frozen? ⟨m, m' + 6, none⟩ = false
  tl : t ≠ l
  tm : t ≠ m
  lm : l ≠ m
  il : i ≠ l
  im : i ≠ m
theorem blk_lt {w : World} {b o : Nat} {v : Value} (h : w.cell? ⟨b, o, none⟩ = some v) : b < w.heap.size := World.block_lt_of_cell? w ⟨b, o, none⟩ h
theorem TrIn.kept {fp : Nat → Prop} {w w' : World} {s t t' l l' m m' i i' c : Nat} {r id : Int} {dirty : Bool} (h : TrIn w s t t' l l' m m' i i' c r id dirty) (k : Kept fp w w') (ht : ¬ fp t) (hl : ¬ fp l) (hm : ¬ fp m) (hi : ¬ fp i) : TrIn w' s t t' l l' m m' i i' c r id dirty := by
  have T : ∀ o v, w.cell? ⟨t, o, none⟩ = some v → w'.cell? ⟨t, o, none⟩ = some v := fun o v q => (k.cell (p := ⟨t, o, none⟩) (blk_lt q) ht).trans q
  have L : ∀ o v, w.cell? ⟨l, o, none⟩ = some v → w'.cell? ⟨l, o, none⟩ = some v := fun o v q => (k.cell (p := ⟨l, o, none⟩) (blk_lt q) hl).trans q
  have M : ∀ o v, w.cell? ⟨m, o, none⟩ = some v → w'.cell? ⟨m, o, none⟩ = some v := fun o v q => (k.cell (p := ⟨m, o, none⟩) (blk_lt q) hm).trans q
  have I : ∀ o v, w.cell? ⟨i, o, none⟩ = some v → w'.cell? ⟨i, o, none⟩ = some v := fun o v q => (k.cell (p := ⟨i, o, none⟩) (blk_lt q) hi).trans q
  exact ⟨T _ _ h.t0, T _ _ h.t1, T _ _ h.t2, T _ _ h.t3, T _ _ h.t6, L _ _ h.l0, L _ _ h.l1, M _ _ h.m0, M _ _ h.m1, M _ _ h.m2, M _ _ h.m3, M _ _ h.m4, M _ _ h.m5, M _ _ h.m6, I _ _ h.i0, I _ _ h.i1, I _ _ h.i2,
    (k.frozen (p := ⟨l, l', none⟩) (blk_lt h.l0) hl).trans h.fl, (k.frozen (p := ⟨m, m' + 6, none⟩) (blk_lt h.m0) hm).trans h.fm, h.tl, h.tm, h.lm, h.il, h.im⟩
theorem TrIn.same {w w' : World} {s t t' l l' m m' i i' c : Nat} {r id : Int} {dirty : Bool} (h : TrIn w s t t' l l' m m' i i' c r id dirty) (k : Same w w') : TrIn w' s t t' l l' m m' i i' c r id dirty := h.kept k (fun h => h) (fun h => h) (fun h => h) (fun h => h)
namespace Ev
/-- What lies in an object's cells. -/
theorem cellOf {E : Xs Xo} {G : Nat} {V : Vn} {h : Hp Xo} {w : World} (s : Sim E G V h w) {b : Nat} {t : T Ce} {n : Nat} {e : Option Nat} (g : h.t.get b = some (.cells t n e)) {p : Pl} (hp : V b = some p) {i : Nat} {x : Ce} (hi : i < n) (gx : t.get i = some x) :
    ∃ v, w.cell? ⟨p.bl, p.of + i, none⟩ = some v ∧ x.rel V v ∧ w.frozen? ⟨p.bl, p.of + i, none⟩ = false := by
  obtain ⟨p', e1, c, ty, fz, a1, a2, a3, a4, a5⟩ := s.ob _ _ g
  rw [hp] at e1; cases e1
  obtain ⟨v, v1, v2⟩ := a3 i x hi gx
  refine ⟨v, by rw [cell_at a1]; exact v1, v2, ?_⟩
  have : p.of + i < c.size := by omega
  simp only [World.frozen?, a1]
  rcases a2 with a2 | a2 <;> simp [a2] <;> omega
/-- A run's start: so many values that are not known, and one pointer to a block. -/
noncomputable def h1 (k : Nat) : Hp Xo := ⟨(h0 numG tabG k).t, Nat.succ (Nat.add numG k)⟩
theorem ext_name {E : Xs Xo} {G : Nat} {V : Vn} {h : Hp Xo} {w : World} (s : Sim E G V h w) (p : Pl) : Ext E V h w (named V h.next p) ⟨h.t, h.next + 1⟩ w :=
  ⟨named_le (s.new _ (Nat.le_refl _)), Nat.le_refl _, Nat.le_succ _, fun _ _ hn => ⟨rfl, fun l => hn (l.name s)⟩, fun _ hb => named_ne (Nat.ne_of_lt hb), ⟨rfl, rfl, rfl⟩⟩
/-- Blocks of a heap that was not there at the start are new. -/
theorem new_blk {k : Nat} {vals : Nat → Nat × Nat} {ob : Obj} {V : Vn} {h : Hp Xo} {w w' : World} (s : Sim (varX tabG ob vals []) numG V h w') (x : Ext (varX tabG ob vals []) (V0 numG k vals) (h0 numG tabG k) w V h w') (hx : h.t.get tabG = some (.x .tab)) {b : Nat} {o : Ob Xo} {p : Pl} (hb : b ≠ tabG) (g : h.t.get b = some o) (hp : V b = some p) (hf : p.bl ∈ foot (varX tabG ob vals []) o p) : w.heap.size ≤ p.bl := by
  refine Nat.le_of_not_lt fun hlt => ?_
  obtain ⟨p0, e0, qo, qk⟩ := s.ob _ _ hx
  have hne : p.bl ≠ tabG := fun e => hb (s.apart b o p tabG _ p0 p.bl g hx hp e0 hf (List.mem_cons.2 (.inl (e.trans qo.symm))))
  refine (x.keep p.bl hlt ?_).2 ⟨b, o, p, g, hp, hf⟩
  rintro ⟨b', o', p', g1, g2, g3⟩
  rcases h0_at g1 with ⟨i, q1, rfl, rfl⟩ | ⟨rfl, rfl⟩
  · cases g3
  · rw [V0_glob (by decide +kernel)] at g2
    cases g2
    rcases List.mem_cons.1 g3 with g3 | g3
    · exact hne g3
    · cases g3
/-- A run from the start, with so many unknown values and one pointer; what is written out of what is then there. -/
theorem runL {n k n' : Nat} {f : FuncId} {args : List AV} {l : List Fq} {lens : List (Nat × Nat)} {mn mx : List Fm} {ent : List EnyF} {z : AV} {L : List (Nat × Lt)} (hq : ltRun z L n' ((clO (tabOf Tryz.prog) numG (ixF (factQ l) (biQ lens mn mx)) (iyV ent) izP (nat_lit 100000) n).call f args (h1 k)) = true)
    {vals : Nat → Nat × Nat} (hl : ∀ f ∈ l, f.Ok vals) (hs : ∀ q ∈ lens, LenOk vals q) (hn : ∀ f ∈ mn, MinOk vals f) (hm : ∀ f ∈ mx, MaxOk vals f) (he : ∀ e ∈ ent, YOkV vals e.f e.g) (w : World) (hT : TabOK w) (s : Nat) {xs : List Value} (hr : All2 (AV.rel (named (V0 numG k vals) (numG + k) ⟨s, 0, 0, 0, 0⟩)) args xs) :
    Calls Tryz.prog f xs.toArray w fun e w' => ∃ u V ob, e = .returned u ∧ z.rel V u ∧ Same w w' ∧ Sim (varX tabG ob vals []) numG V (litH L n') w' ∧ (∀ b, b < numG + k → V b = V0 numG k vals b) ∧ V (numG + k) = some ⟨s, 0, 0, 0, 0⟩ ∧
      ∀ b o p, b ≠ tabG → (litH L n').t.get b = some o → V b = some p → p.bl ∈ foot (varX tabG ob vals []) o p → w.heap.size ≤ p.bl := by
  obtain ⟨ob, hob⟩ : ∃ ob, w.heap[tabG]? = some ob := by
    have := hT 0 (by decide)
    unfold World.cell? at this
    cases h : w.heap[tabG]? with
    | none => rw [show w.heap[(⟨1, 0, none⟩ : Addr).block]? = w.heap[tabG]? from rfl, h] at this; cases this
    | some o => exact ⟨o, rfl⟩
  have hT' : ∀ w' : World, w'.heap[tabG]? = some ob → TabOK w' := fun w' hw' i hi => by
    have := hT i hi
    rw [← this]
    simp only [World.cell?, show w'.heap[1]? = w.heap[1]? from hw'.trans hob.symm]
  unfold ltRun at hq
  split at hq
  case h_2 => cases hq
  rename_i y h hq'
  split at hq
  case h_2 => cases hq
  rename_i a1 a2 a3
  have a1 := of_decide_eq_true a1
  subst a1
  have hA := tab_ok noGo
  have hI := ixF_ok (factQ_ok (ob := ob) (ks := []) hl) (biQ_ok (ob := ob) (ks := []) hs hn hm)
  have s0 := sim0 (G := numG) (g := tabG) (k := k) (vals := vals) (ks := []) (by decide +kernel) hob (by simp)
  have s1 : Sim (varX tabG ob vals []) numG (named (V0 numG k vals) (numG + k) ⟨s, 0, 0, 0, 0⟩) (h1 k) w := s0.name ⟨s, 0, 0, 0, 0⟩
  have x1 : Ext (varX tabG ob vals []) (V0 numG k vals) (h0 numG tabG k) w (named (V0 numG k vals) (numG + k) ⟨s, 0, 0, 0, 0⟩) (h1 k) w := ext_name s0 ⟨s, 0, 0, 0, 0⟩
  have ok := clO_ok (N := nat_lit 100000) hA hI (iyV_ok hT' he) izP_ok (fun C hC => drawO_ok hA hI hC (by kernel_rfl)) n
  refine (ok.call hq' s1 hr).mono ?_
  rintro e w' ⟨u, rfl, V, hz, s', x'⟩
  obtain ⟨s2, x2⟩ := litSim s' a3 (Nat.le_of_ble_eq_true a2)
  have hx := (subH_at a3).1
  have x3 := x1.trans x'
  refine ⟨u, V, ob, rfl, hz, same0 (by decide +kernel) hob (by simp) s' x3 hx, s2, fun b hb => (x3.old b hb), ?_, ?_⟩
  · have := x'.old (numG + k) (show numG + k < numG + k + 1 by omega)
    rw [this]; exact named_self _ _ _
  · intro b o p hb g hp hf
    obtain ⟨o', g', q⟩ : ∃ o', h.t.get b = some o' ∧ foot (varX tabG ob vals []) o p = foot (varX tabG ob vals []) o' p := by
      rcases litT_at g with ⟨x, m1, rfl⟩ | ⟨rfl, rfl⟩
      · have h2 := (subH_at a3).2 _ m1
        cases hb' : h.t.get b with
        | none =>
          rw [show h.t.get (b, x).1 = none from hb'] at h2
          unfold subO at h2
          split at h2 <;> first | cases h2 | (rename_i e; cases e)
        | some o' =>
          rw [show h.t.get (b, x).1 = some o' from hb'] at h2
          obtain ⟨p', q1, q2⟩ := s'.ob b o' hb'
          rw [hp] at q1; cases q1
          exact ⟨o', rfl, (subO_ok h2 q2).2⟩
      · exact absurd rfl hb
    exact new_blk s' x3 hx hb g' hp (q ▸ hf)
/-! ### The runs -/
noncomputable def lTree : List (Nat × Lt) := [(72, .cells [(0, [.P (some (65, 0)), .P (some (74, 0)), .X 64, .L (some (86, 0)) 1 (.e 0), .M (some 71), .I .i64 1, .B false])] 7 none), (74, .cells [(0, [.I .i64 (-1), .P (some (73, 0))])] 2 none),
  (73, .cells [(0, [.I .i64 0, .L none 0 (.k 0), .L none 0 (.k 0), .L none 0 (.k 0), .L none 0 (.k 0), .L none 0 (.k 0), .B true, .I .i64 1])] 8 none), (86, .cells [(0, [.I .i64 1, .I .i64 0, .B false])] 3 (some 3))]
def fTree : List Fq := [⟨.lss, .i64, true, 0, 1, .B false⟩, ⟨.gtr, .i64, true, 0, 4096, .B false⟩]
def aTree : List AV := [.V (.C (.P (some (65, 0)))), .V (.C (.X 64))]
theorem tree_ran : ltRun (.U [.C (.P (some (72, 0))), .C (.I .i64 0)]) lTree (nat_lit 200) ((clO (tabOf Tryz.prog) numG (ixF (factQ fTree) (biQ [] [] [])) (iyV []) izP (nat_lit 100000) (nat_lit 300)).call 35 aTree (h1 (nat_lit 1))) = true := by kernel_rfl
theorem lo_ran : ltRun (.U [.C (.P none), .C (.I .i64 2)]) [] (nat_lit 200) ((clO (tabOf Tryz.prog) numG (ixF (factQ [⟨.lss, .i64, true, 0, 1, .B true⟩]) (biQ [] [] [])) (iyV []) izP (nat_lit 100000) (nat_lit 300)).call 35 aTree (h1 (nat_lit 1))) = true := by kernel_rfl
theorem hi_ran : ltRun (.U [.C (.P none), .C (.I .i64 2)]) [] (nat_lit 200) ((clO (tabOf Tryz.prog) numG (ixF (factQ [⟨.lss, .i64, true, 0, 1, .B false⟩, ⟨.gtr, .i64, true, 0, 4096, .B true⟩]) (biQ [] [] [])) (iyV []) izP (nat_lit 100000) (nat_lit 300)).call 35 aTree (h1 (nat_lit 1))) = true := by kernel_rfl
theorem valsR {r : Int} : numAt (fun _ => (0, znum r)) 0 .i64 r := num_of rfl
theorem argsR (r : Int) (s : Nat) : All2 (AV.rel (named (V0 numG 1 (fun _ => (0, znum r))) (numG + 1) ⟨s, 0, 0, 0, 0⟩)) aTree [.pointer (some ⟨s, 0, none⟩), .int .i64 r] := by
  refine ⟨⟨_, ⟨_, named_self _ _ _, rfl⟩, rfl⟩, ⟨⟨0, 0, 0, 0, znum r⟩, ?_, (sym_int r).symm⟩, trivial⟩
  rw [named_ne (by decide +kernel)]
  exact V0_sym (k := 1) (i := 0) (by decide)
end Ev
open Ev in
/-- A tree without a room that may be. -/
theorem tree_bad (s : Nat) (r : Int) (hr : r < 1 ∨ 4096 < r) (w : World) (hT : TabOK w) :
    Calls Tryz.prog 35 #[.pointer (some ⟨s, 0, none⟩), .int .i64 r] w fun e w' => e = .returned (.tuple #[.pointer none, .int .i64 2]) ∧ Same w w' := by
  have fin : ∀ {u : Value} {V : Vn}, (AV.U [.C (.P none), .C (.I .i64 2)]).rel V u → u = .tuple #[.pointer none, .int .i64 2] := by
    rintro u V ⟨vs, q, rfl⟩
    match vs, q with
    | [a, b], ⟨h1, h2, _⟩ =>
      have h1 : a = .pointer none := h1
      have h2 : b = .int .i64 2 := h2
      rw [h1, h2]
  by_cases h : r < 1
  · refine (runL (k := 1) lo_ran (vals := fun _ => (0, znum r)) (fun f hf => ?_) (fun _ h => by cases h) (fun _ h => by cases h) (fun _ h => by cases h) (fun _ h => by cases h) w hT s (argsR r s)).mono ?_
    · rcases List.mem_cons.1 hf with rfl | hf
      · exact fq_lss valsR (by simpa using h)
      · cases hf
    · rintro e w' ⟨u, V, ob, rfl, hz, k, _⟩
      exact ⟨by rw [fin hz], k⟩
  · refine (runL (k := 1) hi_ran (vals := fun _ => (0, znum r)) (fun f hf => ?_) (fun _ h => by cases h) (fun _ h => by cases h) (fun _ h => by cases h) (fun _ h => by cases h) w hT s (argsR r s)).mono ?_
    · rcases List.mem_cons.1 hf with rfl | hf
      · exact fq_lss valsR (by simpa using h)
      rcases List.mem_cons.1 hf with rfl | hf
      · exact fq_gtr valsR (by simp; omega)
      · cases hf
    · rintro e w' ⟨u, V, ob, rfl, hz, k, _⟩
      exact ⟨by rw [fin hz], k⟩
open Ev in
set_option maxRecDepth 100000 in
/-- A fresh tree. -/
theorem tree_new (s : Nat) (r : Int) (h1 : 1 ≤ r) (h2 : r ≤ 4096) (w : World) (hT : TabOK w) :
    Calls Tryz.prog 35 #[.pointer (some ⟨s, 0, none⟩), .int .i64 r] w fun e w' => ∃ t t' l l' m m' i i' c, e = .returned (.tuple #[.pointer (some ⟨t, t', none⟩), .int .i64 0]) ∧ TrIn w' s t t' l l' m m' i i' c r (-1) true ∧ Same w w' ∧ w.heap.size ≤ t ∧ w.heap.size ≤ l ∧ w.heap.size ≤ m ∧ w.heap.size ≤ i := by
  refine (runL (k := 1) tree_ran (vals := fun _ => (0, znum r)) (fun f hf => ?_) (fun _ h => by cases h) (fun _ h => by cases h) (fun _ h => by cases h) (fun _ h => by cases h) w hT s (argsR r s)).mono ?_
  · rcases List.mem_cons.1 hf with rfl | hf
    · exact fq_lss valsR (by simpa using h1)
    rcases List.mem_cons.1 hf with rfl | hf
    · exact fq_gtr valsR (by simpa using h2)
    · cases hf
  rintro e w' ⟨u, V, ob, rfl, hz, k, S, hV, hs, hnew⟩
  have gT : (litH lTree (nat_lit 200)).t.get 72 = some (.cells (rowsT [(0, [.P (some (65, 0)), .P (some (74, 0)), .X 64, .L (some (86, 0)) 1 (.e 0), .M (some 71), .I .i64 1, .B false])]) 7 none) := by kernel_rfl
  have gL : (litH lTree (nat_lit 200)).t.get 74 = some (.cells (rowsT [(0, [.I .i64 (-1), .P (some (73, 0))])]) 2 none) := by kernel_rfl
  have gM : (litH lTree (nat_lit 200)).t.get 73 = some (.cells (rowsT [(0, [.I .i64 0, .L none 0 (.k 0), .L none 0 (.k 0), .L none 0 (.k 0), .L none 0 (.k 0), .L none 0 (.k 0), .B true, .I .i64 1])]) 8 none) := by kernel_rfl
  have gI : (litH lTree (nat_lit 200)).t.get 86 = some (.cells (rowsT [(0, [.I .i64 1, .I .i64 0, .B false])]) 3 (some 3)) := by kernel_rfl
  obtain ⟨pT, eT, -⟩ := S.ob _ _ gT
  obtain ⟨pL, eL, -⟩ := S.ob _ _ gL
  obtain ⟨pM, eM, -⟩ := S.ob _ _ gM
  obtain ⟨pI, eI, -⟩ := S.ob _ _ gI
  have mem1 : ∀ (p : Pl) (t : T Ce) (n : Nat) (e : Option Nat), p.bl ∈ foot (varX tabG ob (fun _ => (0, znum r)) []) (.cells t n e) p := fun p t n e => List.mem_singleton.2 rfl
  have ne : ∀ {a b : Nat} {t u : T Ce} {n m : Nat} {e f : Option Nat} {p q : Pl}, (litH lTree (nat_lit 200)).t.get a = some (.cells t n e) → (litH lTree (nat_lit 200)).t.get b = some (.cells u m f) → V a = some p → V b = some q → a ≠ b → p.bl ≠ q.bl :=
    fun ga gb ea eb hab hpq => hab (S.apart _ _ _ _ _ _ _ ga gb ea eb (mem1 _ _ _ _) (hpq ▸ mem1 _ _ _ _))
  obtain ⟨vs, hvs, rfl⟩ := hz
  match vs, hvs with
  | [a, b], ⟨⟨x, ⟨p', q1, q2⟩, q3⟩, h2', _⟩ =>
  rw [eT] at q1
  cases q1
  subst q2 q3
  have h2' : b = .int .i64 0 := h2'
  subst h2'
  obtain ⟨v, T0, ⟨x0, ⟨p0, b1, rfl⟩, rfl⟩, -⟩ := cellOf S gT eT (i := 0) (by decide) (x := .P (some (65, 0))) (by kernel_rfl)
  rw [show V 65 = some ⟨s, 0, 0, 0, 0⟩ from hs] at b1; cases b1
  obtain ⟨v, T1, ⟨x0, ⟨p0, b1, rfl⟩, rfl⟩, -⟩ := cellOf S gT eT (i := 1) (by decide) (x := .P (some (74, 0))) (by kernel_rfl)
  rw [eL] at b1; cases b1
  obtain ⟨v, T2, ⟨p0, b1, rfl⟩, -⟩ := cellOf S gT eT (i := 2) (by decide) (x := .X 64) (by kernel_rfl)
  rw [hV 64 (by decide +kernel), show V0 numG 1 (fun _ => (0, znum r)) 64 = some ⟨0, 0, 0, 0, znum r⟩ from V0_sym (k := 1) (i := 0) (by decide)] at b1; cases b1
  obtain ⟨v, T3, ⟨p0, b1, -, rfl⟩, -⟩ := cellOf S gT eT (i := 3) (by decide) (x := .L (some (86, 0)) 1 (.e 0)) (by kernel_rfl)
  rw [eI] at b1; cases b1
  obtain ⟨v, T6, rfl, -⟩ := cellOf S gT eT (i := 6) (by decide) (x := .B false) (by kernel_rfl)
  obtain ⟨v, L0, rfl, fL⟩ := cellOf S gL eL (i := 0) (by decide) (x := .I .i64 (-1)) (by kernel_rfl)
  obtain ⟨v, L1, ⟨x0, ⟨p0, b1, rfl⟩, rfl⟩, -⟩ := cellOf S gL eL (i := 1) (by decide) (x := .P (some (73, 0))) (by kernel_rfl)
  rw [eM] at b1; cases b1
  obtain ⟨v, M0, rfl, -⟩ := cellOf S gM eM (i := 0) (by decide) (x := .I .i64 0) (by kernel_rfl)
  obtain ⟨v, M1, rfl, -⟩ := cellOf S gM eM (i := 1) (by decide) (x := .L none 0 (.k 0)) (by kernel_rfl)
  obtain ⟨v, M2, rfl, -⟩ := cellOf S gM eM (i := 2) (by decide) (x := .L none 0 (.k 0)) (by kernel_rfl)
  obtain ⟨v, M3, rfl, -⟩ := cellOf S gM eM (i := 3) (by decide) (x := .L none 0 (.k 0)) (by kernel_rfl)
  obtain ⟨v, M4, rfl, -⟩ := cellOf S gM eM (i := 4) (by decide) (x := .L none 0 (.k 0)) (by kernel_rfl)
  obtain ⟨v, M5, rfl, -⟩ := cellOf S gM eM (i := 5) (by decide) (x := .L none 0 (.k 0)) (by kernel_rfl)
  obtain ⟨v, M6, rfl, fM⟩ := cellOf S gM eM (i := 6) (by decide) (x := .B true) (by kernel_rfl)
  obtain ⟨v, I0, rfl, -⟩ := cellOf S gI eI (i := 0) (by decide) (x := .I .i64 1) (by kernel_rfl)
  obtain ⟨v, I1, rfl, -⟩ := cellOf S gI eI (i := 1) (by decide) (x := .I .i64 0) (by kernel_rfl)
  obtain ⟨v, I2, rfl, -⟩ := cellOf S gI eI (i := 2) (by decide) (x := .B false) (by kernel_rfl)
  rw [sym_int] at T2
  simp only [Nat.add_zero] at T0 T1 T3 L0 L1 fL M0 I0
  refine ⟨pT.bl, pT.of, pL.bl, pL.of, pM.bl, pM.of, pI.bl, pI.of, pI.cp - 0, rfl, ⟨T0, T1, T2, T3, T6, L0, L1, M0, M1, M2, M3, M4, M5, M6, I0, I1, I2, fL, fM, ne gT gL eT eL (by decide), ne gT gM eT eM (by decide), ne gL gM eL eM (by decide), ne gI gL eI eL (by decide), ne gI gM eI eM (by decide)⟩, k,
    hnew 72 _ _ (by decide +kernel) gT eT (mem1 _ _ _ _), hnew 74 _ _ (by decide +kernel) gL eL (mem1 _ _ _ _), hnew 73 _ _ (by decide +kernel) gM eM (mem1 _ _ _ _), hnew 86 _ _ (by decide +kernel) gI eI (mem1 _ _ _ _)⟩
end Go.Proofs.YtlkgdpdnhnakoaaGreatDoor
