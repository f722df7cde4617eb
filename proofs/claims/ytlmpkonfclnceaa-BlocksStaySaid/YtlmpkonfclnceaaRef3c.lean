/- The document's disk: with. -/
import Derived.Test.YtlmpkonfclnceaaRef3b
namespace Go.Proofs.Ytlmpkonfclnceaa
open Go.RowKit

/-- A slice of sectors that a call made. -/
def OwnS (w : World) (base : Nat) (v : Value) (s : List Sec) : Prop := w.ownsRow base 107 3 v s.length (cells3 s)
def zsec : Value := .agg #[.string ByteArray.empty, .string ByteArray.empty, .bool false]
theorem info_sec : (Try.prog.info? 107).map (fun i => (i.zero, i.size, i.bytes)) = some (some zsec, 3, 40) := by kernel_rfl
theorem cells3_append (s t : List Sec) : cells3 (s ++ t) = cells3 s ++ cells3 t := by unfold cells3; rw [List.flatMap_append]
theorem app_secs (w : World) (base : Nat) (v : Value) (s : List Sec) (hown : OwnS w base v s) (ao : Option Addr) (m c : Nat) (ys : List Sec) (hm : m = ys.length) (hat : SecsAt w ao ys) (hnil : ao = none → c = 0)
    (hlen : s.length + ys.length ≤ 100000) (hbase : base ≤ w.heap.size) :
    ∃ v' w', (Builtin.append_ #[41, 41] 41 #[v, .slice ao m c]).run Try.prog w = .ok v' w' ∧ OwnS w' base v' (s ++ ys) ∧ w.grownBy w' v.ownBlock := by
  obtain ⟨i, hi, e⟩ := Option.map_eq_some_iff.1 info_sec
  simp only [Prod.mk.injEq] at e
  obtain ⟨hz, hsz, hby⟩ := e
  subst hm
  cases ao with
  | none =>
    obtain rfl := hnil rfl
    have : ys = [] := by rcases hat with h | ⟨_, _, h, _⟩; exact h; cases h
    subst this
    refine ⟨v, w, run_append_owned_none (P := Try.prog) (w := w) base _ _ _ i 3 Try.underlying41 hi v _ _ hown, ?_, World.grownBy.refl w _⟩
    rw [List.append_nil]; exact hown
  | some ad =>
    have hlen3 : (cells3 ys).length = ys.length * 3 := cells3_len ys
    have hc : ∀ j u, (cells3 ys)[j]? = some u → w.cell? (ad.add j) = some u := by
      intro j u hu
      have hat' := hat
      rcases hat with rfl | ⟨b, off, e, _, _⟩
      · simp [cells3] at hu
      · cases e
        have := secsAt_cells hat' j u hu
        unfold Addr.add
        split
        · subst j; simpa using this
        · exact this
    obtain ⟨v', w', hrun, h2, h3, _⟩ := run_append_own (P := Try.prog) w base _ 41 _ i zsec 3 40 Try.underlying41 hi hz hsz hby rfl (by decide) v s.length _ hown ad ys.length c _ hlen3 hc (cells3_one ys) (by unfold maxLen; omega) (by omega) hbase
    refine ⟨v', w', hrun, ?_, h3⟩
    unfold OwnS
    rw [List.length_append, cells3_append]
    exact h2
theorem OwnS.nil (w : World) (base : Nat) : OwnS w base (.slice none 0 0) [] := ⟨rfl, .inl ⟨rfl, rfl⟩⟩
/-- One that has any lies in a block. -/
theorem OwnS.read {w : World} {base : Nat} {v : Value} {s : List Sec} (h : OwnS w base v s) (hs : s ≠ []) :
    ∃ g cap cur, v = .slice (some ⟨g, 0, none⟩) s.length cap ∧ base ≤ g ∧ Blk w g cur 107 ∧ s.length * 3 ≤ cur.size ∧ cur.toList.take (s.length * 3) = cells3 s := by
  rcases h.2 with ⟨_, h0⟩ | ⟨g, cap, cur, rfl, h1, h2, h3, _, h5, h6⟩
  · exact absurd (List.eq_nil_of_length_eq_zero h0) hs
  · exact ⟨g, cap, cur, rfl, h1, h2, by rw [h5]; exact Nat.mul_le_mul_right _ h3, h6⟩

theorem Blk.set5 {w : World} {b : Nat} {v0 v1 v2 v3 v4 u0 u1 u2 u3 u4 : Value} {t : TypeId} (h : Blk w b #[v0, v1, v2, v3, v4] t) :
    Blk (((((w.setCell ⟨b, 0, none⟩ u0).setCell ⟨b, 1, none⟩ u1).setCell ⟨b, 2, none⟩ u2).setCell ⟨b, 3, none⟩ u3).setCell ⟨b, 4, none⟩ u4) b #[u0, u1, u2, u3, u4] t :=
  ((((h.set 0 u0).set 1 u1).set 2 u2).set 3 u3).set 4 u4
/-- What is new since w. -/
def Far (w : World) (a : Option Addr) : Prop := ∀ x, a = some x → w.heap.size ≤ x.block
theorem Far.mono {w w' : World} {a : Option Addr} (h : Far w' a) (k : w.heap.size ≤ w'.heap.size) : Far w a := fun x hx => Nat.le_trans k (h x hx)
/-- A document's disk that a call made. -/
def RefD (w w' : World) (e : Ending) (D : Dsk) : Prop := ∃ a c, e = .returned (refV a D.s.length c D) ∧ (SecsAt w' a D.s ∧ Far w a) ∧ Same w w'
theorem OwnS.same {w w' : World} {base : Nat} {v : Value} {s : List Sec} (h : OwnS w base v s) (hk : Same w w') : OwnS w' base v s := ownsRow_kept h hk (fun _ _ h => h)
theorem OwnS.kept {w w' : World} {base : Nat} {v : Value} {s : List Sec} {fp : Nat → Prop} (h : OwnS w base v s) (hk : Kept fp w w') (hn : ∀ g, v.ownBlock = some g → ¬ fp g) : OwnS w' base v s := ownsRow_kept h hk hn
theorem OwnS.far {w : World} {base : Nat} {v : Value} {s : List Sec} (h : OwnS w base v s) : ∀ g, v.ownBlock = some g → base ≤ g ∧ g < w.heap.size := by
  rcases h.2 with ⟨rfl, _⟩ | ⟨g, cap, cur, rfl, h1, h2, _⟩
  · intro g hg; simp [Value.ownBlock] at hg
  · intro g' hg; obtain rfl : g = g' := by simpa [Value.ownBlock] using hg
    exact ⟨h1, lt_of_block h2⟩
theorem OwnS.secs {w : World} {base : Nat} {v : Value} {s : List Sec} (h : OwnS w base v s) : ∃ a cap, v = .slice a s.length cap ∧ SecsAt w a s := by
  by_cases hs : s = []
  · subst hs
    rcases h.2 with ⟨rfl, _⟩ | ⟨g, cap, cur, rfl, _⟩
    · exact ⟨none, 0, rfl, .inl rfl⟩
    · exact ⟨_, cap, rfl, .inl rfl⟩
  · obtain ⟨g, cap, cur, rfl, _, hb, _, hc⟩ := h.read hs
    exact ⟨_, cap, rfl, secsAt_of hb hc⟩
theorem OwnS.at {w : World} {base : Nat} {a : Option Addr} {n c : Nat} {s : List Sec} (h : OwnS w base (.slice a n c) s) : SecsAt w a s := by
  obtain ⟨a', c', e, h'⟩ := h.secs
  simp only [Value.slice.injEq] at e
  rw [e.1]; exact h'
/-- A sector in a block of its own. -/
theorem secsAt_new {w : World} {g : Nat} {x : Sec} {t : TypeId} (h : Blk w g #[.string (strN x.has), .string (strN x.safe), .bool x.waits] t) : SecsAt w (some ⟨g, 0, none⟩) [x] := secsAt_of h rfl
section
attribute [local go_sem ↓] exec_app semAt_app
attribute [local go_sem] isApp_lit appA appX
set_option maxRecDepth 100000 in
set_option maxHeartbeats 800000 in
theorem rs_with (a : Option Addr) (n c : Nat) (D : Dsk) (hn : n = D.s.length) (hl : n ≤ 4096) (k : Nat) (hk : k < D.s.length) (x : Sec) (w : World) (hs : SecsAt w a D.s) :
    Calls Try.prog 96 #[refV a n c D, .int .i64 k, .agg #[.string (strN x.has), .string (strN x.safe), .bool x.waits]] w fun e w' =>
      RefD w w' e { D with s := D.s.set k x } := by
  obtain ⟨s, off, calls, after, done⟩ := D
  simp only [refV]
  dsimp only at hn hk hs ⊢
  subst hn
  have hs' := hs
  rcases hs with h | ⟨b, o, rfl, hb, -⟩
  · subst h; simp at hk
  have k3 : Same w (((w.alloc (.cells #[.slice (some ⟨b, o, none⟩) s.length c, .bool off, .int .i64 calls, .int .i64 after, .bool done] 43)).alloc (.cells #[.string (strN x.has), .string (strN x.safe), .bool x.waits] 107)).alloc (.cells #[.slice none 0 0, .bool false, .int .i64 0, .int .i64 0, .bool false] 43)) := (((Kept.refl _ w).alloc _).alloc _).alloc _
  obtain ⟨v4, w4, hrun, h4, g4⟩ := app_secs (((w.alloc (.cells #[.slice (some ⟨b, o, none⟩) s.length c, .bool off, .int .i64 calls, .int .i64 after, .bool done] 43)).alloc (.cells #[.string (strN x.has), .string (strN x.safe), .bool x.waits] 107)).alloc (.cells #[.slice none 0 0, .bool false, .int .i64 0, .int .i64 0, .bool false] 43)) (w.heap.size + 1 + 1 + 1) (.slice none 0 0) [] (OwnS.nil _ _) (some ⟨b, o, none⟩) s.length c s rfl (hs'.same k3) (fun h => by cases h) (by simp; omega) (by simp)
  obtain ⟨aok, aV, aW⟩ := app_of hrun
  rw [List.nil_append] at h4
  obtain ⟨g, cap, cur, rfl, hg, hblk, hcs, hcur⟩ := h4.read (by intro h; rw [h] at hk; simp at hk)
  have F0 : Fr (((w.alloc (.cells #[.slice (some ⟨b, o, none⟩) s.length c, .bool off, .int .i64 calls, .int .i64 after, .bool done] 43)).alloc (.cells #[.string (strN x.has), .string (strN x.safe), .bool x.waits] 107)).alloc (.cells #[.slice none 0 0, .bool false, .int .i64 0, .int .i64 0, .bool false] 43)) [(w.heap.size, #[.slice (some ⟨b, o, none⟩) s.length c, .bool off, .int .i64 calls, .int .i64 after, .bool done], 43), (w.heap.size + 1, #[.string (strN x.has), .string (strN x.safe), .bool x.waits], 107), (w.heap.size + 1 + 1, #[.slice none 0 0, .bool false, .int .i64 0, .int .i64 0, .bool false], 43)] :=
    ⟨((Blk.new w _ _).alloc _).alloc _, (Blk.new' _ _ _ (by simp)).alloc _, Blk.new' _ _ _ (by simp), trivial⟩
  have kk : Same (((w.alloc (.cells #[.slice (some ⟨b, o, none⟩) s.length c, .bool off, .int .i64 calls, .int .i64 after, .bool done] 43)).alloc (.cells #[.string (strN x.has), .string (strN x.safe), .bool x.waits] 107)).alloc (.cells #[.slice none 0 0, .bool false, .int .i64 0, .int .i64 0, .bool false] 43)) w4 := (Kept.refl _ _).grownNew g4 (fun g h => by cases h)
  have F4 := F0.same kk
  have K4 := Lib.hid (k3.trans kk)
  obtain ⟨p0, f0, p1, f1, p2, f2, -⟩ := F4.rules
  have p3 := fun i => cell_blk hblk i
  have f3 := fun i => hblk.free i
  have z0 := F4.1.lt
  have z1 := F4.2.1.lt
  have z2 := F4.2.2.1.lt
  have z3 := hblk.lt
  have HB := Lib.hid hblk
  obtain ⟨v0, c0⟩ : ∃ v, cur[k * 3]? = some v := ⟨_, Array.getElem?_eq_getElem (by omega)⟩
  obtain ⟨v1, c1⟩ : ∃ v, cur[k * 3 + 1]? = some v := ⟨_, Array.getElem?_eq_getElem (by omega)⟩
  obtain ⟨v2, c2⟩ : ∃ v, cur[k * 3 + 2]? = some v := ⟨_, Array.getElem?_eq_getElem (by omega)⟩
  have F2 := Lib.hid F4.2.2.1
  clear hrun F0 kk F4 h4 hblk hs' k3 g4
  go_enter Try.func96, Try.ntmps96
  go_wp2_with fail
  refine bodyPost_ret (results_two rfl _ _ (w.heap.size + 1 + 1) 43 #[.slice (some ⟨g, 0, none⟩) s.length cap, .bool off, .int .i64 calls, .int .i64 after, .bool done] _ rfl ?_ Try.underlying43 rfl (by kernel_rfl)) rfl ?_
  · refine Blk.set5 (v0 := .slice none 0 0) (v1 := .bool false) (v2 := .int .i64 0) (v3 := .int .i64 0) (v4 := .bool false) ?_
    repeat (first | with_reducible exact F2.out | with_reducible refine Blk.other ?_ (by dsimp only; omega) _)
  refine ⟨some ⟨g, 0, none⟩, cap, by rw [List.length_set]; rfl, ⟨?_, fun x hx => by cases hx; show w.heap.size ≤ g; omega⟩, ?_⟩
  · refine secsAt_of (g := g) (t := 107) ?hh (cells3_set hk x hcur hcs)
    repeat (first | with_reducible exact HB.out | with_reducible refine Blk.set ?_ _ _ | with_reducible refine Blk.other ?_ (by dsimp only; omega) _)
  · repeat (first | with_reducible exact K4.out | with_reducible refine Kept.setNew ?_ (by dsimp only; omega) _)
end
end Go.Proofs.Ytlmpkonfclnceaa
