/- Rows of bytes: slices of slices of bytes. -/
import Derived.Test.YtmiglhlbhbfodaaGreatDoorEl
import Derived.Test.YtmiglhlbhbfodaaGreatDoorGSecA
namespace Go.Proofs.YtmiglhlbhbfodaaGreatDoor
open Go.RowKit Go.Sort

def rowE : Enc (Option Addr × Nat × Nat) := ⟨1, fun r => [.slice r.1 r.2.1 r.2.2], fun _ => rfl, by decide, fun x v hv => by simp at hv; subst hv; rfl⟩
/-- A slice of bytes. -/
structure RowOK (w : World) (r : Option Addr × Nat × Nat) (b : List Nat) : Prop where
  len : r.2.1 = b.length
  cap : r.2.1 ≤ r.2.2
  at_ : NatsAt w .u8 r.1 b
/-- Slices of bytes, in a slice. -/
def RowsAt (w : World) (a : Option Addr) (bs : List (List Nat)) : Prop := ∃ rs, ElsAt rowE w a rs ∧ rs.length = bs.length ∧ ∀ (i : Nat) r b, rs[i]? = some r → bs[i]? = some b → RowOK w r b
/-- Slices of bytes, in a slice of one's own; none of them lies in that. -/
def RowsOwn (w : World) (base : Nat) (v : Value) (bs : List (List Nat)) : Prop := ∃ rs, OwnE rowE w base 32 v rs ∧ rs.length = bs.length ∧ ∀ (i : Nat) r b, rs[i]? = some r → bs[i]? = some b → RowOK w r b ∧ ∀ y, r.1 = some y → base ≤ y.block ∧ y.block < w.heap.size ∧ v.ownBlock ≠ some y.block
theorem RowOK.same {w w' : World} {r : Option Addr × Nat × Nat} {b : List Nat} (h : RowOK w r b) (k : Same w w') : RowOK w' r b := ⟨h.len, h.cap, h.at_.same k⟩
theorem RowsOwn.nil (w : World) (base : Nat) : RowsOwn w base (.slice none 0 0) [] := ⟨[], OwnE.nil w base _, rfl, fun i r b h => by simp at h⟩
theorem RowsOwn.same {w w' : World} {base : Nat} {v : Value} {bs : List (List Nat)} (h : RowsOwn w base v bs) (k : Same w w') : RowsOwn w' base v bs := by
  obtain ⟨rs, h1, h2, h3⟩ := h
  refine ⟨rs, h1.same k, h2, fun i r b hr hb => ?_⟩
  obtain ⟨p, q⟩ := h3 i r b hr hb
  exact ⟨p.same k, fun y hy => ⟨(q y hy).1, Nat.lt_of_lt_of_le (q y hy).2.1 k.size, (q y hy).2.2⟩⟩
theorem RowsAt.kept {w w' : World} {fp : Nat → Prop} {a : Option Addr} {bs : List (List Nat)} (h : RowsAt w a bs) (k : Kept fp w w') (base : Nat) (hf : ∀ y, a = some y → base ≤ y.block)
    (hg : ∀ rs, ElsAt rowE w a rs → ∀ r ∈ rs, ∀ y, r.1 = some y → base ≤ y.block) (hn : ∀ j, base ≤ j → ¬ fp j) : RowsAt w' a bs := by
  obtain ⟨rs, h1, h2, h3⟩ := h
  refine ⟨rs, h1.kept k (fun y hy => hn _ (hf y hy)), h2, fun i r b hr hb => ?_⟩
  have p := h3 i r b hr hb
  exact ⟨p.len, p.cap, p.at_.kept k (fun y hy => hn _ (hg rs h1 r (List.mem_of_getElem? hr) y hy))⟩
theorem rowInfo : (Tryz.prog.info? 32).map (fun i => (i.zero, i.size, i.bytes)) = some (some (.slice none 0 0), 1, 24) := by kernel_rfl
/-- One row more. -/
theorem rows_append {w : World} {base : Nat} {v : Value} {bs : List (List Nat)} (h : RowsOwn w base v bs) (hb : base ≤ w.heap.size) (hl : bs.length ≤ 100000) (g n c : Nat) (b : List Nat) (hn : n = b.length) (hc : n ≤ c) (hg : base ≤ g) (hgl : g < w.heap.size) (hv : v.ownBlock ≠ some g) (hat : NatsAt w .u8 (some ⟨g, 0, none⟩) b) :
    ∃ v' w', (Builtin.append_ #[128, 128] 128 #[v, .slice (some ⟨w.heap.size, 0, none⟩) 1 1]).run Tryz.prog (w.alloc (.cells #[.slice (some ⟨g, 0, none⟩) n c] 32)) = .ok v' w' ∧ RowsOwn w' base v' (bs ++ [b]) ∧ Kept (fun j => base ≤ j) w w' := by
  obtain ⟨rs, h1, h2, h3⟩ := h
  have kA : Same w (w.alloc (.cells #[.slice (some ⟨g, 0, none⟩) n c] 32)) := (Kept.refl _ w).alloc _
  have hone : ElsAt rowE (w.alloc (.cells #[.slice (some ⟨g, 0, none⟩) n c] 32)) (some ⟨w.heap.size, 0, none⟩) [(some ⟨g, 0, none⟩, n, c)] := elsAt_one (E := rowE) (x := (some ⟨g, 0, none⟩, n, c)) (Blk.new w _ _) rfl
  obtain ⟨v', w', hrun, ho, hgr, hob⟩ := run_appendE (P := Tryz.prog) (w.alloc (.cells #[.slice (some ⟨g, 0, none⟩) n c] 32)) 128 128 base 32 (.slice none 0 0) 24 rowE Tryz.underlying128 rowInfo rfl v rs (h1.same kA) (some ⟨w.heap.size, 0, none⟩) 1 1 [(some ⟨g, 0, none⟩, n, c)] rfl hone (fun h => by cases h) (by rw [h2]; unfold maxLen; simp; omega) (by rw [h2]; simp; omega) (Nat.le_trans hb kA.size)
  have kg : Kept (fun j => v.ownBlock = some j) (w.alloc (.cells #[.slice (some ⟨g, 0, none⟩) n c] 32)) w' := (Kept.refl _ _).grown hgr (fun k hk _ => hk)
  have hob' : ∀ j, j < w.heap.size → v.ownBlock ≠ some j → v'.ownBlock ≠ some j := by
    intro j hj hne q
    rcases hob with e | e
    · exact hne (e ▸ q)
    · rw [e] at q
      simp at q
      omega
  have hsz : w.heap.size < w'.heap.size := Nat.lt_of_lt_of_le (by simp) kg.size
  refine ⟨v', w', hrun, ⟨rs ++ [(some ⟨g, 0, none⟩, n, c)], ho, by simp [h2], fun i r x hr hx => ?_⟩, ?_⟩
  · by_cases hi : i < bs.length
    · rw [List.getElem?_append_left (by omega)] at hr
      rw [List.getElem?_append_left hi] at hx
      obtain ⟨p, q⟩ := h3 i r x hr hx
      refine ⟨⟨p.len, p.cap, (p.at_.same kA).kept kg (fun y hy => ?_)⟩, fun y hy => ⟨(q y hy).1, by have := (q y hy).2.1; omega, hob' _ (q y hy).2.1 (q y hy).2.2⟩⟩
      exact (q y hy).2.2
    · rw [List.getElem?_append_right (by omega)] at hr
      rw [List.getElem?_append_right (by omega)] at hx
      have e : i = bs.length := by
        rcases Nat.lt_or_ge (i - bs.length) 1 with z | z
        · omega
        · rw [List.getElem?_eq_none (by simpa using z)] at hx; cases hx
      subst e
      rw [h2] at hr
      simp at hr hx
      subst hr hx
      exact ⟨⟨hn, hc, (hat.same kA).kept kg (fun y hy => by cases hy; exact hv)⟩, fun y hy => by cases hy; exact ⟨hg, by dsimp only; omega, hob' _ hgl hv⟩⟩
  · refine (kA.mono (fun _ _ z => z.elim)).trans (kg.mono (fun j _ hj => ?_))
    exact (World.ownsRow.lt h1 j hj).1
/-- One row more, wherever it lies; also none. -/
theorem rows_appendA {w : World} {base : Nat} {v : Value} {bs : List (List Nat)} (h : RowsOwn w base v bs) (hb : base ≤ w.heap.size) (hl : bs.length ≤ 100000) (a : Option Addr) (n c : Nat) (b : List Nat) (hn : n = b.length) (hc : n ≤ c) (hg : ∀ y, a = some y → base ≤ y.block ∧ y.block < w.heap.size ∧ v.ownBlock ≠ some y.block) (hat : NatsAt w .u8 a b) :
    ∃ v' w', (Builtin.append_ #[128, 128] 128 #[v, .slice (some ⟨w.heap.size, 0, none⟩) 1 1]).run Tryz.prog (w.alloc (.cells #[.slice a n c] 32)) = .ok v' w' ∧ RowsOwn w' base v' (bs ++ [b]) ∧ Kept (fun j => base ≤ j) w w' := by
  obtain ⟨rs, h1, h2, h3⟩ := h
  have kA : Same w (w.alloc (.cells #[.slice a n c] 32)) := (Kept.refl _ w).alloc _
  have hone : ElsAt rowE (w.alloc (.cells #[.slice a n c] 32)) (some ⟨w.heap.size, 0, none⟩) [(a, n, c)] := elsAt_one (E := rowE) (x := (a, n, c)) (Blk.new w _ _) rfl
  obtain ⟨v', w', hrun, ho, hgr, hob⟩ := run_appendE (P := Tryz.prog) (w.alloc (.cells #[.slice a n c] 32)) 128 128 base 32 (.slice none 0 0) 24 rowE Tryz.underlying128 rowInfo rfl v rs (h1.same kA) (some ⟨w.heap.size, 0, none⟩) 1 1 [(a, n, c)] rfl hone (fun h => by cases h) (by rw [h2]; unfold maxLen; simp; omega) (by rw [h2]; simp; omega) (Nat.le_trans hb kA.size)
  have kg : Kept (fun j => v.ownBlock = some j) (w.alloc (.cells #[.slice a n c] 32)) w' := (Kept.refl _ _).grown hgr (fun k hk _ => hk)
  have hob' : ∀ j, j < w.heap.size → v.ownBlock ≠ some j → v'.ownBlock ≠ some j := by
    intro j hj hne q
    rcases hob with e | e
    · exact hne (e ▸ q)
    · rw [e] at q
      simp at q
      omega
  have hsz : w.heap.size < w'.heap.size := Nat.lt_of_lt_of_le (by simp) kg.size
  refine ⟨v', w', hrun, ⟨rs ++ [(a, n, c)], ho, by simp [h2], fun i r x hr hx => ?_⟩, ?_⟩
  · by_cases hi : i < bs.length
    · rw [List.getElem?_append_left (by omega)] at hr
      rw [List.getElem?_append_left hi] at hx
      obtain ⟨p, q⟩ := h3 i r x hr hx
      refine ⟨⟨p.len, p.cap, (p.at_.same kA).kept kg (fun y hy => ?_)⟩, fun y hy => ⟨(q y hy).1, by have := (q y hy).2.1; omega, hob' _ (q y hy).2.1 (q y hy).2.2⟩⟩
      exact (q y hy).2.2
    · rw [List.getElem?_append_right (by omega)] at hr
      rw [List.getElem?_append_right (by omega)] at hx
      have e : i = bs.length := by
        rcases Nat.lt_or_ge (i - bs.length) 1 with z | z
        · omega
        · rw [List.getElem?_eq_none (by simpa using z)] at hx; cases hx
      subst e
      rw [h2] at hr
      simp at hr hx
      subst hr hx
      exact ⟨⟨hn, hc, (hat.same kA).kept kg (fun y hy => (hg y hy).2.2)⟩, fun y hy => ⟨(hg y hy).1, by have := (hg y hy).2.1; omega, hob' _ (hg y hy).2.1 (hg y hy).2.2⟩⟩
  · refine (kA.mono (fun _ _ z => z.elim)).trans (kg.mono (fun j _ hj => ?_))
    exact (World.ownsRow.lt h1 j hj).1
theorem RowsOwn.kept {fp : Nat → Prop} {w w' : World} {base : Nat} {v : Value} {bs : List (List Nat)} (h : RowsOwn w base v bs) (k : Kept fp w w') (hn : ∀ j, base ≤ j → ¬ fp j) : RowsOwn w' base v bs := by
  obtain ⟨rs, h1, h2, h3⟩ := h
  refine ⟨rs, h1.kept k (fun g hg => hn _ (h1.far g hg).1), h2, fun i r b hr hb => ?_⟩
  obtain ⟨p, q⟩ := h3 i r b hr hb
  exact ⟨⟨p.len, p.cap, p.at_.kept k (fun y hy => hn _ (q y hy).1)⟩, fun y hy => ⟨(q y hy).1, Nat.lt_of_lt_of_le (q y hy).2.1 k.size, (q y hy).2.2⟩⟩
theorem RowsOwn.len {w : World} {base : Nat} {v : Value} {bs : List (List Nat)} (h : RowsOwn w base v bs) : ∃ a c, v = .slice a bs.length c ∧ bs.length ≤ c := by
  obtain ⟨rs, h1, h2, h3⟩ := h
  obtain ⟨a, l, c, rfl, hl, -, -, hc⟩ := h1.rd
  have := hl.out
  exact ⟨a, c, by rw [this, h2], by have := hc.out.1; omega⟩
end Go.Proofs.YtmiglhlbhbfodaaGreatDoor
