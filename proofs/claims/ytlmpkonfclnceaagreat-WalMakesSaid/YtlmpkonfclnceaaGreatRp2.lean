/- The document's texts in sectors: groups. -/
import Derived.Test.YtlmpkonfclnceaaGreatRp1
namespace Go.Proofs.YtlmpkonfclnceaaGreat
open Go.RowKit Go.Sort

/-- Rows of texts in a slice of one's own, each in a slice of one's own; none lies in another. -/
structure GrpAt (w : World) (base : Nat) (v : Value) (G : List (List (List Nat))) (rs : List (Option Addr × Nat × Nat)) : Prop where
  own : OwnE rowE w base 46 v rs
  len : rs.length = G.length
  row : ∀ (j : Nat) r g, rs[j]? = some r → G[j]? = some g → OwnT w base (.slice r.1 r.2.1 r.2.2) g
  out : ∀ (j : Nat) r y, rs[j]? = some r → r.1 = some y → v.ownBlock ≠ some y.block
  apart : ∀ (j k : Nat) r r' y y', j ≠ k → rs[j]? = some r → rs[k]? = some r' → r.1 = some y → r'.1 = some y' → y.block ≠ y'.block
theorem GrpAt.nil (w : World) (base : Nat) : GrpAt w base (.slice none 0 0) [] [] := ⟨OwnE.nil _ _ _, rfl, fun j r g h => (by simp at h), fun j r y h => (by simp at h), fun j k r r' y y' _ h => (by simp at h)⟩
theorem GrpAt.same {w w' : World} {base : Nat} {v : Value} {G : List (List (List Nat))} {rs : List (Option Addr × Nat × Nat)} (h : GrpAt w base v G rs) (k : Same w w') : GrpAt w' base v G rs :=
  ⟨h.own.same k, h.len, fun j r g hr hg => (h.row j r g hr hg).same k, h.out, h.apart⟩
theorem ownBlock_some {a : Option Addr} {n c : Nat} {w : World} {base : Nat} {l : List (List Nat)} (h : OwnT w base (.slice a n c) l) {y : Addr} (hy : a = some y) : base ≤ y.block ∧ y.block < w.heap.size ∧ (Value.slice a n c).ownBlock = some y.block := by
  subst hy
  have := World.ownsRow.lt h y.block rfl
  exact ⟨this.1, this.2, rfl⟩
theorem grpInfo : (Tryz.prog.info? 46).map (fun i => (i.zero, i.size, i.bytes)) = some (some (.slice none 0 0), 1, 24) := by kernel_rfl
/-- A row more, that has none. -/
theorem grp_push {w : World} {base : Nat} {v : Value} {G : List (List (List Nat))} {rs : List (Option Addr × Nat × Nat)} (h : GrpAt w base v G rs) (hb : base ≤ w.heap.size) (hl : G.length ≤ 100000) :
    ∃ v' w', (Builtin.append_ #[121, 121] 121 #[v, .slice (some ⟨w.heap.size, 0, none⟩) 1 1]).run Tryz.prog (w.alloc (.cells #[.slice none 0 0] 46)) = .ok v' w' ∧ GrpAt w' base v' (G ++ [[]]) (rs ++ [(none, 0, 0)]) ∧ Kept (fun j => base ≤ j) w w' := by
  have kA : Same w (w.alloc (.cells #[.slice none 0 0] 46)) := (Kept.refl _ w).alloc _
  have hone : ElsAt rowE (w.alloc (.cells #[.slice none 0 0] 46)) (some ⟨w.heap.size, 0, none⟩) [(none, 0, 0)] := elsAt_one (E := rowE) (x := (none, 0, 0)) (Blk.new w _ _) rfl
  obtain ⟨v', w', hrun, ho, hgr, hob⟩ := run_appendE (P := Tryz.prog) (w.alloc (.cells #[.slice none 0 0] 46)) 121 121 base 46 (.slice none 0 0) 24 rowE Tryz.underlying121 grpInfo rfl v rs (h.own.same kA) (some ⟨w.heap.size, 0, none⟩) 1 1 [(none, 0, 0)] rfl hone (fun h => by cases h) (by rw [h.len]; unfold maxLen; simp; omega) (by rw [h.len]; simp; omega) (Nat.le_trans hb kA.size)
  have kg : Kept (fun j => v.ownBlock = some j) (w.alloc (.cells #[.slice none 0 0] 46)) w' := (Kept.refl _ _).grown hgr (fun k hk _ => hk)
  have get : ∀ (j : Nat) r, (rs ++ [(none, 0, 0)])[j]? = some r → (j < rs.length ∧ rs[j]? = some r) ∨ (j = rs.length ∧ r = (none, 0, 0)) := by
    intro j r hr
    by_cases hj : j < rs.length
    · rw [List.getElem?_append_left hj] at hr; exact .inl ⟨hj, hr⟩
    · rw [List.getElem?_append_right (by omega)] at hr
      have : j - rs.length = 0 := by
        rcases Nat.lt_or_ge (j - rs.length) 1 with z | z
        · omega
        · rw [List.getElem?_eq_none (by simpa using z)] at hr; cases hr
      rw [this] at hr
      simp at hr
      exact .inr ⟨by omega, hr.symm⟩
  refine ⟨v', w', hrun, ⟨ho, by simp [h.len], fun j r g hr hg => ?_, fun j r y hr hy => ?_, fun j k r r' y y' hjk hr hr' hy hy' => ?_⟩, ?_⟩
  · rcases get j r hr with ⟨hj, hr⟩ | ⟨hj, rfl⟩
    · rw [List.getElem?_append_left (by rw [← h.len]; exact hj)] at hg
      refine ((h.row j r g hr hg).same kA).kept kg (fun q hq => ?_)
      intro hv
      cases hy : r.1 with
      | none => rw [hy] at hq; cases hq
      | some y =>
        have := h.out j r y hr hy
        rw [hy] at hq
        have : q = y.block := by simpa [Value.ownBlock] using hq.symm
        subst this
        exact absurd hv (h.out j r y hr hy)
    · rw [List.getElem?_append_right (by rw [← h.len]; omega), ← h.len, hj, Nat.sub_self] at hg
      simp at hg
      subst hg
      exact OwnE.nil _ _ _
  · rcases get j r hr with ⟨hj, hr⟩ | ⟨hj, rfl⟩
    · intro q
      obtain ⟨g, hg⟩ : ∃ g, G[j]? = some g := ⟨_, List.getElem?_eq_getElem (by rw [← h.len]; exact hj)⟩
      have p := ownBlock_some (h.row j r g hr hg) hy
      rcases hob with e | e
      · exact h.out j r y hr hy (e ▸ q)
      · rw [e] at q
        simp at q
        omega
    · cases hy
  · rcases get j r hr with ⟨hj, hr⟩ | ⟨hj, rfl⟩
    · rcases get k r' hr' with ⟨hk, hr'⟩ | ⟨hk, rfl⟩
      · exact h.apart j k r r' y y' hjk hr hr' hy hy'
      · cases hy'
    · cases hy
  · refine (kA.mono (fun _ _ z => z.elim)).trans (kg.mono (fun j _ hj => ?_))
    exact (World.ownsRow.lt h.own j hj).1
/-- A text more in the last row. -/
theorem grp_add {w : World} {base gb n c : Nat} {G0 : List (List (List Nat))} {g : List (List Nat)} {rs : List (Option Addr × Nat × Nat)} (h : GrpAt w base (.slice (some ⟨gb, 0, none⟩) n c) (G0 ++ [g]) rs) (hb : base ≤ w.heap.size) (hl : g.length ≤ 100000) (s : List Nat) :
    ∃ ra rn rc a' l' c' w', w.cell? ⟨gb, G0.length, none⟩ = some (.slice ra rn rc) ∧ w.frozen? ⟨gb, G0.length, none⟩ = false ∧
      (Builtin.append_ #[46, 46] 46 #[.slice ra rn rc, .slice (some ⟨w.heap.size, 0, none⟩) 1 1]).run Tryz.prog (w.alloc (.cells #[.string (strN s)] 9)) = .ok (.slice a' l' c') w' ∧
      w'.cell? ⟨gb, G0.length, none⟩ = some (.slice ra rn rc) ∧ w'.frozen? ⟨gb, G0.length, none⟩ = false ∧
      (∃ rs', GrpAt (w'.setCell ⟨gb, G0.length, none⟩ (.slice a' l' c')) base (.slice (some ⟨gb, 0, none⟩) n c) (G0 ++ [g ++ [s]]) rs') ∧ Kept (fun j => base ≤ j) w (w'.setCell ⟨gb, G0.length, none⟩ (.slice a' l' c')) := by
  have hk : G0.length < rs.length := by rw [h.len]; simp
  obtain ⟨r, hr⟩ : ∃ r, rs[G0.length]? = some r := ⟨_, List.getElem?_eq_getElem hk⟩
  obtain ⟨ra, rn, rc⟩ := r
  have hrow := h.row G0.length _ g hr (by simp)
  obtain ⟨g1, cap, cur, e1, hbg, hbl, -, -, h5, h6⟩ := h.own.read (fun q => by rw [q] at hk; simp at hk)
  simp only [Value.slice.injEq, Option.some.injEq, Addr.mk.injEq] at e1
  obtain ⟨⟨rfl, -, -⟩, rfl, rfl⟩ := e1
  have hcell : w.cell? ⟨gb, G0.length, none⟩ = some (.slice ra rn rc) := by
    have := h.own.at.1.get hr 0 (u := .slice ra rn rc) rfl
    simpa [rowE] using this
  have kA : Same w (w.alloc (.cells #[.string (strN s)] 9)) := (Kept.refl _ w).alloc _
  have hone : ElsAt strE (w.alloc (.cells #[.string (strN s)] 9)) (some ⟨w.heap.size, 0, none⟩) [s] := elsAt_one (E := strE) (x := s) (Blk.new w _ _) rfl
  obtain ⟨v', w', hrun, ho, hgr, hob⟩ := run_appendE (P := Tryz.prog) (w.alloc (.cells #[.string (strN s)] 9)) 46 46 base 9 (.string ByteArray.empty) 16 strE Tryz.underlying46 strInfo rfl _ g (hrow.same kA) (some ⟨w.heap.size, 0, none⟩) 1 1 [s] rfl hone (fun h => by cases h) (by unfold maxLen; simp; omega) (by simp; omega) (Nat.le_trans hb kA.size)
  have kg : Kept (fun j => (Value.slice ra rn rc).ownBlock = some j) (w.alloc (.cells #[.string (strN s)] 9)) w' := (Kept.refl _ _).grown hgr (fun k hk _ => hk)
  have hne : ¬ (Value.slice ra rn rc).ownBlock = some gb := by
    intro q
    cases hy : ra with
    | none => rw [hy] at q; cases q
    | some y =>
      rw [hy] at q
      have e : y.block = gb := by simpa [Value.ownBlock] using q
      exact h.out _ _ y hr hy (by rw [e]; rfl)
  have bw : Blk w' gb cur 46 := (hbl.kept kA (fun h => h)).kept kg hne
  obtain ⟨a', l', c', rfl, hl', hn', ha', hc'⟩ := OwnE.rd ho
  have kz : Kept (fun j => j = gb) w' (w'.setCell ⟨gb, G0.length, none⟩ (.slice a' l' c')) := (Kept.refl _ _).setG _ _
  have hne' : ∀ y, a' = some y → y.block ≠ gb := by
    intro y hy q
    rcases hob with e | e
    · exact hne (by rw [← e, hy, ← q]; rfl)
    · rw [hy] at e
      have := hbl.lt
      simp [Value.ownBlock] at e
      omega
  have hset : OwnE rowE (w'.setCell ⟨gb, G0.length, none⟩ (.slice a' l' c')) base 46 (.slice (some ⟨gb, 0, none⟩) rs.length c) (rs.set G0.length (a', l', c')) := by
    have := ((h.own.same kA).kept kg (fun g hg => by simp [Value.ownBlock] at hg; subst hg; exact hne)).set (k := G0.length) hk (a', l', c')
    simpa [rowE, World.setCells] using this
  refine ⟨ra, rn, rc, a', l', c', w', hcell, hbl.free _, hrun, ?_, bw.free _, ⟨_, ⟨hset, by rw [List.length_set, h.len]; simp, fun j r g' hr' hg' => ?_, fun j r y hr' hy => ?_, fun j k r r' y y' hjk hr1 hr2 hy hy' => ?_⟩⟩, ?_⟩
  · rw [cell_blk bw, ← cell_blk hbl]; exact hcell
  · by_cases e : j = G0.length
    · subst e
      rw [List.getElem?_set_self hk] at hr'
      cases hr'
      simp at hg'
      subst hg'
      exact ho.kept kz (fun q hq => by
        cases hy : a' with
        | none => rw [hy] at hq; cases hq
        | some y =>
          rw [hy] at hq
          have e : q = y.block := by simpa [Value.ownBlock] using hq.symm
          rw [e]
          exact hne' y hy)
    · rw [List.getElem?_set_ne (fun q => e q.symm)] at hr'
      have hj : j < rs.length := (List.getElem?_eq_some_iff.1 hr').1
      have hj2 : j < G0.length := by rw [h.len] at hj; simp at hj; omega
      rw [List.getElem?_append_left hj2] at hg'
      have p := h.row j r g' hr' (by rw [List.getElem?_append_left hj2]; exact hg')
      refine ((p.same kA).kept kg (fun q hq => ?_)).kept kz (fun q hq => ?_)
      · intro hv
        cases hy : r.1 with
        | none => rw [hy] at hq; cases hq
        | some y =>
          cases hz : ra with
          | none => rw [hz] at hv; cases hv
          | some z =>
            rw [hy] at hq
            rw [hz] at hv
            have e1 : q = y.block := by simpa [Value.ownBlock] using hq.symm
            have e2 : q = z.block := by simpa [Value.ownBlock] using hv.symm
            exact h.apart j G0.length r _ y z e hr' hr hy hz (by rw [← e1, e2])
      · cases hy : r.1 with
        | none => rw [hy] at hq; cases hq
        | some y =>
          rw [hy] at hq
          have e1 : q = y.block := by simpa [Value.ownBlock] using hq.symm
          intro e2
          refine h.out j r y hr' hy ?_
          rw [← e1, e2]; rfl
  · by_cases e : j = G0.length
    · subst e
      rw [List.getElem?_set_self hk] at hr'
      cases hr'
      intro q
      simp [Value.ownBlock] at q
      exact hne' y hy q.symm
    · rw [List.getElem?_set_ne (fun q => e q.symm)] at hr'
      exact h.out j r y hr' hy
  · have key : ∀ (j : Nat) r y, j ≠ G0.length → rs[j]? = some r → r.1 = some y → ∀ y', a' = some y' → y.block ≠ y'.block := by
      intro j r y e hr' hy y' hy' q
      have hj : j < rs.length := (List.getElem?_eq_some_iff.1 hr').1
      have hj2 : j < (G0 ++ [g]).length := by rw [← h.len]; exact hj
      have p := ownBlock_some (h.row j r _ hr' (List.getElem?_eq_getElem hj2)) hy
      rcases hob with z | z
      · rw [hy'] at z
        cases hz : ra with
        | none => rw [hz] at z; cases z
        | some zz =>
          rw [hz] at z
          have e2 : y'.block = zz.block := by simpa [Value.ownBlock] using z
          exact h.apart j G0.length r _ y zz e hr' hr hy hz (by rw [q, e2])
      · rw [hy'] at z
        simp [Value.ownBlock] at z
        omega
    by_cases e : j = G0.length
    · subst e
      rw [List.getElem?_set_self hk] at hr1
      cases hr1
      rw [List.getElem?_set_ne (fun q => hjk q)] at hr2
      exact fun q => key k r' y' (fun q => hjk q.symm) hr2 hy' y hy q.symm
    · rw [List.getElem?_set_ne (fun q => e q.symm)] at hr1
      by_cases e' : k = G0.length
      · subst e'
        rw [List.getElem?_set_self hk] at hr2
        cases hr2
        exact key j r y e hr1 hy y' hy'
      · rw [List.getElem?_set_ne (fun q => e' q.symm)] at hr2
        exact h.apart j k r r' y y' hjk hr1 hr2 hy hy'
  · refine ((kA.mono (fun _ _ z => z.elim)).trans (kg.mono (fun j _ hj => (World.ownsRow.lt hrow j hj).1))).trans (kz.mono (fun j _ hj => by omega))
end Go.Proofs.YtlmpkonfclnceaaGreat
