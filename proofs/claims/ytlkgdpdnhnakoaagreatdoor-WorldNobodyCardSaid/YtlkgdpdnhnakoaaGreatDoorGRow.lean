/- GRow: Row, SdF. -/
import Derived.Test.YtlkgdpdnhnakoaaGreatDoorEl
import Derived.Test.YtlkgdpdnhnakoaaGreatDoorGSecA
namespace Go.Proofs.YtlkgdpdnhnakoaaGreatDoor
open Go.RowKit Go.Sort
def rowE : Enc (Option Addr × Nat × Nat) := ⟨1, fun r => [.slice r.1 r.2.1 r.2.2], fun _ => rfl, by decide, fun x v hv => by simp at hv; subst hv; rfl⟩
/-- A slice of bytes. -/
structure RowOK (w : World) (r : Option Addr × Nat × Nat) (b : List Nat) : Prop where
  len : r.2.1 = b.length
  cap : r.2.1 ≤ r.2.2
  at_ : NatsAt w .u8 r.1 b
/-- Slices of bytes, in a slice. -/
def RowsAt (w : World) (a : Option Addr) (bs : List (List Nat)) : Prop := ∃ rs, ElsAt rowE w a rs ∧ rs.length = bs.length ∧ ∀ (i : Nat) r b, rs[i]? = some r → bs[i]? = some b → RowOK w r b
/-- Slices of bytes, in a slice of one's own; none of them lies in that. -/
def RowsOwn (w : World) (base : Nat) (v : Value) (bs : List (List Nat)) : Prop := ∃ rs, OwnE rowE w base 56 v rs ∧ rs.length = bs.length ∧ ∀ (i : Nat) r b, rs[i]? = some r → bs[i]? = some b → RowOK w r b ∧ ∀ y, r.1 = some y → base ≤ y.block ∧ y.block < w.heap.size ∧ v.ownBlock ≠ some y.block
theorem RowOK.same {w w' : World} {r : Option Addr × Nat × Nat} {b : List Nat} (h : RowOK w r b) (k : Same w w') : RowOK w' r b := ⟨h.len, h.cap, h.at_.same k⟩
theorem RowsOwn.nil (w : World) (base : Nat) : RowsOwn w base (.slice none 0 0) [] := ⟨[], OwnE.nil w base _, rfl, fun i r b h => by simp at h⟩
theorem RowsOwn.same {w w' : World} {base : Nat} {v : Value} {bs : List (List Nat)} (h : RowsOwn w base v bs) (k : Same w w') : RowsOwn w' base v bs := by
  obtain ⟨rs, h1, h2, h3⟩ := h
  refine ⟨rs, h1.same k, h2, fun i r b hr hb => ?_⟩
  obtain ⟨p, q⟩ := h3 i r b hr hb
  exact ⟨p.same k, fun y hy => ⟨(q y hy).1, Nat.lt_of_lt_of_le (q y hy).2.1 k.size, (q y hy).2.2⟩⟩
theorem RowsAt.kept {w w' : World} {fp : Nat → Prop} {a : Option Addr} {bs : List (List Nat)} (h : RowsAt w a bs) (k : Kept fp w w') (base : Nat) (hf : ∀ y, a = some y → base ≤ y.block)
    (hg : ∀ rs, ElsAt rowE w a rs → ∀ r ∈ rs, ∀ y, r.1 = some y → base ≤ y.block) (hn : ∀ j, base ≤ j → ¬ fp j) : RowsAt w' a bs := by
  obtain ⟨rs, h1, h2, h3⟩ := h
  refine ⟨rs, h1.kept k (fun y hy => hn _ (hf y hy)), h2, fun i r b hr hb => ?_⟩
  have p := h3 i r b hr hb
  exact ⟨p.len, p.cap, p.at_.kept k (fun y hy => hn _ (hg rs h1 r (List.mem_of_getElem? hr) y hy))⟩
theorem rowInfo : (Tryz.prog.info? 56).map (fun i => (i.zero, i.size, i.bytes)) = some (some (.slice none 0 0), 1, 24) := by kernel_rfl
/-- One row more. -/
theorem rows_append {w : World} {base : Nat} {v : Value} {bs : List (List Nat)} (h : RowsOwn w base v bs) (hb : base ≤ w.heap.size) (hl : bs.length ≤ 100000) (g n c : Nat) (b : List Nat) (hn : n = b.length) (hc : n ≤ c) (hg : base ≤ g) (hgl : g < w.heap.size) (hv : v.ownBlock ≠ some g) (hat : NatsAt w .u8 (some ⟨g, 0, none⟩) b) :
    ∃ v' w', (Builtin.append_ #[227, 227] 227 #[v, .slice (some ⟨w.heap.size, 0, none⟩) 1 1]).run Tryz.prog (w.alloc (.cells #[.slice (some ⟨g, 0, none⟩) n c] 56)) = .ok v' w' ∧ RowsOwn w' base v' (bs ++ [b]) ∧ Kept (fun j => base ≤ j) w w' := by
  obtain ⟨rs, h1, h2, h3⟩ := h
  have kA : Same w (w.alloc (.cells #[.slice (some ⟨g, 0, none⟩) n c] 56)) := (Kept.refl _ w).alloc _
  have hone : ElsAt rowE (w.alloc (.cells #[.slice (some ⟨g, 0, none⟩) n c] 56)) (some ⟨w.heap.size, 0, none⟩) [(some ⟨g, 0, none⟩, n, c)] := elsAt_one (E := rowE) (x := (some ⟨g, 0, none⟩, n, c)) (Blk.new w _ _) rfl
  obtain ⟨v', w', hrun, ho, hgr, hob⟩ := run_appendE (P := Tryz.prog) (w.alloc (.cells #[.slice (some ⟨g, 0, none⟩) n c] 56)) 227 227 base 56 (.slice none 0 0) 24 rowE Tryz.underlying227 rowInfo rfl v rs (h1.same kA) (some ⟨w.heap.size, 0, none⟩) 1 1 [(some ⟨g, 0, none⟩, n, c)] rfl hone (fun h => by cases h) (by rw [h2]; unfold maxLen; simp; omega) (by rw [h2]; simp; omega) (Nat.le_trans hb kA.size)
  have kg : Kept (fun j => v.ownBlock = some j) (w.alloc (.cells #[.slice (some ⟨g, 0, none⟩) n c] 56)) w' := (Kept.refl _ _).grown hgr (fun k hk _ => hk)
  have hob' : ∀ j, j < w.heap.size → v.ownBlock ≠ some j → v'.ownBlock ≠ some j := by
    intro j hj hne q
    rcases hob with e | e
    · exact hne (e ▸ q)
    · rw [e] at q
      simp at q
      omega
  have hsz : w.heap.size < w'.heap.size := Nat.lt_of_lt_of_le (by simp) kg.size
  refine ⟨v', w', hrun, ⟨rs ++ [(some ⟨g, 0, none⟩, n, c)], ho, by simp [h2], fun i r x hr hx => ?_⟩, ?_⟩
  · by_cases hi : i < bs.length
    · rw [List.getElem?_append_left (by omega)] at hr
      rw [List.getElem?_append_left hi] at hx
      obtain ⟨p, q⟩ := h3 i r x hr hx
      refine ⟨⟨p.len, p.cap, (p.at_.same kA).kept kg (fun y hy => ?_)⟩, fun y hy => ⟨(q y hy).1, by have := (q y hy).2.1; omega, hob' _ (q y hy).2.1 (q y hy).2.2⟩⟩
      exact (q y hy).2.2
    · rw [List.getElem?_append_right (by omega)] at hr
      rw [List.getElem?_append_right (by omega)] at hx
      have e : i = bs.length := by
        rcases Nat.lt_or_ge (i - bs.length) 1 with z | z
        · omega
        · rw [List.getElem?_eq_none (by simpa using z)] at hx; cases hx
      subst e
      rw [h2] at hr
      simp at hr hx
      subst hr hx
      exact ⟨⟨hn, hc, (hat.same kA).kept kg (fun y hy => by cases hy; exact hv)⟩, fun y hy => by cases hy; exact ⟨hg, by dsimp only; omega, hob' _ hgl hv⟩⟩
  · refine (kA.mono (fun _ _ z => z.elim)).trans (kg.mono (fun j _ hj => ?_))
    exact (World.ownsRow.lt h1 j hj).1
/-- One row more, wherever it lies; also none. -/
theorem rows_appendA {w : World} {base : Nat} {v : Value} {bs : List (List Nat)} (h : RowsOwn w base v bs) (hb : base ≤ w.heap.size) (hl : bs.length ≤ 100000) (a : Option Addr) (n c : Nat) (b : List Nat) (hn : n = b.length) (hc : n ≤ c) (hg : ∀ y, a = some y → base ≤ y.block ∧ y.block < w.heap.size ∧ v.ownBlock ≠ some y.block) (hat : NatsAt w .u8 a b) :
    ∃ v' w', (Builtin.append_ #[227, 227] 227 #[v, .slice (some ⟨w.heap.size, 0, none⟩) 1 1]).run Tryz.prog (w.alloc (.cells #[.slice a n c] 56)) = .ok v' w' ∧ RowsOwn w' base v' (bs ++ [b]) ∧ Kept (fun j => base ≤ j) w w' := by
  obtain ⟨rs, h1, h2, h3⟩ := h
  have kA : Same w (w.alloc (.cells #[.slice a n c] 56)) := (Kept.refl _ w).alloc _
  have hone : ElsAt rowE (w.alloc (.cells #[.slice a n c] 56)) (some ⟨w.heap.size, 0, none⟩) [(a, n, c)] := elsAt_one (E := rowE) (x := (a, n, c)) (Blk.new w _ _) rfl
  obtain ⟨v', w', hrun, ho, hgr, hob⟩ := run_appendE (P := Tryz.prog) (w.alloc (.cells #[.slice a n c] 56)) 227 227 base 56 (.slice none 0 0) 24 rowE Tryz.underlying227 rowInfo rfl v rs (h1.same kA) (some ⟨w.heap.size, 0, none⟩) 1 1 [(a, n, c)] rfl hone (fun h => by cases h) (by rw [h2]; unfold maxLen; simp; omega) (by rw [h2]; simp; omega) (Nat.le_trans hb kA.size)
  have kg : Kept (fun j => v.ownBlock = some j) (w.alloc (.cells #[.slice a n c] 56)) w' := (Kept.refl _ _).grown hgr (fun k hk _ => hk)
  have hob' : ∀ j, j < w.heap.size → v.ownBlock ≠ some j → v'.ownBlock ≠ some j := by
    intro j hj hne q
    rcases hob with e | e
    · exact hne (e ▸ q)
    · rw [e] at q
      simp at q
      omega
  have hsz : w.heap.size < w'.heap.size := Nat.lt_of_lt_of_le (by simp) kg.size
  refine ⟨v', w', hrun, ⟨rs ++ [(a, n, c)], ho, by simp [h2], fun i r x hr hx => ?_⟩, ?_⟩
  · by_cases hi : i < bs.length
    · rw [List.getElem?_append_left (by omega)] at hr
      rw [List.getElem?_append_left hi] at hx
      obtain ⟨p, q⟩ := h3 i r x hr hx
      refine ⟨⟨p.len, p.cap, (p.at_.same kA).kept kg (fun y hy => ?_)⟩, fun y hy => ⟨(q y hy).1, by have := (q y hy).2.1; omega, hob' _ (q y hy).2.1 (q y hy).2.2⟩⟩
      exact (q y hy).2.2
    · rw [List.getElem?_append_right (by omega)] at hr
      rw [List.getElem?_append_right (by omega)] at hx
      have e : i = bs.length := by
        rcases Nat.lt_or_ge (i - bs.length) 1 with z | z
        · omega
        · rw [List.getElem?_eq_none (by simpa using z)] at hx; cases hx
      subst e
      rw [h2] at hr
      simp at hr hx
      subst hr hx
      exact ⟨⟨hn, hc, (hat.same kA).kept kg (fun y hy => (hg y hy).2.2)⟩, fun y hy => ⟨(hg y hy).1, by have := (hg y hy).2.1; omega, hob' _ (hg y hy).2.1 (hg y hy).2.2⟩⟩
  · refine (kA.mono (fun _ _ z => z.elim)).trans (kg.mono (fun j _ hj => ?_))
    exact (World.ownsRow.lt h1 j hj).1
theorem RowsOwn.kept {fp : Nat → Prop} {w w' : World} {base : Nat} {v : Value} {bs : List (List Nat)} (h : RowsOwn w base v bs) (k : Kept fp w w') (hn : ∀ j, base ≤ j → ¬ fp j) : RowsOwn w' base v bs := by
  obtain ⟨rs, h1, h2, h3⟩ := h
  refine ⟨rs, h1.kept k (fun g hg => hn _ (h1.far g hg).1), h2, fun i r b hr hb => ?_⟩
  obtain ⟨p, q⟩ := h3 i r b hr hb
  exact ⟨⟨p.len, p.cap, p.at_.kept k (fun y hy => hn _ (q y hy).1)⟩, fun y hy => ⟨(q y hy).1, Nat.lt_of_lt_of_le (q y hy).2.1 k.size, (q y hy).2.2⟩⟩
theorem RowsOwn.len {w : World} {base : Nat} {v : Value} {bs : List (List Nat)} (h : RowsOwn w base v bs) : ∃ a c, v = .slice a bs.length c ∧ bs.length ≤ c := by
  obtain ⟨rs, h1, h2, h3⟩ := h
  obtain ⟨a, l, c, rfl, hl, -, -, hc⟩ := h1.rd
  have := hl.out
  exact ⟨a, c, by rw [this, h2], by have := hc.out.1; omega⟩
end Go.Proofs.YtlkgdpdnhnakoaaGreatDoor
namespace Go.Proofs.YtlkgdpdnhnakoaaGreatDoor
open Go.RowKit
set_option maxRecDepth 100000 in
set_option maxHeartbeats 800000 in
theorem sd_readF {w : World} {d bs cap m : Nat} {D : Dsk} (h : DiskIn w d bs cap m D) (n : Int) :
    Calls Tryz.prog 195 #[.pointer (some ⟨d, 0, none⟩), .int .i64 n] w fun e w' =>
      ∃ a c, e = .returned (.tuple #[.slice a (readD D n).1.length c, .int .i64 ((readD D n).2 : Nat)]) ∧ NatsAt w' .u8 a (readD D n).1 ∧ (a = none → (readD D n).1 = [] ∧ c = 0) ∧ (∀ y, a = some y → y = ⟨w.heap.size, 0, none⟩ ∧ c = 256 ∧ w.heap.size < w'.heap.size) ∧ Same w w' := by
  have hA := Lib.hid (sd_at h n)
  have p0 := h.ptr
  simp only [cellsD] at p0
  have H := Lib.hid h
  obtain ⟨E, hE⟩ : ∃ E, errD D n = E := ⟨_, rfl⟩
  rw [hE] at hA
  have HE := Lib.hid hE
  clear h hE
  by_cases h0 : E = 0
  · subst h0
    obtain ⟨ho, hn0, hn1⟩ := errD_zero HE.out
    obtain ⟨N, hN⟩ : ∃ N : Nat, n = (N : Int) := ⟨n.toNat, by omega⟩
    subst hN
    have hN : N < D.s.length := by omega
    obtain ⟨x, hx⟩ : ∃ x, D.s[N]? = some x := ⟨_, List.getElem?_eq_getElem hN⟩
    have hxd : D.s.getD N sec0 = x := by rw [List.getD_eq_getElem?_getD, hx]; rfl
    have xok := H.out.ok.secs x (List.mem_of_getElem? hx)
    have er : readD D (N : Nat) = (x.has, 0) := by unfold readD; rw [if_pos HE.out, Int.toNat_natCast, hxd]
    have wf := waitF_at hx
    go_enter Tryz.func195, Tryz.ntmps195
    go_wp2_with fail
    refine hA.out.mono ?_
    rintro e W' ⟨rfl, rfl⟩
    clear hA
    cases hw : x.waits
    · rw [hw] at wf
      have l1 : (waitF D.s N).getD (.agg (secC zeros)) = .agg (secC zeros) := by rw [wf]; rfl
      have l2 : (waitF D.s N).isSome = false := by rw [wf]; rfl
      have hlk := H.out.map.look (P := Tryz.prog) Tryz.underlying86 Tryz.underlying3 N (zero_sec W') true
      rw [l1, l2, if_pos rfl] at hlk
      have hst := put_new W' (secC_size zeros_len) (secC_one _)
      have hld := run_loadAt_mid (P := Tryz.prog) (W'.alloc (.cells (secC zeros) 161)) bs (N * 256) 161 (encB x.safe) _ (World.rangeAt_alloc (H.out.safe.at_ N x hx) _) Tryz.underlying161 rfl (by rw [encB_len, xok.safeL]; kernel_rfl)
      have p1 := cell_blk (H.out.box.alloc (.cells (secC zeros) 161))
      simp only [cellsD] at p1
      have hst2 := put_new2 W' (C := secC zeros) (secC_size xok.safeL) (secC_size zeros_len) (secC_one _)
      have XO := Lib.hid xok; have ER := Lib.hid er; have XS := Lib.hid (xok.still hw)
      clear hx hxd l1 l2 wf xok er hw
      rw [show (encB x.safe).toArray = secC x.safe from rfl] at hld
      generalize hc1 : secC zeros = C1 at *
      generalize hc2 : secC x.safe = C2 at *
      have HC2 := Lib.hid hc2
      clear hc1 hc2
      go_wp2_with (first | (with_reducible refine wpList_storeRun hst rfl _ _ rfl rfl rfl ?_) | (with_reducible refine wpList_storeRun hst2 rfl _ _ rfl rfl rfl ?_) | (with_reducible refine wpList_loadRun hld rfl _ rfl rfl ?_))
      go_ret2
      rw [ER.out, XS.out]
      have e := HC2.out
      subst e
      exact ⟨some ⟨W'.heap.size, 0, none⟩, 256, by simp [XO.out.safeL], nats_new, (fun q => by cases q), (fun y q => by cases q; exact ⟨rfl, rfl, by simp⟩), (Kept.refl _ W').alloc _⟩
    · rw [hw] at wf
      have l1 : (waitF D.s N).getD (.agg (secC zeros)) = .agg (secC x.has) := by rw [wf]; rfl
      have l2 : (waitF D.s N).isSome = true := by rw [wf]; rfl
      have hlk := H.out.map.look (P := Tryz.prog) Tryz.underlying86 Tryz.underlying3 N (zero_sec W') true
      rw [l1, l2, if_pos rfl] at hlk
      have hst := put_new W' (secC_size xok.hasL) (secC_one _)
      have XO := Lib.hid xok; have ER := Lib.hid er
      clear hx hxd l1 l2 wf xok er hw
      generalize hc2 : secC x.has = C2 at *
      have HC2 := Lib.hid hc2
      clear hc2
      go_wp2_with (with_reducible refine wpList_storeRun hst rfl _ _ rfl rfl rfl ?_)
      go_ret2
      rw [ER.out]
      have e := HC2.out
      subst e
      exact ⟨some ⟨W'.heap.size, 0, none⟩, 256, by simp [XO.out.hasL], nats_new, (fun q => by cases q), (fun y q => by cases q; exact ⟨rfl, rfl, by simp⟩), (Kept.refl _ W').alloc _⟩
  · have er : readD D n = ([], E) := by unfold readD; rw [if_neg (by rw [HE.out]; exact h0), HE.out]
    have h0' : ¬ (E : Int) = 0 := by omega
    go_enter Tryz.func195, Tryz.ntmps195
    go_wp2_with fail
    refine hA.out.mono ?_
    rintro e W' ⟨rfl, rfl⟩
    clear hA
    go_wp2_with fail
    go_ret2
    rw [er]
    exact ⟨none, 0, rfl, .inl rfl, fun _ => ⟨rfl, rfl⟩, (fun y q => by cases q), Kept.refl _ _⟩
end Go.Proofs.YtlkgdpdnhnakoaaGreatDoor
