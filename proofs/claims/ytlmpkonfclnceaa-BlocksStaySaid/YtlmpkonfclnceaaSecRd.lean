/- What the readings of acts, bytes and marks say of cells. -/
import Derived.Test.YtlmpkonfclnceaaSafeP
import Derived.Test.YtlmpkonfclnceaaRead
import Derived.Lib.SmallJoins
namespace Go.Proofs.Ytlmpkonfclnceaa
open Go.ChangeShapes Go.WideShapes Go.ChangeAt Go.RowKit

section
variable {H : Type} {enc : TypeId × Value → H} {P : Program} {w : World} {base : Nat} {spare : Nat → Bool} {held : Bool}
/-- A slice of whole numbers, of whatever kind. -/
theorem nats_read {t e : TypeId} {k : IntKind} {fuel : Nat} {v : Value} {x : DataW H × List MemPlace} (B : Int) (ht : P.underlying t = some (.slice e)) (he : P.underlying e = some (.int k)) (hC : P.cellsOf e = 1)
    (hB : ∀ n, (Lit.int k n).wf = true → 0 ≤ n ∧ n ≤ B) (h : DataW.trod enc P w base spare held fuel t [v] = some x) :
    ∃ (a : Option Addr) (cap : Nat) (xs : List Nat), v = .slice a xs.length cap ∧ NatsAt w k a xs ∧ (∀ y ∈ xs, (y : Int) ≤ B) ∧ xs.length ≤ cap ∧ cap ≤ maxLen ∧ (a = none → xs = [] ∧ cap = 0) := by
  have form : ∃ a len cap, v = .slice a len cap := by
    rcases Deep.open_slice ht h with ⟨hcs, _⟩ | ⟨x, l, c, m, n, D, Pl, hcs, _⟩
    · simp at hcs; exact ⟨_, _, _, hcs⟩
    · simp at hcs; exact ⟨_, _, _, hcs⟩
  obtain ⟨a, len, cap, rfl⟩ := form
  obtain ⟨h1, h2, h3, h4⟩ := slice_read (C := 1) ht hC (by decide) h
  rcases Nat.eq_zero_or_pos len with rfl | hpos
  · exact ⟨a, cap, [], rfl, .inl rfl, by simp, h1, h2, fun h => ⟨rfl, (h3 h).2⟩⟩
  · obtain ⟨b, off, rfl, hb, each⟩ := h4.resolve_left (by omega)
    have num : ∀ i, i < len → ∃ n : Nat, w.cell? ⟨b, off + i, none⟩ = some (.int k ((n : Nat) : Int)) ∧ (n : Int) ≤ B := by
      intro i hi
      obtain ⟨n, cs, y, hl, hat, ht'⟩ := each i hi
      obtain ⟨z, rfl, _, hw⟩ := DataW.trod_int he ht'
      have hz := hB z hw
      have := hat 0 (by decide)
      refine ⟨z.toNat, ?_, by omega⟩
      rw [show ((z.toNat : Nat) : Int) = z from by omega]
      simpa using this
    let f : Nat → Nat := fun i => if hi : i < len then (num i hi).choose else 0
    have hf : ∀ i, i < len → w.cell? ⟨b, off + i, none⟩ = some (.int k ((f i : Nat) : Int)) ∧ (f i : Int) ≤ B := by
      intro i hi
      have := (num i hi).choose_spec
      simp only [f, hi, dif_pos]
      exact this
    refine ⟨some ⟨b, off, none⟩, cap, (List.range len).map f, by simp, .inr ⟨b, off, rfl, hb, fun i x hx => ?_⟩, ?_, by simpa using h1, h2, fun h => by simp at h⟩
    · simp only [List.getElem?_map, Option.map_eq_some_iff] at hx
      obtain ⟨j, hj, rfl⟩ := hx
      have hi : i < len := by
        rcases Nat.lt_or_ge i len with h | h
        · exact h
        · rw [List.getElem?_eq_none (by simpa using h)] at hj; simp at hj
      rw [List.getElem?_range hi] at hj
      obtain rfl := Option.some.inj hj
      exact (hf i hi).1
    · intro y hy
      obtain ⟨i, hi, rfl⟩ := List.mem_map.1 hy
      exact (hf i (by simpa using hi)).2
end

/-- An act, in a block. -/
structure ActAt (W : World) (b o : Nat) (k : Nat) (n : Int) (c u : Nat) (dn : Bool) (fa : Option Addr) (fl fc : Nat) (fs : List Nat) : Prop where
  c0 : W.cell? ⟨b, o, none⟩ = some (.int .u8 (k : Nat))
  c1 : W.cell? ⟨b, o + 1, none⟩ = some (.int .i64 n)
  c2 : W.cell? ⟨b, o + 2, none⟩ = some (.int .u8 (c : Nat))
  c3 : W.cell? ⟨b, o + 3, none⟩ = some (.int .u8 (u : Nat))
  c4 : W.cell? ⟨b, o + 4, none⟩ = some (.bool dn)
  c5 : W.cell? ⟨b, o + 5, none⟩ = some (.slice fa fl fc)
  kb : k < 256
  nb : -9223372036854775808 ≤ n ∧ n ≤ 9223372036854775807
  cb : c < 256
  ub : u < 256
  fl_ : fl = fs.length
  fc_ : fl ≤ fc
  fb : Bts fs
  at_ : NatsAt W .u8 fa fs
/-- Acts, side by side. -/
def ActsAt (W : World) (b o len : Nat) : Prop := ∀ i, i < len → ∃ k n c u dn fa fl fc fs, ActAt W b (o + i * 6) k n c u dn fa fl fc fs

section
variable {H : Type} {enc : TypeId × Value → H} {W : World} {base : Nat} {v : Value} {d : DataW H} {p : List MemPlace}
set_option maxRecDepth 100000 in
theorem bts_read (h : DataW.Trod enc Try.prog W 0 (fun _ => true) true 24 v d p) :
    (∀ a len cap, v = .slice a len cap → ∃ xs : List Nat, len = xs.length ∧ Bts xs ∧ NatsAt W .u8 a xs ∧ len ≤ cap ∧ (a = none → xs = [])) := by
  rintro a len cap rfl
  obtain ⟨fuel, hf⟩ := h
  obtain ⟨a', cap', xs, e, hat, hB, hl, hm, hn⟩ := nats_read 255 Try.underlying24 Try.underlying5 (by kernel_rfl) (fun n h => bounds_u8 h) hf
  simp only [Value.slice.injEq] at e
  obtain ⟨rfl, rfl, rfl⟩ := e
  refine ⟨xs, rfl, fun x hx => ?_, hat, hl, fun h => (hn h).1⟩
  have := hB x hx
  omega
set_option maxRecDepth 100000 in
theorem u8_rd (h : DataW.Trod enc Try.prog W 0 (fun _ => true) true 5 v d p) (hv : Value.okWide Try.prog W .any base 5 v) :
    ∃ n : Nat, v = .int .u8 ((n : Nat) : Int) ∧ n < 256 := by
  obtain ⟨n, rfl, _, _, hw⟩ := open_int Try.underlying5 hv h
  have := bounds_u8 hw
  exact ⟨n.toNat, by rw [show ((n.toNat : Nat) : Int) = n from by omega], by omega⟩
set_option maxRecDepth 100000 in
theorem int_rd (h : DataW.Trod enc Try.prog W 0 (fun _ => true) true 3 v d p) (hv : Value.okWide Try.prog W .any base 3 v) :
    ∃ n : Int, v = .int .i64 n ∧ -9223372036854775808 ≤ n ∧ n ≤ 9223372036854775807 := by
  obtain ⟨n, rfl, _, _, hw⟩ := open_int Try.underlying3 hv h
  exact ⟨n, rfl, (bounds_i64 hw).1, (bounds_i64 hw).2⟩
set_option maxRecDepth 100000 in
theorem act_rd {base : Nat} {spare : Nat → Bool} {held : Bool} {n : Nat} {cs : List Value} {x : DataW H × List MemPlace}
    (h : DataW.trod enc Try.prog W base spare held n 34 cs = some x) :
    ∃ (k : Nat) (y : Int) (c u : Nat) (dn : Bool) (fa : Option Addr) (fl fc : Nat) (fs : List Nat), cs = [.int .u8 (k : Nat), .int .i64 y, .int .u8 (c : Nat), .int .u8 (u : Nat), .bool dn, .slice fa fl fc] ∧ k < 256 ∧ (-9223372036854775808 ≤ y ∧ y ≤ 9223372036854775807) ∧ c < 256 ∧ u < 256 ∧ fl = fs.length ∧ fl ≤ fc ∧ Bts fs ∧ NatsAt W .u8 fa fs := by
  obtain ⟨xs, m, rfl, rfl, hlen, hxs, hf⟩ := DataW.trod_struct Try.underlying34 h
  rw [show Try.prog.cellsOf 34 = 6 by kernel_rfl] at hlen
  match cs, hlen with
  | [c0, c1, c2, c3, c4, c5], _ =>
    have h0 := hf 0 _ rfl
    have h1 := hf 1 _ rfl
    have h2 := hf 2 _ rfl
    have h3 := hf 3 _ rfl
    have h4 := hf 4 _ rfl
    have h5 := hf 5 _ rfl
    match xs, hxs with
    | [x0, x1, x2, x3, x4, x5], _ =>
      obtain ⟨k, e0, _, wf0⟩ := DataW.trod_int (cs := [c0]) Try.underlying5 h0
      obtain ⟨y, e1, _, wf1⟩ := DataW.trod_int (cs := [c1]) Try.underlying3 h1
      obtain ⟨c, e2, _, wf2⟩ := DataW.trod_int (cs := [c2]) Try.underlying5 h2
      obtain ⟨u, e3, _, wf3⟩ := DataW.trod_int (cs := [c3]) Try.underlying5 h3
      obtain ⟨dn, e4, _⟩ := DataW.trod_bool (cs := [c4]) Try.underlying4 h4
      obtain ⟨fa, fc, fs, e5, hat, hB, hl, hm, _⟩ := nats_read 255 Try.underlying24 Try.underlying5 (by kernel_rfl) (fun n h => bounds_u8 h) (v := c5) h5
      simp at e0 e1 e2 e3 e4
      subst e0 e1 e2 e3 e4 e5
      have b0 := bounds_u8 wf0
      have b1 := bounds_i64 wf1
      have b2 := bounds_u8 wf2
      have b3 := bounds_u8 wf3
      refine ⟨k.toNat, y, c.toNat, u.toNat, dn, fa, _, fc, fs, ?_, by omega, b1, by omega, by omega, rfl, hl, fun z hz => by have := hB z hz; omega, hat⟩
      rw [show ((k.toNat : Nat) : Int) = k from by omega, show ((c.toNat : Nat) : Int) = c from by omega, show ((u.toNat : Nat) : Int) = u from by omega]
set_option maxRecDepth 100000 in
theorem acts_rd (h : DataW.Trod enc Try.prog W 0 (fun _ => true) true 22 v d p) (hv : Value.okWide Try.prog W .any base 22 v) :
    ∃ a len cap, v = .slice a len cap ∧ (len = 0 ∨ ∃ b off, a = some ⟨b, off, none⟩ ∧ b < W.heap.size ∧ ActsAt W b off len) := by
  obtain ⟨a, len, cap, rfl⟩ := okWide_slice Try.underlying22 hv
  refine ⟨a, len, cap, rfl, ?_⟩
  obtain ⟨fuel, hf⟩ := h
  obtain ⟨_, _, _, h | ⟨b, off, rfl, hb, each⟩⟩ := slice_read Try.underlying22 (C := 6) (by kernel_rfl) (by decide) hf
  · exact .inl h
  · refine .inr ⟨b, off, rfl, hb, fun i hlt => ?_⟩
    obtain ⟨n, cs, y, _, hat, ht⟩ := each i hlt
    obtain ⟨k, y, c, u, dn, fa, fl, fc, fs, rfl, b0, b1, b2, b3, e1, e2, e3, e4⟩ := act_rd ht
    exact ⟨k, y, c, u, dn, fa, fl, fc, fs, ⟨hat 0 (by decide), hat 1 (by decide), hat 2 (by decide), hat 3 (by decide), hat 4 (by decide), hat 5 (by decide), b0, b1, b2, b3, e1, e2, e3, e4⟩⟩
set_option maxRecDepth 100000 in
theorem marks_rd (h : DataW.Trod enc Try.prog W 0 (fun _ => true) true 23 v d p) (hv : Value.okWide Try.prog W .any base 23 v) :
    ∃ ms : List Nat, v = .agg (encB ms).toArray ∧ ms.length = 9 ∧ Bts ms := by
  obtain ⟨cs, rfl, hsz⟩ : ∃ cs, v = .agg cs ∧ cs.size = Try.prog.cellsOf 23 := by
    simp only [Value.okWide, Try.underlying23] at hv
    obtain ⟨cs, h1, h2, _⟩ := hv
    exact ⟨cs, h1, h2⟩
  have h9 : cs.size = 9 := by rw [hsz]; kernel_rfl
  obtain ⟨fuel, hf⟩ := h
  obtain ⟨xs, m, rfl, e, hl, hxs, hi⟩ := DataW.trod_array (cs := cs.toList) Try.underlying23 hf
  have h1 : Try.prog.cellsOf 5 = 1 := by kernel_rfl
  have each : ∀ i, i < 9 → ∃ n : Nat, cs.toList[i]? = some (.int .u8 (n : Nat)) ∧ n < 256 := by
    intro i hi9
    have h2 := hi i hi9
    rw [h1, Nat.mul_one, List.getElem?_eq_getElem (by rw [hxs]; exact hi9)] at h2
    obtain ⟨z, e2, _, wf⟩ := DataW.trod_int Try.underlying5 h2
    have b := bounds_u8 wf
    refine ⟨z.toNat, ?_, by omega⟩
    have : ((cs.toList.drop i).take 1)[0]? = some (.int .u8 z) := by rw [e2]; rfl
    rw [List.getElem?_take, if_pos (by decide), List.getElem?_drop, Nat.add_zero] at this
    rw [this, show ((z.toNat : Nat) : Int) = z from by omega]
  let f : Nat → Nat := fun i => if hi : i < 9 then (each i hi).choose else 0
  have hf2 : ∀ i, i < 9 → cs.toList[i]? = some (.int .u8 (f i : Nat)) ∧ f i < 256 := by
    intro i hi9
    have := (each i hi9).choose_spec
    simp only [f, hi9, dif_pos]
    exact this
  refine ⟨(List.range 9).map f, ?_, by simp, fun x hx => ?_⟩
  · have : cs.toList = encB ((List.range 9).map f) := by
      apply List.ext_getElem?
      intro i
      by_cases hi9 : i < 9
      · rw [(hf2 i hi9).1]
        unfold encB
        rw [List.map_map, List.getElem?_map, List.getElem?_range hi9]
        rfl
      · rw [List.getElem?_eq_none (by simp [h9]; omega), List.getElem?_eq_none (by simp [encB]; omega)]
    rw [← this]
  · obtain ⟨i, hi9, rfl⟩ := List.mem_map.1 hx
    exact (hf2 i (by simpa using hi9)).2
theorem ActAt.same {w w' : World} {b o k : Nat} {n : Int} {c u : Nat} {dn : Bool} {fa : Option Addr} {fl fc : Nat} {fs : List Nat} (h : ActAt w b o k n c u dn fa fl fc fs) (q : Same w w') (hb : b < w.heap.size) : ActAt w' b o k n c u dn fa fl fc fs := by
  have e : ∀ j, w'.cell? ⟨b, j, none⟩ = w.cell? ⟨b, j, none⟩ := fun j => q.cell (p := ⟨b, j, none⟩) hb (fun h => h)
  exact ⟨by rw [e]; exact h.c0, by rw [e]; exact h.c1, by rw [e]; exact h.c2, by rw [e]; exact h.c3, by rw [e]; exact h.c4, by rw [e]; exact h.c5, h.kb, h.nb, h.cb, h.ub, h.fl_, h.fc_, h.fb, h.at_.same q⟩
end
end Go.Proofs.Ytlmpkonfclnceaa
