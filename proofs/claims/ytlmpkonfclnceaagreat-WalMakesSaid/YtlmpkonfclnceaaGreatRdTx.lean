/- What the readings of a slice of strings say of cells. -/
import Derived.Test.YtlmpkonfclnceaaGreatRoomP
import Derived.Test.YtlmpkonfclnceaaGreatRead
namespace Go.Proofs.YtlmpkonfclnceaaGreat
open Go.ChangeShapes Go.WideShapes Go.ChangeAt Go.RowKit

def natsOf (s : ByteArray) : List Nat := s.data.toList.map UInt8.toNat
theorem strN_of (s : ByteArray) : strN (natsOf s) = s := by
  unfold strN natsOf
  rw [List.map_map, show UInt8.ofNat ∘ UInt8.toNat = id from funext fun x => by simp]
  simp
theorem natsOf_bts (s : ByteArray) : Bts (natsOf s) := by
  intro x hx
  obtain ⟨y, _, rfl⟩ := List.mem_map.1 hx
  exact y.toNat_lt
section
variable {H : Type} {enc : TypeId × Value → H} {P : Program} {w : World} {base : Nat} {spare : Nat → Bool} {held : Bool}
/-- A slice of whole numbers, of whatever kind. -/
theorem nats_read10 {t e : TypeId} {k : IntKind} {fuel : Nat} {v : Value} {x : DataW H × List MemPlace} (B : Int) (ht : P.underlying t = some (.slice e)) (he : P.underlying e = some (.int k)) (hC : P.cellsOf e = 1)
    (hB : ∀ n, (Lit.int k n).wf = true → 0 ≤ n ∧ n ≤ B) (h : DataW.trod enc P w base spare held fuel t [v] = some x) :
    ∃ (a : Option Addr) (cap : Nat) (xs : List Nat), v = .slice a xs.length cap ∧ NatsAt w k a xs ∧ (∀ y ∈ xs, (y : Int) ≤ B) ∧ xs.length ≤ cap ∧ cap ≤ maxLen ∧ (a = none → xs = [] ∧ cap = 0) := by
  have form : ∃ a len cap, v = .slice a len cap := by
    rcases Deep.open_slice ht h with ⟨hcs, _⟩ | ⟨x, l, c, m, n, D, Pl, hcs, _⟩
    · simp at hcs; exact ⟨_, _, _, hcs⟩
    · simp at hcs; exact ⟨_, _, _, hcs⟩
  obtain ⟨a, len, cap, rfl⟩ := form
  obtain ⟨h1, h2, h3, h4⟩ := slice_read (C := 1) ht hC (by decide) h
  rcases Nat.eq_zero_or_pos len with rfl | hpos
  · exact ⟨a, cap, [], rfl, .inl rfl, by simp, h1, h2, fun h => ⟨rfl, (h3 h).2⟩⟩
  · obtain ⟨b, off, rfl, hb, each⟩ := h4.resolve_left (by omega)
    have num : ∀ i, i < len → ∃ n : Nat, w.cell? ⟨b, off + i, none⟩ = some (.int k ((n : Nat) : Int)) ∧ (n : Int) ≤ B := by
      intro i hi
      obtain ⟨n, cs, y, hl, hat, ht'⟩ := each i hi
      obtain ⟨z, rfl, _, hw⟩ := DataW.trod_int he ht'
      have hz := hB z hw
      have := hat 0 (by decide)
      refine ⟨z.toNat, ?_, by omega⟩
      rw [show ((z.toNat : Nat) : Int) = z from by omega]
      simpa using this
    let f : Nat → Nat := fun i => if hi : i < len then (num i hi).choose else 0
    have hf : ∀ i, i < len → w.cell? ⟨b, off + i, none⟩ = some (.int k ((f i : Nat) : Int)) ∧ (f i : Int) ≤ B := by
      intro i hi
      have := (num i hi).choose_spec
      simp only [f, hi, dif_pos]
      exact this
    refine ⟨some ⟨b, off, none⟩, cap, (List.range len).map f, by simp, .inr ⟨b, off, rfl, hb, fun i x hx => ?_⟩, ?_, by simpa using h1, h2, fun h => by simp at h⟩
    · simp only [List.getElem?_map, Option.map_eq_some_iff] at hx
      obtain ⟨j, hj, rfl⟩ := hx
      have hi : i < len := by
        rcases Nat.lt_or_ge i len with h | h
        · exact h
        · rw [List.getElem?_eq_none (by simpa using h)] at hj; simp at hj
      rw [List.getElem?_range hi] at hj
      obtain rfl := Option.some.inj hj
      exact (hf i hi).1
    · intro y hy
      obtain ⟨i, hi, rfl⟩ := List.mem_map.1 hy
      exact (hf i (by simpa using hi)).2
end

section
variable {H : Type} {enc : TypeId × Value → H} {W : World} {base : Nat} {v : Value} {d : DataW H} {p : List MemPlace}
set_option maxRecDepth 100000 in
theorem texts_rd (h : DataW.Trod enc Tryz.prog W 0 (fun _ => true) true 46 v d p) (hv : Value.okWide Tryz.prog W .any base 46 v) :
    ∃ a cap, ∃ l : List (List Nat), v = .slice a l.length cap ∧ TxtsAt W a l ∧ TBts l ∧ l.length ≤ cap ∧ cap ≤ maxLen := by
  obtain ⟨a, len, cap, rfl⟩ := okWide_slice Tryz.underlying46 hv
  obtain ⟨fuel, hf⟩ := h
  obtain ⟨h1, h2, _, h | ⟨b, off, rfl, hb, each⟩⟩ := slice_read Tryz.underlying46 (C := 1) (by kernel_rfl) (by decide) hf
  · subst h
    exact ⟨a, cap, [], rfl, .inl rfl, (fun s hs => (by cases hs)), h1, h2⟩
  · have num : ∀ i, i < len → ∃ s : List Nat, W.cell? ⟨b, off + i, none⟩ = some (.string (strN s)) ∧ Bts s := by
      intro i hi
      obtain ⟨n, cs, y, _, hat, ht⟩ := each i hi
      obtain ⟨s, rfl, _, _⟩ := DataW.trod_string Tryz.underlying9 ht
      refine ⟨natsOf s, ?_, natsOf_bts s⟩
      rw [strN_of]
      simpa using hat 0 (by decide)
    let f : Nat → List Nat := fun i => if hi : i < len then (num i hi).choose else []
    have hf : ∀ i, i < len → W.cell? ⟨b, off + i, none⟩ = some (.string (strN (f i))) ∧ Bts (f i) := by
      intro i hi
      have := (num i hi).choose_spec
      simp only [f, hi, dif_pos]
      exact this
    refine ⟨some ⟨b, off, none⟩, cap, (List.range len).map f, by simp, .inr ⟨b, off, rfl, hb, fun i u hu => ?_⟩, fun s hs => ?_, by simpa using h1, h2⟩
    · rw [strE_all, List.map_map, List.getElem?_map, Option.map_eq_some_iff] at hu
      obtain ⟨j, hj, rfl⟩ := hu
      have hi : i < len := by
        have := (List.getElem?_eq_some_iff.1 hj).1
        simpa using this
      rw [List.getElem?_range hi] at hj
      cases hj
      exact (hf i hi).1
    · obtain ⟨j, hj, rfl⟩ := List.mem_map.1 hs
      exact (hf j (List.mem_range.1 hj)).2
end
end Go.Proofs.YtlmpkonfclnceaaGreat
