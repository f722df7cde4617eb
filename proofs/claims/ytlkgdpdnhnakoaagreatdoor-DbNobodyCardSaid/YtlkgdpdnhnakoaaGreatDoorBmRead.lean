/- What the readings of a document's map, of bytes and of numbers say of cells. -/
import Derived.Test.YtlkgdpdnhnakoaaGreatDoorBm1
import Derived.Test.YtlkgdpdnhnakoaaGreatDoorRead
import Derived.Test.YtlkgdpdnhnakoaaGreatDoorBits
import Derived.Test.YtlkgdpdnhnakoaaGreatDoorSl
import Derived.Lib.SmallJoins
import Derived.Lib.LaidTab
namespace Go.Proofs.YtlkgdpdnhnakoaaGreatDoor
open Go.ChangeShapes Go.WideShapes Go.ChangeAt Go.RowKit

section
variable {H : Type} {enc : TypeId × Value → H} {P : Program} {w : World} {base : Nat} {spare : Nat → Bool} {held : Bool}

set_option maxRecDepth 100000 in
/-- A slice of whole numbers, of whatever kind. -/
theorem nats_read {t e : TypeId} {k : IntKind} {fuel : Nat} {v : Value} {x : DataW H × List MemPlace} (B : Int) (ht : P.underlying t = some (.slice e)) (he : P.underlying e = some (.int k)) (hC : P.cellsOf e = 1)
    (hB : ∀ n, (Lit.int k n).wf = true → 0 ≤ n ∧ n ≤ B) (h : DataW.trod enc P w base spare held fuel t [v] = some x) :
    ∃ (a : Option Addr) (cap : Nat) (xs : List Nat), v = .slice a xs.length cap ∧ NatsAt w k a xs ∧ (∀ y ∈ xs, (y : Int) ≤ B) ∧ xs.length ≤ cap ∧ cap ≤ maxLen ∧ (a = none → xs = [] ∧ cap = 0) := by
  have form : ∃ a len cap, v = .slice a len cap := by
    rcases Deep.open_slice ht h with ⟨hcs, _⟩ | ⟨x, l, c, m, n, D, Pl, hcs, _⟩
    · simp at hcs; exact ⟨_, _, _, hcs⟩
    · simp at hcs; exact ⟨_, _, _, hcs⟩
  obtain ⟨a, len, cap, rfl⟩ := form
  obtain ⟨h1, h2, h3, h4⟩ := slice_read (C := 1) ht hC (by decide) h
  rcases Nat.eq_zero_or_pos len with rfl | hpos
  · exact ⟨a, cap, [], rfl, .inl rfl, by simp, h1, h2, fun h => ⟨rfl, (h3 h).2⟩⟩
  · obtain ⟨b, off, rfl, hb, each⟩ := h4.resolve_left (by omega)
    have num : ∀ i, i < len → ∃ n : Nat, w.cell? ⟨b, off + i, none⟩ = some (.int k ((n : Nat) : Int)) ∧ (n : Int) ≤ B := by
      intro i hi
      obtain ⟨n, cs, y, hl, hat, ht'⟩ := each i hi
      obtain ⟨z, rfl, _, hw⟩ := DataW.trod_int he ht'
      have hz := hB z hw
      have := hat 0 (by decide)
      refine ⟨z.toNat, ?_, by omega⟩
      rw [show ((z.toNat : Nat) : Int) = z from by omega]
      simpa using this
    let f : Nat → Nat := fun i => if hi : i < len then (num i hi).choose else 0
    have hf : ∀ i, i < len → w.cell? ⟨b, off + i, none⟩ = some (.int k ((f i : Nat) : Int)) ∧ (f i : Int) ≤ B := by
      intro i hi
      have := (num i hi).choose_spec
      simp only [f, hi, dif_pos]
      exact this
    refine ⟨some ⟨b, off, none⟩, cap, (List.range len).map f, by simp, .inr ⟨b, off, rfl, hb, fun i x hx => ?_⟩, ?_, by simpa using h1, h2, fun h => by simp at h⟩
    · simp only [List.getElem?_map, Option.map_eq_some_iff] at hx
      obtain ⟨j, hj, rfl⟩ := hx
      have hi : i < len := by
        rcases Nat.lt_or_ge i len with h | h
        · exact h
        · rw [List.getElem?_eq_none (by simpa using h)] at hj; simp at hj
      rw [List.getElem?_range hi] at hj
      obtain rfl := Option.some.inj hj
      exact (hf i hi).1
    · intro y hy
      obtain ⟨i, hi, rfl⟩ := List.mem_map.1 hy
      exact (hf i (by simpa using hi)).2
end

section
variable {H : Type} {enc : TypeId × Value → H} {W : World} {base : Nat} {v : Value} {d : DataW H} {p : List MemPlace}

set_option maxRecDepth 100000 in
/-- Bytes. -/
theorem bytes_read (h : DataW.Trod enc Tryz.prog W 0 (fun _ => true) true 56 v d p) :
    (∀ a len cap, v = .slice a len cap → ∃ (xs : List Nat), len = xs.length ∧ Bytes xs ∧ NatsAt W .u8 a xs ∧ len ≤ cap ∧ cap ≤ 9223372036854775807 ∧ (a = none → xs = [])) := by
  rintro a len cap rfl
  obtain ⟨fuel, hf⟩ := h
  obtain ⟨a', cap', xs, e, hat, hB, hl, hm, hn⟩ := nats_read 255 Tryz.underlying56 Tryz.underlying5 (by kernel_rfl) (fun n h => bounds_u8 h) hf
  simp only [Value.slice.injEq] at e
  obtain ⟨rfl, rfl, rfl⟩ := e
  refine ⟨xs, rfl, fun x hx => ?_, hat, hl, Nat.le_trans hm (by decide), fun h => (hn h).1⟩
  have := hB x hx
  omega

set_option maxRecDepth 100000 in
theorem int_read (h : DataW.Trod enc Tryz.prog W 0 (fun _ => true) true 3 v d p) (hv : Value.okWide Tryz.prog W .any base 3 v) :
    ∃ n : Int, v = .int .i64 n ∧ -9223372036854775808 ≤ n ∧ n ≤ 9223372036854775807 := by
  obtain ⟨n, rfl, _, _, hw⟩ := open_int Tryz.underlying3 hv h
  exact ⟨n, rfl, (bounds_i64 hw).1, (bounds_i64 hw).2⟩
set_option maxRecDepth 100000 in
theorem u8_read (h : DataW.Trod enc Tryz.prog W 0 (fun _ => true) true 5 v d p) (hv : Value.okWide Tryz.prog W .any base 5 v) :
    ∃ n : Nat, v = .int .u8 ((n : Nat) : Int) ∧ n ≤ 255 := by
  obtain ⟨n, rfl, _, _, hw⟩ := open_int Tryz.underlying5 hv h
  have := bounds_u8 hw
  exact ⟨n.toNat, by rw [show ((n.toNat : Nat) : Int) = n from by omega], by omega⟩
end

set_option maxRecDepth 100000 in
theorem gTab : Tryz.prog.globalNamed "math/bits.deBruijn64tab" = some 1 := by kernel_rfl
set_option maxRecDepth 100000 in
theorem gTabType : (Tryz.prog.globals[1]?).map (·.type) = some 569 := by kernel_rfl
set_option maxRecDepth 100000 in
theorem cellsTab : Tryz.prog.cellsOf 569 = 64 := by kernel_rfl
set_option maxRecDepth 100000 in
theorem cellsByte : Tryz.prog.cellsOf 5 = 1 := by kernel_rfl

def tabNums : List Int := [0, 1, 56, 2, 57, 49, 28, 3, 61, 58, 42, 50, 38, 29, 17, 4, 62, 47, 59, 36, 45, 43, 51, 22, 53, 39, 33, 30, 24, 18, 12, 5, 63, 55, 48, 27, 60, 41, 37, 16, 46, 35, 44, 21, 52, 32, 23, 11, 54, 26, 40, 15, 34, 20, 31, 10, 25, 14, 19, 9, 13, 8, 7, 6]

set_option maxRecDepth 100000 in
/-- What the rows' list gives. -/
theorem tab_of_laid {W : World} {rest : List (String × DataW Unit)} (h : laidMet Tryz.prog (("math/bits.deBruijn64tab", Lib.tabData .u8 tabNums) :: rest) W) : TabOK W := by
  have := Lib.tabIs_of_head gTab gTabType Tryz.underlying569 Tryz.underlying5 cellsByte cellsTab h
  intro i hi
  rw [this.cell gTab i (by simpa [tabNums] using hi)]
  have all : ∀ i, i < 64 → tabNums.getD i 0 = ((Lib.deBruijn64tab.getD i 0 : Nat) : Int) := by decide
  rw [all i hi]

end Go.Proofs.YtlkgdpdnhnakoaaGreatDoor
