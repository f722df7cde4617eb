/- append of zeros, and of a string's bytes, on a slice of bytes of one's own. -/
import Derived.Test.YtlmpkonfclnceaaGreatWs1
import Derived.Test.YtlmpkonfclnceaaGreatGCpy
import Derived.Lib.AppendStr
namespace Go.Proofs.YtlmpkonfclnceaaGreat
open Go.RowKit

theorem zb_strCells_strN (xs : List Nat) (h : Bts xs) : Lib.strCells (strN xs) = xs.map fun x => Value.int .u8 ((x : Nat) : Int) := by
  unfold Lib.strCells
  have e : (strN xs).data.toList = xs.map UInt8.ofNat := by unfold strN; simp
  rw [e, List.map_map]
  apply List.map_congr_left
  intro x hx
  have := h x hx
  simp [Nat.mod_eq_of_lt this]
/-- A string's bytes, appended. -/
theorem zb_run_append_str {P : Program} (w : World) (t u ty e : TypeId) (base : Nat) (ht : P.underlying t = some (.slice e)) (hu : P.underlying u = some .string) (hi : (P.info? e).map (fun i => (i.zero, i.size, i.bytes)) = some (some (.int .u8 0), 1, 1))
    (v : Value) (xs : List Nat) (hown : OwnN w base e .u8 v xs) (ys : List Nat) (hy : Bts ys) (hbytes : xs.length + ys.length ≤ 140737488355328) (hbase : base ≤ w.heap.size) :
    ∃ v' w', (Builtin.append_ #[t, u] ty #[v, .string (strN ys)]).run P w = .ok v' w' ∧ OwnN w' base e .u8 v' (xs ++ ys) ∧ w.grownBy w' v.ownBlock := by
  obtain ⟨i, hi, hz0, hz1, hz2⟩ := info_parts hi
  obtain ⟨v', w', hr, ho, hg, -⟩ := Lib.run_append_own_string (P := P) w base t u ty e i ht hu hi hz0 hz1 hz2 v xs.length _ hown (strN ys) (by rw [strN_len]; unfold maxLen; omega) (by rw [strN_len]; exact hbytes) hbase
  refine ⟨v', w', hr, ?_, hg⟩
  unfold OwnN
  rw [List.length_append, List.map_append, ← zb_strCells_strN ys hy, ← strN_len ys]
  exact ho
theorem zb_zeroCells_one (k : IntKind) (n : Nat) : Builtin.zeroCells (Value.int k 0).cells n = (List.replicate n (Value.int k 0)).toArray := by
  rw [show (Value.int k 0).cells = #[Value.int k 0] from rfl]
  unfold Builtin.zeroCells
  apply Array.ext'
  apply List.ext_getElem?
  intro j
  simp [List.getElem?_replicate]
  by_cases h : j < n
  · simp [h, Nat.mod_one]
  · simp [h]
/-- Zeros, appended: as the string of so many zeros. -/
theorem zb_append_zeros_eq {P : Program} (w : World) (t tn u ty e : TypeId) (kn kq : IntKind) (ht : P.underlying t = some (.slice e)) (htn : P.underlying tn = some (.int kn)) (hu : P.underlying u = some .string) (hi : (P.info? e).map (fun i => (i.zero, i.size, i.bytes)) = some (some (.int .u8 0), 1, 1))
    (a : Option Addr) (l c n : Nat) (hlc : l ≤ c) (hn : l + n ≤ 140737488355328) :
    (Builtin.append_ #[t, tn] ty #[.slice a l c, .int kq n]).run P w = (Builtin.append_ #[t, u] ty #[.slice a l c, .string (strN (List.replicate n 0))]).run P w := by
  obtain ⟨i, hi, hz0, hz1, hz2⟩ := info_parts hi
  have hw : IntKind.i64.wrap (n : Int) = n := by rw [IntKind.wrap_i64]; omega
  have hneg : ¬ ((n : Int) < 0) := by omega
  have hb : ¬ (281474976710656 < (n : Int)) := by omega
  have hs : (strN (List.replicate n 0)).size = n := by rw [strN_len, List.length_replicate]
  have hf : ∀ W : World, (Builtin.firstCells 1 n (.string (strN (List.replicate n 0)))).run P W = .ok (List.replicate n (Value.int .u8 0)).toArray W := by
    intro W
    have := Lib.run_firstCells_string (P := P) W 1 (strN (List.replicate n 0))
    rw [hs, zb_strCells_strN _ (fun x hx => by have := List.eq_of_mem_replicate hx; omega), List.map_replicate] at this
    exact this
  have hz : Builtin.zeroCells (Value.int .u8 0).cells n = (List.replicate n (Value.int .u8 0)).toArray := zb_zeroCells_one _ _
  have h63 : ¬ (9223372036854775807 < ((l : Int) + (n : Int))) := by omega
  by_cases hle : l + n ≤ c
  · by_cases h0 : n = 0
    · subst h0
      have hz0' : IntKind.i64.wrap 0 = 0 := by decide
      simp at hle hf
      have hs : (strN []).size = 0 := hs
      simp [Builtin.append_, run_underlying ht, run_underlying htn, run_underlying hu, sizeOf, typeInfo, hi, hz1, asInt, asIntOf, hz0', Builtin.lenOf, hs, hle, hf]
    · simp [Builtin.append_, run_underlying ht, run_underlying htn, run_underlying hu, sizeOf, typeInfo, zeroValue, hi, hz0, hz1, hz2, asInt, asIntOf, hw, hneg, hb, hz, h0, hle, Builtin.lenOf, hs, hf]
  · have h48 : ¬ (281474976710656 < Builtin.nextslicecap (l + n) c) := by
      have := growslice_fits (bytes := 1) (need := l + n) (old := c) (by omega) (by omega)
      omega
    have h0 : n ≠ 0 := by omega
    simp [Builtin.append_, run_underlying ht, run_underlying htn, run_underlying hu, sizeOf, typeInfo, zeroValue, hi, hz0, hz1, hz2, asInt, asIntOf, hw, hneg, hb, hz, h0, h63, h48, hle, Builtin.lenOf, hs, hf]
/-- Zeros, appended to bytes of one's own. -/
theorem zb_run_append_zeros {P : Program} (w : World) (t tn u ty e : TypeId) (kn kq : IntKind) (base : Nat) (ht : P.underlying t = some (.slice e)) (htn : P.underlying tn = some (.int kn)) (hu : P.underlying u = some .string) (hi : (P.info? e).map (fun i => (i.zero, i.size, i.bytes)) = some (some (.int .u8 0), 1, 1))
    (v : Value) (xs : List Nat) (hown : OwnN w base e .u8 v xs) (n : Nat) (hbytes : xs.length + n ≤ 140737488355328) (hbase : base ≤ w.heap.size) :
    ∃ v' w', (Builtin.append_ #[t, tn] ty #[v, .int kq n]).run P w = .ok v' w' ∧ OwnN w' base e .u8 v' (xs ++ List.replicate n 0) ∧ w.grownBy w' v.ownBlock := by
  obtain ⟨v', w', hr, ho, hg⟩ := zb_run_append_str (P := P) w t u ty e base ht hu hi v xs hown (List.replicate n 0) (fun x hx => by have := List.eq_of_mem_replicate hx; omega) (by rw [List.length_replicate]; exact hbytes) hbase
  refine ⟨v', w', ?_, ho, hg⟩
  obtain ⟨a, cap, rfl, h1, h2, h3, h4, _⟩ := hown.read
  rw [zb_append_zeros_eq (P := P) w t tn u ty e kn kq ht htn hu hi a _ cap n h1 hbytes]
  exact hr
/-- Bytes, appended to bytes of one's own; nil, whatever its room. -/
theorem zb_run_appendB {P : Program} (w : World) (t ty e : TypeId) (base : Nat) (k : IntKind) (bytes : Nat) (ht : P.underlying t = some (.slice e)) (hi : (P.info? e).map (fun i => (i.zero, i.size, i.bytes)) = some (some (.int k 0), 1, bytes)) (hby : 1 ≤ bytes)
    (v : Value) (xs : List Nat) (hown : OwnN w base e k v xs) (ao : Option Addr) (m c : Nat) (ys : List Nat) (hm : m = ys.length) (hat : NatsAt w k ao ys)
    (hbytes : (xs.length + ys.length) * bytes ≤ 140737488355328) (hbase : base ≤ w.heap.size) :
    ∃ v' w', (Builtin.append_ #[t, t] ty #[v, .slice ao m c]).run P w = .ok v' w' ∧ OwnN w' base e k v' (xs ++ ys) ∧ w.grownBy w' v.ownBlock ∧ (v'.ownBlock = v.ownBlock ∨ v'.ownBlock = some w.heap.size) := by
  cases ao with
  | some ad => exact run_appendN w t ty base e k bytes ht hi hby v xs hown (some ad) m c ys hm hat (fun h => by cases h) hbytes hbase
  | none =>
    have hy : ys = [] := by rcases hat with h | ⟨_, _, h, _⟩; exact h; cases h
    subst hy
    obtain rfl := hm
    obtain ⟨i, hi', hz0, hz1, hz2⟩ := info_parts hi
    obtain ⟨a, cap, rfl, h1, -⟩ := hown.read
    refine ⟨_, w, ?_, (by rw [List.append_nil]; exact hown), World.grownBy.refl w _, .inl rfl⟩
    cases a with
    | none => simp [Builtin.append_, run_underlying ht, sizeOf, typeInfo, hi', Builtin.lenOf, Builtin.firstCells, h1]
    | some ad => simp [Builtin.append_, run_underlying ht, sizeOf, typeInfo, hi', Builtin.lenOf, Builtin.firstCells, h1, storeCells]
end Go.Proofs.YtlmpkonfclnceaaGreat
