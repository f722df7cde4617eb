/- Bytes as strings; bytes.Equal at bytes as numbers. -/
import Derived.Test.YtmolmamfmboeoaaDoorBm13
import Derived.Laws.BytesArg
namespace Go.Proofs.YtmolmamfmboeoaaDoor
open Go.RowKit

def strN (xs : List Nat) : ByteArray := ⟨(xs.map UInt8.ofNat).toArray⟩
theorem ofNat_inj {x y : Nat} (hx : x < 256) (hy : y < 256) (h : UInt8.ofNat x = UInt8.ofNat y) : x = y := by
  have := congrArg UInt8.toNat h
  simp at this
  omega
theorem map_inj {xs ys : List Nat} (hx : Bytes xs) (hy : Bytes ys) (h : xs.map UInt8.ofNat = ys.map UInt8.ofNat) : xs = ys := by
  induction xs generalizing ys with
  | nil => cases ys with
    | nil => rfl
    | cons y ys => simp at h
  | cons x xs ih =>
    cases ys with
    | nil => simp at h
    | cons y ys =>
      simp only [List.map_cons, List.cons.injEq] at h
      rw [ofNat_inj (hx x (by simp)) (hy y (by simp)) h.1, ih (fun z hz => hx z (by simp [hz])) (fun z hz => hy z (by simp [hz])) h.2]
theorem strN_inj {xs ys : List Nat} (hx : Bytes xs) (hy : Bytes ys) (h : strN xs = strN ys) : xs = ys := by
  unfold strN at h
  simp only [ByteArray.mk.injEq] at h
  have := congrArg Array.toList h
  exact map_inj hx hy (by simpa using this)
theorem strN_ints (xs : List Nat) : strOfNums (xs.map fun n : Nat => (n : Int)) = strN xs := by
  unfold strOfNums strN
  rw [List.map_map]
  congr 2

theorem strN_toList (xs : List Nat) : (strN xs).toList = xs.map UInt8.ofNat := by
  rw [← strN_ints, Lib.strOfNums_toList]
  unfold Lib.bytesOf
  rw [List.map_map]
  congr 1
theorem str_beq {xs ys : List Nat} (hx : Bytes xs) (hy : Bytes ys) : ((strN xs).toList == (strN ys).toList) = decide (xs = ys) := by
  rw [strN_toList, strN_toList, Bool.eq_iff_iff]
  simp only [beq_iff_eq, decide_eq_true_eq]
  exact ⟨fun h => map_inj hx hy h, fun h => by rw [h]⟩

theorem nats_cells {w : World} {k : IntKind} {b off : Nat} {xs : List Nat} (h : NatsAt w k (some ⟨b, off, none⟩) xs) (i : Nat) (hi : i < xs.length) : w.cell? ⟨b, off + i, none⟩ = some (.int k ((xs.map fun n : Nat => (n : Int)).getD i 0)) := by
  rcases h with rfl | ⟨b', off', e, _, hc⟩
  · simp at hi
  · simp only [Option.some.injEq, Addr.mk.injEq, and_true] at e
    obtain ⟨rfl, rfl⟩ := e
    have := hc i _ (List.getElem?_eq_getElem hi)
    have e2 : (xs.map fun n : Nat => (n : Int)).getD i 0 = ((xs[i] : Nat) : Int) := by simp [hi]
    rw [e2]; exact this
theorem bytesIn_of {w : World} {a : Option Addr} {xs : List Nat} (h : NatsAt w .u8 a xs) : Lib.BytesIn w a xs.length (xs.map fun n : Nat => (n : Int)) := by
  intro hn
  rcases h with rfl | ⟨b, off, rfl, hb, hc⟩
  · simp at hn
  · exact ⟨b, off, rfl, fun i hi => nats_cells (.inr ⟨b, off, rfl, hb, hc⟩) i hi⟩

/-- string(b). -/
theorem conv_str (a : Option Addr) (l c : Nat) (xs : List Nat) (w : World) (hl : l = xs.length) (h : NatsAt w .u8 a xs) : (convert 52 9 (.slice a l c)).run Tryd.prog w = .ok (.string (strN xs)) w := by
  subst hl
  by_cases h0 : xs = []
  · subst h0
    rw [run_convert_bytes_string w _ _ _ _ _ _ Tryd.underlying52 Tryd.underlying5 Tryd.underlying9]
    cases a <;> simp [Conv.bytesToString, strN, loadCells, loadCellsFrom] <;> rfl
  · rcases h with h | ⟨b, off, rfl, hb, hc⟩
    · exact absurd h h0
    · rw [← strN_ints]
      exact run_convert_bytes_arg w _ _ Tryd.underlying52 Tryd.underlying5 b off _ c _ (by simp) (fun i hi => nats_cells (.inr ⟨b, off, rfl, hb, hc⟩) i hi) _ Tryd.underlying9

theorem by_equal (a b : Option Addr) (la lb ca cb : Nat) (xs ys : List Nat) (w : World) (hla : la = xs.length) (hlb : lb = ys.length) (hx : Bytes xs) (hy : Bytes ys) (ha : NatsAt w .u8 a xs) (hb : NatsAt w .u8 b ys) :
    Calls Tryd.prog 54 #[.slice a la ca, .slice b lb cb] w fun e w' => e = .returned (.bool (decide (xs = ys))) ∧ w' = w := by
  subst hla hlb
  refine (Tryd.bytes_Equal_all a b xs.length ca ys.length cb (xs.map fun n : Nat => (n : Int)) (ys.map fun n : Nat => (n : Int)) w (by simp) (by simp) (bytesIn_of ha) (bytesIn_of hb)).mono ?_
  rintro e w' ⟨rfl, rfl⟩
  refine ⟨ret_bool ?_, rfl⟩
  have e1 : ∀ l : List Nat, Lib.bytesOf (l.map fun n : Nat => (n : Int)) = l.map UInt8.ofNat := by
    intro l; unfold Lib.bytesOf; rw [List.map_map]; rfl
  rw [e1, e1, Bool.eq_iff_iff]
  simp only [beq_iff_eq, decide_eq_true_eq]
  exact ⟨fun h => map_inj hx hy h, fun h => by rw [h]⟩

end Go.Proofs.YtmolmamfmboeoaaDoor
