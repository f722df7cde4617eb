/- bytes.Equal and bytes.Clone at bytes as numbers. -/
import Derived.Test.YtlmpkonfclnceaaShelfB
import Derived.Test.YtlmpkonfclnceaaStrD
import Derived.Laws.BytesArg
namespace Go.Proofs.Ytlmpkonfclnceaa
open Go.RowKit

theorem ofNat_inj {x y : Nat} (hx : x < 256) (hy : y < 256) (h : UInt8.ofNat x = UInt8.ofNat y) : x = y := by
  have := congrArg UInt8.toNat h
  simp at this
  omega
theorem map_inj {xs ys : List Nat} (hx : Bts xs) (hy : Bts ys) (h : xs.map UInt8.ofNat = ys.map UInt8.ofNat) : xs = ys := by
  induction xs generalizing ys with
  | nil => cases ys with
    | nil => rfl
    | cons y ys => simp at h
  | cons x xs ih =>
    cases ys with
    | nil => simp at h
    | cons y ys =>
      simp only [List.map_cons, List.cons.injEq] at h
      rw [ofNat_inj (hx x (by simp)) (hy y (by simp)) h.1, ih (fun z hz => hx z (by simp [hz])) (fun z hz => hy z (by simp [hz])) h.2]
theorem strN_inj {xs ys : List Nat} (hx : Bts xs) (hy : Bts ys) (h : strN xs = strN ys) : xs = ys := by
  unfold strN at h
  simp only [ByteArray.mk.injEq] at h
  have := congrArg Array.toList h
  exact map_inj hx hy (by simpa using this)
theorem strN_toList (xs : List Nat) : (strN xs).toList = xs.map UInt8.ofNat := by
  rw [← strN_ints, Lib.strOfNums_toList]
  unfold Lib.bytesOf
  rw [List.map_map]
  congr 1
theorem str_beq {xs ys : List Nat} (hx : Bts xs) (hy : Bts ys) : ((strN xs).toList == (strN ys).toList) = decide (xs = ys) := by
  rw [strN_toList, strN_toList, Bool.eq_iff_iff]
  simp only [beq_iff_eq, decide_eq_true_eq]
  exact ⟨fun h => map_inj hx hy h, fun h => by rw [h]⟩
theorem bytesIn_of {w : World} {a : Option Addr} {xs : List Nat} (h : NatsAt w .u8 a xs) : Lib.BytesIn w a xs.length (xs.map fun n : Nat => (n : Int)) := by
  intro hn
  rcases h with rfl | ⟨b, off, rfl, hb, hc⟩
  · simp at hn
  · exact ⟨b, off, rfl, fun i hi => nats_cells (.inr ⟨b, off, rfl, hb, hc⟩) i hi⟩
theorem by_equal (a b : Option Addr) (la lb ca cb : Nat) (xs ys : List Nat) (w : World) (hla : la = xs.length) (hlb : lb = ys.length) (hx : Bts xs) (hy : Bts ys) (ha : NatsAt w .u8 a xs) (hb : NatsAt w .u8 b ys) :
    Calls Try.prog 101 #[.slice a la ca, .slice b lb cb] w fun e w' => e = .returned (.bool (decide (xs = ys))) ∧ w' = w := by
  subst hla hlb
  refine (Try.bytes_Equal_all a b xs.length ca ys.length cb (xs.map fun n : Nat => (n : Int)) (ys.map fun n : Nat => (n : Int)) w (by simp) (by simp) (bytesIn_of ha) (bytesIn_of hb)).mono ?_
  rintro e w' ⟨rfl, rfl⟩
  refine ⟨ret_bool ?_, rfl⟩
  have e1 : ∀ l : List Nat, Lib.bytesOf (l.map fun n : Nat => (n : Int)) = l.map UInt8.ofNat := by
    intro l; unfold Lib.bytesOf; rw [List.map_map]; rfl
  rw [e1, e1, Bool.eq_iff_iff]
  simp only [beq_iff_eq, decide_eq_true_eq]
  exact ⟨fun h => map_inj hx hy h, fun h => by rw [h]⟩
theorem by_clone (a : Option Addr) (cap : Nat) (xs : List Nat) (w : World) (hat : NatsAt w .u8 a xs) (hl : xs.length ≤ 140737488355328) (hnil : a = none → xs = []) :
    Calls Try.prog 102 #[.slice a xs.length cap] w fun e w' => ∃ v, e = .returned v ∧ OwnN w' w.heap.size 5 .u8 v xs ∧ Same w w' := by
  cases a with
  | none =>
    obtain rfl := hnil rfl
    refine (Try.bytes_Clone_nil _ _ _).mono ?_
    rintro e w' ⟨rfl, rfl⟩
    exact ⟨_, rfl, World.ownsRow_nil _ _ _ _, Kept.refl _ _⟩
  | some x =>
    refine (Try.bytes_Clone_at x xs.length cap (xs.map fun n : Nat => (n : Int)) w (by simp) hl ?_).mono ?_
    · intro i hi
      rcases hat with rfl | ⟨b, off, e, hb, hc⟩
      · simp at hi
      · simp only [Option.some.injEq] at e
        subst e
        have := hc i _ (List.getElem?_eq_getElem hi)
        have e2 : (xs.map fun n : Nat => (n : Int)).getD i 0 = ((xs[i] : Nat) : Int) := by simp [hi]
        rw [e2]
        unfold Addr.add
        split
        · subst i; simpa using this
        · exact this
    · rintro e w' ⟨v', rfl, h1, _, h3⟩
      refine ⟨v', rfl, ?_, Kept.of_below h3⟩
      unfold OwnN
      rw [List.map_map] at h1
      exact h1
end Go.Proofs.Ytlmpkonfclnceaa
