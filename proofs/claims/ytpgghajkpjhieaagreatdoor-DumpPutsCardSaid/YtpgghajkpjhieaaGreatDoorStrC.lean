/- StrC: bytes.Equal, bytes.Clone. -/
import Derived.Test.YtpgghajkpjhieaaGreatDoorDc0
import Derived.Test.YtpgghajkpjhieaaGreatDoorShelfB
namespace Go.Proofs.YtpgghajkpjhieaaGreatDoor
open Go.RowKit

theorem bytesIn_of {w : World} {a : Option Addr} {xs : List Nat} (h : NatsAt w .u8 a xs) : Lib.BytesIn w a xs.length (xs.map fun n : Nat => (n : Int)) := by
  intro hn
  rcases h with rfl | ⟨b, off, rfl, hb, hc⟩
  · simp at hn
  · exact ⟨b, off, rfl, fun i hi => nats_cells (.inr ⟨b, off, rfl, hb, hc⟩) i hi⟩
theorem by_equal (a b : Option Addr) (la lb ca cb : Nat) (xs ys : List Nat) (w : World) (hla : la = xs.length) (hlb : lb = ys.length) (hx : Bts xs) (hy : Bts ys) (ha : NatsAt w .u8 a xs) (hb : NatsAt w .u8 b ys) :
    Calls Tryz.prog 28 #[.slice a la ca, .slice b lb cb] w fun e w' => e = .returned (.bool (decide (xs = ys))) ∧ w' = w := by
  subst hla hlb
  refine (Tryz.bytes_Equal_all a b xs.length ca ys.length cb (xs.map fun n : Nat => (n : Int)) (ys.map fun n : Nat => (n : Int)) w (by simp) (by simp) (bytesIn_of ha) (bytesIn_of hb)).mono ?_
  rintro e w' ⟨rfl, rfl⟩
  refine ⟨ret_bool ?_, rfl⟩
  have e1 : ∀ l : List Nat, Lib.bytesOf (l.map fun n : Nat => (n : Int)) = l.map UInt8.ofNat := by
    intro l; unfold Lib.bytesOf; rw [List.map_map]; rfl
  rw [e1, e1, Bool.eq_iff_iff]
  simp only [beq_iff_eq, decide_eq_true_eq]
  exact ⟨fun h => map_inj hx hy h, fun h => by rw [h]⟩
theorem by_clone (a : Option Addr) (cap : Nat) (xs : List Nat) (w : World) (hat : NatsAt w .u8 a xs) (hl : xs.length ≤ 140737488355328) (hnil : a = none → xs = []) :
    Calls Tryz.prog 51 #[.slice a xs.length cap] w fun e w' => ∃ v, e = .returned v ∧ OwnN w' w.heap.size 5 .u8 v xs ∧ Same w w' := by
  cases a with
  | none =>
    obtain rfl := hnil rfl
    refine (Tryz.bytes_Clone_nil _ _ _).mono ?_
    rintro e w' ⟨rfl, rfl⟩
    exact ⟨_, rfl, World.ownsRow_nil _ _ _ _, Kept.refl _ _⟩
  | some x =>
    refine (Tryz.bytes_Clone_at x xs.length cap (xs.map fun n : Nat => (n : Int)) w (by simp) hl ?_).mono ?_
    · intro i hi
      rcases hat with rfl | ⟨b, off, e, hb, hc⟩
      · simp at hi
      · simp only [Option.some.injEq] at e
        subst e
        have := hc i _ (List.getElem?_eq_getElem hi)
        have e2 : (xs.map fun n : Nat => (n : Int)).getD i 0 = ((xs[i] : Nat) : Int) := by simp [hi]
        rw [e2]
        unfold Addr.add
        split
        · subst i; simpa using this
        · exact this
    · rintro e w' ⟨v', rfl, h1, _, h3⟩
      refine ⟨v', rfl, ?_, Kept.of_below h3⟩
      unfold OwnN
      rw [List.map_map] at h1
      exact h1
theorem nats_get {w : World} {k : IntKind} {g o : Nat} {xs : List Nat} (h : NatsAt w k (some ⟨g, o, none⟩) xs) {i : Nat} (hi : i < xs.length) : w.cell? ⟨g, o + i, none⟩ = some (.int k ((xs.getD i 0 : Nat) : Int)) := by
  obtain ⟨b, off, x, e, _, hx, hc⟩ := h.at hi
  cases e
  rw [hc, List.getD_eq_getElem?_getD, hx]
  rfl
theorem getD_bts {b : List Nat} (h : Bts b) (i : Nat) : b.getD i 0 < 256 := by
  rw [List.getD_eq_getElem?_getD]
  cases e : b[i]? with
  | none => simp
  | some x => exact h x (List.mem_of_getElem? e)
end Go.Proofs.YtpgghajkpjhieaaGreatDoor
