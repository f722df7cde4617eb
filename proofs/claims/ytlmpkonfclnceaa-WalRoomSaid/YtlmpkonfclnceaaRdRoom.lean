/- WalRoom by readings. -/
import Derived.Test.YtlmpkonfclnceaaRows
import Derived.Test.YtlmpkonfclnceaaRoom
import Derived.Test.YtlmpkonfclnceaaRdTx
namespace Go.Proofs.Ytlmpkonfclnceaa
open Go.ChangeShapes Go.WideShapes Go.ChangeAt Go.RowKit

section
variable {H : Type} {enc : TypeId × Value → H} {W : World} {base : Nat} {v : Value} {d : DataW H} {p : List MemPlace}
set_option maxRecDepth 100000 in
theorem u8_rd10 (h : DataW.Trod enc Try.prog W 0 (fun _ => true) true 5 v d p) (hv : Value.okWide Try.prog W .any base 5 v) :
    ∃ n : Nat, v = .int .u8 ((n : Nat) : Int) ∧ n < 256 := by
  obtain ⟨n, rfl, _, _, hw⟩ := open_int Try.underlying5 hv h
  have := bounds_u8 hw
  exact ⟨n.toNat, by rw [show ((n.toNat : Nat) : Int) = n from by omega], by omega⟩
end
set_option maxRecDepth 100000 in
theorem room_read {H : Type} {enc : TypeId × Value → H} (W : World) {base : Nat} {v0 v1 : Value} {d0 d1 : DataW H} {p0 p1 : List MemPlace}
    (h0 : DataW.Trod enc Try.prog W 0 (fun _ => true) true 5 v0 d0 p0) (k0 : Value.okWide Try.prog W .any base 5 v0)
    (h1 : DataW.Trod enc Try.prog W 0 (fun _ => true) true 79 v1 d1 p1) (k1 : Value.okWide Try.prog W .any base 79 v1) :
    Calls Try.prog 10 #[v0, v1] W fun e W' => e = .returned (.bool true) ∧ Same W W' := by
  obtain ⟨s, rfl, hs⟩ := u8_rd10 h0 k0
  obtain ⟨a, cap, l, rfl, hat, hb, hc, hm⟩ := texts_rd h1 k1
  exact room_any W s (by omega) a l.length cap l rfl (by unfold maxLen at hm; omega) hb hat
end Go.Proofs.Ytlmpkonfclnceaa
