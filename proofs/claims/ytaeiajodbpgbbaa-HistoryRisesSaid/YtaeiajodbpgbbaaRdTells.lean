/- HistoryTells by readings. -/
import Derived.Test.YtaeiajodbpgbbaaRdEv
import Derived.Test.YtaeiajodbpgbbaaBk10
namespace Go.Proofs.Ytaeiajodbpgbbaa
open Go.ChangeShapes Go.WideShapes Go.ChangeAt Go.RowKit Go.Sort

set_option maxRecDepth 100000 in
theorem int_read {H : Type} {enc : TypeId × Value → H} {W : World} {base : Nat} {v : Value} {d : DataW H} {p : List MemPlace} (h : DataW.Trod enc Try.prog W 0 (fun _ => true) true 3 v d p) (hv : Value.okWide Try.prog W .any base 3 v) :
    ∃ n : Int, v = .int .i64 n ∧ -9223372036854775808 ≤ n ∧ n ≤ 9223372036854775807 := by
  obtain ⟨n, rfl, _, _, hw⟩ := open_int Try.underlying3 hv h
  exact ⟨n, rfl, (bounds_i64 hw).1, (bounds_i64 hw).2⟩
set_option maxRecDepth 100000 in
theorem u8_read {H : Type} {enc : TypeId × Value → H} {W : World} {base : Nat} {v : Value} {d : DataW H} {p : List MemPlace} (h : DataW.Trod enc Try.prog W 0 (fun _ => true) true 5 v d p) (hv : Value.okWide Try.prog W .any base 5 v) :
    ∃ n : Nat, v = .int .u8 ((n : Nat) : Int) ∧ n ≤ 255 := by
  obtain ⟨n, rfl, _, _, hw⟩ := open_int Try.underlying5 hv h
  have := bounds_u8 hw
  exact ⟨n.toNat, by rw [show ((n.toNat : Nat) : Int) = n from by omega], by omega⟩
set_option maxRecDepth 100000 in
theorem tells_read {H : Type} {enc : TypeId × Value → H} (W : World) {base : Nat} {v0 v1 v2 : Value} {d0 d1 d2 : DataW H} {p0 p1 p2 : List MemPlace}
    (h0 : DataW.Trod enc Try.prog W 0 (fun _ => true) true 22 v0 d0 p0) (k0 : Value.okWide Try.prog W .any base 22 v0)
    (h1 : DataW.Trod enc Try.prog W 0 (fun _ => true) true 3 v1 d1 p1) (k1 : Value.okWide Try.prog W .any base 3 v1)
    (h2 : DataW.Trod enc Try.prog W 0 (fun _ => true) true 23 v2 d2 p2) (k2 : Value.okWide Try.prog W .any base 23 v2) :
    Calls Try.prog 3 #[v0, v1, v2] W fun e W' => e = .returned (.bool true) ∧ Same W W' := by
  obtain ⟨a, len, cap, l, rfl, hn, hat, hav, _, _⟩ := evs_rd h0 k0
  obtain ⟨z, rfl, _, _⟩ := int_read h1 k1
  obtain ⟨x, y, rfl⟩ := int2_rd h2 k2
  exact tells_any awOK W a len cap l hn z x y hat hav
end Go.Proofs.Ytaeiajodbpgbbaa
