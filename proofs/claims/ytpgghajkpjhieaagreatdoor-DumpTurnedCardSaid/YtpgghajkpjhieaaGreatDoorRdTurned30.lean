/- DumpTurned by readings. -/
import Derived.Test.YtpgghajkpjhieaaGreatDoorRdPr
import Derived.Test.YtpgghajkpjhieaaGreatDoorGDq
namespace Go.Proofs.YtpgghajkpjhieaaGreatDoor
open Go.ChangeShapes Go.WideShapes Go.ChangeAt Go.RowKit Go.Sort
set_option maxRecDepth 100000 in
theorem turned30_read {H : Type} {enc : TypeId × Value → H} (W : World) (hT : TabOK W) {base : Nat} {v0 v1 v2 : Value} {d0 d1 d2 : DataW H} {p0 p1 p2 : List MemPlace}
    (h0 : DataW.Trod enc Tryz.prog W 0 (fun _ => true) true 22 v0 d0 p0) (k0 : Value.okWide Tryz.prog W .any base 22 v0)
    (h1 : DataW.Trod enc Tryz.prog W 0 (fun _ => true) true 39 v1 d1 p1) (k1 : Value.okWide Tryz.prog W .any base 39 v1)
    (h2 : DataW.Trod enc Tryz.prog W 0 (fun _ => true) true 5 v2 d2 p2) (k2 : Value.okWide Tryz.prog W .any base 5 v2) :
    Calls Tryz.prog 5 #[v0, v1, v2] W fun e W' => e = .returned (.bool true) ∧ Same W W' := by
  obtain ⟨a, n, c, L, rfl, hn, hat, _⟩ := prs_rd h0 k0
  obtain ⟨x, rfl, hx⟩ := u8_read h2 k2
  obtain ⟨y, rfl, _, _, hw⟩ := open_int Tryz.underlying39 k1 h1
  have hb : 0 ≤ y ∧ y ≤ 65535 := bounds_u16 hw
  obtain ⟨m, rfl⟩ : ∃ m : Nat, y = (m : Int) := ⟨y.toNat, by omega⟩
  exact turned_any W hT a n c m x L hn hat (by omega) (by omega)
end Go.Proofs.YtpgghajkpjhieaaGreatDoor
