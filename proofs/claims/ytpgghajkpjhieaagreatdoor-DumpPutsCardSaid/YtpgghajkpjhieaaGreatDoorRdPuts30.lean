/- DumpPuts by readings. -/
import Derived.Test.YtpgghajkpjhieaaGreatDoorRdPr
import Derived.Test.YtpgghajkpjhieaaGreatDoorGDq
namespace Go.Proofs.YtpgghajkpjhieaaGreatDoor
open Go.ChangeShapes Go.WideShapes Go.ChangeAt Go.RowKit Go.Sort
set_option maxRecDepth 100000 in
theorem puts30_read {H : Type} {enc : TypeId × Value → H} (W : World) (hT : TabOK W) {base : Nat} {v0 v1 : Value} {d0 d1 : DataW H} {p0 p1 : List MemPlace}
    (h0 : DataW.Trod enc Tryz.prog W 0 (fun _ => true) true 22 v0 d0 p0) (k0 : Value.okWide Tryz.prog W .any base 22 v0)
    (h1 : DataW.Trod enc Tryz.prog W 0 (fun _ => true) true 23 v1 d1 p1) (k1 : Value.okWide Tryz.prog W .any base 23 v1) :
    Calls Tryz.prog 3 #[v0, v1] W fun e W' => e = .returned (.bool true) ∧ Same W W' := by
  obtain ⟨a, n, c, L, rfl, hn, hat, _⟩ := prs_rd h0 k0
  obtain ⟨a', m, c', rfl⟩ := okWide_slice Tryz.underlying23 k1
  obtain ⟨b, hm, hb, hat', hc, _⟩ := bytes_read h1 _ _ _ rfl
  exact puts_any W hT a a' n m c c' L b hn hm hc hb hat hat'
end Go.Proofs.YtpgghajkpjhieaaGreatDoor
