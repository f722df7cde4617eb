/- HistoryRises by readings. -/
import Derived.Test.YtaeiajodbpgbbaaRdTells
import Derived.Test.YtaeiajodbpgbbaaRisD
import Derived.SizedLaws
namespace Go.Proofs.Ytaeiajodbpgbbaa
open Go.ChangeShapes Go.WideShapes Go.ChangeAt Go.RowKit Go.Sort

theorem evBytes : Try.prog.bytesOf 44 = 64 := by kernel_rfl
set_option maxRecDepth 100000 in
/-- The form's own reach: events that were read take no more room than there is. -/
theorem evs_len {H : Type} {enc : TypeId × Value → H} {W : World} {a : Option Addr} {len cap : Nat} {d : DataW H} {p : List MemPlace} (h : DataW.Trod enc Try.prog W 0 (fun _ => true) true 22 (.slice a len cap) d p)
    {ts : List TypeId} {ds : List (DataW H)} {j : Nat} (hsz : (DataW.weightsEach Try.prog ts ds).all (· ≤ reachBytes) = true) (ht : ts[j]? = some 22) (hd : ds[j]? = some d) : len * 64 ≤ 140737488355328 := by
  obtain ⟨fuel, hf0⟩ := h
  have hf : DataW.trod enc Try.prog W 0 (fun _ => true) true fuel 22 [.slice a len cap] = some (d, p) := hf0
  rcases Deep.open_slice Try.underlying22 hf with ⟨hcs, _⟩ | ⟨x, l, c, m, n, D, Pl, hcs, _, hl, hm, hmm, hx, hi⟩
  · simp at hcs
    omega
  · simp at hcs
    obtain ⟨rfl, rfl, rfl⟩ := hcs
    injection hx with hx _
    subst hx
    have := sized_slice hsz ht hd Try.underlying22
    rw [evBytes, List.length_map, List.length_range] at this
    have h2 : len * 64 ≤ reachBytes := Nat.le_trans (Nat.mul_le_mul_right _ (Nat.le_add_right _ _)) this
    have h3 := reachBytes_lt
    omega
set_option maxRecDepth 100000 in
theorem rises_read {H : Type} {enc : TypeId × Value → H} (W : World) {base : Nat} {v0 v1 : Value} {d0 d1 : DataW H} {p0 p1 : List MemPlace} {ts : List TypeId} {ds : List (DataW H)}
    (h0 : DataW.Trod enc Try.prog W 0 (fun _ => true) true 22 v0 d0 p0) (k0 : Value.okWide Try.prog W .any base 22 v0)
    (h1 : DataW.Trod enc Try.prog W 0 (fun _ => true) true 5 v1 d1 p1) (k1 : Value.okWide Try.prog W .any base 5 v1)
    (hsz : (DataW.weightsEach Try.prog ts ds).all (· ≤ reachBytes) = true) (ht : ts[0]? = some 22) (hd : ds[0]? = some d0) :
    Calls Try.prog 4 #[v0, v1] W fun e W' => e = .returned (.bool true) ∧ Same W W' := by
  obtain ⟨a, len, cap, l, rfl, hn, hat, hav, _, _⟩ := evs_rd h0 k0
  obtain ⟨z, rfl, hz⟩ := u8_read h1 k1
  exact rises_any W a len cap l hn (evs_len h0 hsz ht hd) z hz hat
end Go.Proofs.Ytaeiajodbpgbbaa
