/- RdCon: what the readings of law 27's arguments say; the cell that strings.Split asks about. -/
import Derived.Test.YtnjmdldhgconmaaGreatDoorRows
import Derived.Test.YtnjmdldhgconmaaGreatDoorBmRead
import Derived.Test.YtnjmdldhgconmaaGreatDoorCw1
import Derived.Clock
namespace Go.Proofs.YtnjmdldhgconmaaGreatDoor
open Go.ChangeShapes Go.WideShapes Go.ChangeAt Go.RowKit Go.Sort

theorem int_of_shape {P : Program} {w : World} {g : Nat} {t : TypeId} {zero : Array Value} {k : IntKind} (h : w.ShapedOpen P) (hg : g < P.globals.size)
    (h0 : ((begin P (fun _ _ => 0) default).world.heap[g]?).bind Obj.row? = some (zero, t)) (hz : zero.size = 1)
    (hb : P.buildable t = true) (hc : P.cellTypes P.depth t = some [t]) (hu : P.underlying t = some (.int k)) : ∃ n, w.cell? ⟨g, 0, none⟩ = some (.int k n) := by
  obtain ⟨cs, hh, hs, hr⟩ := h.1 g zero t hg h0
  obtain ⟨ts, hts, _, hall⟩ := hr hb
  rw [hc] at hts
  cases hts
  have h1 : 0 < cs.size := by omega
  obtain ⟨u, hu', hok⟩ := hall 0 cs[0] (by simp [h1])
  have : u = t := by simpa using hu'.symm
  subst this
  have hcell : w.cell? ⟨g, 0, none⟩ = some cs[0] := by simp [World.cell?, hh, h1]
  rw [hcell]
  unfold Cell.ok at hok
  rw [hu] at hok
  cases hv : cs[0] <;> rw [hv] at hok <;> simp at hok
  obtain ⟨rfl, -⟩ := hok
  exact ⟨_, rfl⟩
set_option maxRecDepth 100000 in
theorem max_of_shape {w : World} (h : w.ShapedOpen Tryz.prog) : MaxOK w :=
  int_of_shape (k := .i64) (t := 3) (zero := #[.int .i64 0]) h (by decide +kernel) (by kernel_rfl) rfl (by kernel_rfl) (by kernel_rfl) Tryz.underlying3
section
variable {H : Type} {enc : TypeId × Value → H} {W : World} {base : Nat} {v : Value} {d : DataW H} {p : List MemPlace}
set_option maxRecDepth 100000 in
theorem intc_read (h : DataW.Trod enc Tryz.prog W 0 (fun _ => true) true 3 v d p) (hv : Value.okWide Tryz.prog W .any base 3 v) : ∃ n : Int, v = .int .i64 n := by
  obtain ⟨n, rfl, _, _, hw⟩ := open_int Tryz.underlying3 hv h
  exact ⟨n, rfl⟩
set_option maxRecDepth 100000 in
theorem strc_read (h : DataW.Trod enc Tryz.prog W 0 (fun _ => true) true 9 v d p) (hv : Value.okWide Tryz.prog W .any base 9 v) : ∃ l : Tx, v = encStr l := by
  obtain ⟨s, rfl, _⟩ := Go.ChangeMaps.open_string Tryz.underlying9 hv h
  exact ⟨s.data.toList, by simp [encStr]⟩
end
set_option maxRecDepth 100000 in
theorem words27_read {H : Type} {enc : TypeId × Value → H} (W : World) (hT : TabOK W) (hM : MaxOK W) {base : Nat} {v0 v1 : Value} {d0 d1 : DataW H} {p0 p1 : List MemPlace}
    (h0 : DataW.Trod enc Tryz.prog W 0 (fun _ => true) true 9 v0 d0 p0) (k0 : Value.okWide Tryz.prog W .any base 9 v0)
    (h1 : DataW.Trod enc Tryz.prog W 0 (fun _ => true) true 3 v1 d1 p1) (k1 : Value.okWide Tryz.prog W .any base 3 v1) :
    Calls Tryz.prog 3 #[v0, v1] W fun e W' => e = .returned (.bool true) ∧ Same W W' := by
  obtain ⟨l, rfl⟩ := strc_read h0 k0
  obtain ⟨n, rfl⟩ := intc_read h1 k1
  exact words27_any W hT hM l n
end Go.Proofs.YtnjmdldhgconmaaGreatDoor
