/- Nb29: CursorNobody, run by the kernel, case by case. -/
import Derived.Test.YtlocjamhdddbcaaGreatDoorEvSt
namespace Go.Proofs.YtlocjamhdddbcaaGreatDoor
namespace Ev
noncomputable def awC (args : List AV) (h : Hp Xo) : Option (AV × Hp Xo) := match args, h.t.get tabG with
  | [], some (.x .tab) => some (.V (.C (.B true)), h)
  | _, _ => none
noncomputable def entU : List EnyF := [⟨4, awC⟩]
/-- The unknown values: 0 the key, 1 the transaction, 2 the page, 3 the key's length, 4 the key and a zero. -/
noncomputable def runC (l : List Fq) (id : Ce) : Bool := ranOk ((clO (tabOf Tryz.prog) numG (ixF (factP l [⟨0, [0], 4⟩]) (biQ [(0, 3)] [] [])) (iyV entU) izP (nat_lit 100000) (nat_lit 300)).call 3 [.V (.C (.X (nat_lit 64))), .V (.C id), .V (.C (.X (nat_lit 66)))] (h0 numG tabG (nat_lit 5)))
noncomputable def cLo : List Fq := [⟨.gtr, .i64, true, 3, 100, .B false⟩, ⟨.lss, .i64, true, 2, 1, .B true⟩]
noncomputable def cHi : List Fq := [⟨.gtr, .i64, true, 3, 100, .B false⟩, ⟨.lss, .i64, true, 2, 1, .B false⟩, ⟨.gtr, .i64, true, 2, 1000, .B true⟩]
noncomputable def cOk (l : List Fq) : List Fq := ⟨.gtr, .i64, true, 3, 100, .B false⟩ :: ⟨.lss, .i64, true, 2, 1, .B false⟩ :: ⟨.gtr, .i64, true, 2, 1000, .B false⟩ :: l
noncomputable def cNe : List Fq := cOk [⟨.neq, .i64, true, 1, 1, .B true⟩, ⟨.eql, .i64, false, 1, 1, .B false⟩, ⟨.eql, .i64, true, 1, 1, .B false⟩]
theorem runC_lo : runC cLo (.X (nat_lit 65)) = true := by kernel_rfl
theorem runC_hi : runC cHi (.X (nat_lit 65)) = true := by kernel_rfl
theorem runC_ne : runC cNe (.X (nat_lit 65)) = true := by kernel_rfl
theorem runC_ok : runC (cOk []) (.I .i64 1) = true := by kernel_rfl
end Ev
end Go.Proofs.YtlocjamhdddbcaaGreatDoor
