/-
  DERIVED. GIVEN WITH THE SEED: THE CARDS: each row of YtlkgdpdnhnakoaaGreatDoorRows.lean that lists a variable, with what it lists TIED to the program's text (the seventh form; the later family's looks); each row that meets fmt, with fmt's text TOLD by the authors' own Lean function (tested against real Go, not proved from fmt's source: count such statements apart). THE CARD IS WHAT COUNTS. Prove the row's statement (the work); the ties are given (YtlkgdpdnhnakoaaGreatDoorTie.lean); close each card by the builder's one call (the guide's Derived/Test/ToyasCard.lean, 'card_holds'). Laid BY PROGRAM, IN A SANDBOX (cutbox-door.mjs). By AI agents, Wed Nov 11 2026. No macro, syntax, notation, axiom, sorry.
-/
import Derived.Test.YtlkgdpdnhnakoaaGreatDoorRows
import GoSem.ClaimSeven
namespace Go.Proofs.YtlkgdpdnhnakoaaGreatDoor
namespace Rows

/-- THE TIED CARD OF 'fasciclelaw24.DbNobody'. -/
def dbNobodyCard : Claim7 := { stood := { row := dbNobodyRow, standIns := [], harness := (true, "36b2efec491e2327315190236b2597988c6966b8755cdac2732fe4525f2b67fd"), looks := true }, kinds := [], alts := [], laidByText := true, laidKinds := [.data], laidTests := true, laidLooks := .later }
def DbNobodyCardSaid : Prop := Claim7.holds Tryz.pinned (.plain (OpenSpec.ofChange dbNobodySpec)) dbNobodyCard

/-- THE TIED CARD OF 'fasciclelaw26.WorldNobody'. -/
def worldNobodyCard : Claim7 := { stood := { row := worldNobodyRow, standIns := [], harness := (true, "36b2efec491e2327315190236b2597988c6966b8755cdac2732fe4525f2b67fd"), looks := true }, kinds := [], alts := [], laidByText := true, laidKinds := [.data], laidTests := true, laidLooks := .later }
def WorldNobodyCardSaid : Prop := Claim7.holds Tryz.pinned (.plain (OpenSpec.ofChange worldNobodySpec)) worldNobodyCard

/-- THE SECOND FORM's CARD OF 'fasciclelaw24.DbNobody'. -/
def dbNobodyUptoCard : Claim7 := { stood := { row := dbNobodyUptoRow, standIns := [], harness := (true, "36b2efec491e2327315190236b2597988c6966b8755cdac2732fe4525f2b67fd"), looks := true }, kinds := [], alts := [], laidByText := true, laidKinds := [.data], laidTests := true, laidLooks := .later }
def DbNobodyUptoCardSaid : Prop := Claim7.holds Tryz.pinned (.plain (OpenSpec.upto dbNobodySpec)) dbNobodyUptoCard

/-- THE SECOND FORM's CARD OF 'fasciclelaw26.WorldNobody'. -/
def worldNobodyUptoCard : Claim7 := { stood := { row := worldNobodyUptoRow, standIns := [], harness := (true, "36b2efec491e2327315190236b2597988c6966b8755cdac2732fe4525f2b67fd"), looks := true }, kinds := [], alts := [], laidByText := true, laidKinds := [.data], laidTests := true, laidLooks := .later }
def WorldNobodyUptoCardSaid : Prop := Claim7.holds Tryz.pinned (.plain (OpenSpec.upto worldNobodySpec)) worldNobodyUptoCard
end Rows
end Go.Proofs.YtlkgdpdnhnakoaaGreatDoor
