/-
  DERIVED. GIVEN WITH THE SEED: THE CARDS: each row of YtmcdlmgkjlodfaaGreatDoorRows.lean that lists a variable, with what it lists TIED to the program's text (the seventh form; the later family's looks); each row that meets fmt, with fmt's text TOLD by the authors' own Lean function (tested against real Go, not proved from fmt's source: count such statements apart). THE CARD IS WHAT COUNTS. Prove the row's statement (the work); the ties are given (YtmcdlmgkjlodfaaGreatDoorTie.lean); close each card by the builder's one call (the guide's Derived/Test/ToyasCard.lean, 'card_holds'). Laid BY PROGRAM, IN A SANDBOX (cutbox-door.mjs). By AI agents, Wed Nov 11 2026. No macro, syntax, notation, axiom, sorry.
-/
import Derived.Test.YtmcdlmgkjlodfaaGreatDoorRows
import GoSem.ClaimSeven
namespace Go.Proofs.YtmcdlmgkjlodfaaGreatDoor
namespace Rows

/-- THE TIED CARD OF 'fasciclelaw20.TreeNobody'. -/
def treeNobodyCard : Claim7 := { stood := { row := treeNobodyRow, standIns := [], harness := (true, "9ccc1f2ae67f9588bdce2f5770a4fa58c437359ad0b3914c5595a19018e1fb15"), looks := true }, kinds := [], alts := [], laidByText := true, laidKinds := [.data], laidTests := true, laidLooks := .later }
def TreeNobodyCardSaid : Prop := Claim7.holds Tryz.pinned (.plain (OpenSpec.ofChange treeNobodySpec)) treeNobodyCard

/-- THE SECOND FORM's CARD OF 'fasciclelaw20.TreeNobody'. -/
def treeNobodyUptoCard : Claim7 := { stood := { row := treeNobodyUptoRow, standIns := [], harness := (true, "9ccc1f2ae67f9588bdce2f5770a4fa58c437359ad0b3914c5595a19018e1fb15"), looks := true }, kinds := [], alts := [], laidByText := true, laidKinds := [.data], laidTests := true, laidLooks := .later }
def TreeNobodyUptoCardSaid : Prop := Claim7.holds Tryz.pinned (.plain (OpenSpec.upto treeNobodySpec)) treeNobodyUptoCard
end Rows
end Go.Proofs.YtmcdlmgkjlodfaaGreatDoor
