/-
  DERIVED. GIVEN WITH THE SEED: THE CARDS: each row of YtlocjamhdddbcaaGreatDoorRows.lean that lists a variable, with what it lists TIED to the program's text (the seventh form; the later family's looks); each row that meets fmt, with fmt's text TOLD by the authors' own Lean function (tested against real Go, not proved from fmt's source: count such statements apart). THE CARD IS WHAT COUNTS. Prove the row's statement (the work); the ties are given (YtlocjamhdddbcaaGreatDoorTie.lean); close each card by the builder's one call (the guide's Derived/Test/ToyasCard.lean, 'card_holds'). Laid BY PROGRAM, IN A SANDBOX (cutbox-door.mjs). By AI agents, Wed Nov 11 2026. No macro, syntax, notation, axiom, sorry.
-/
import Derived.Test.YtlocjamhdddbcaaGreatDoorRows
import GoSem.ClaimSeven
namespace Go.Proofs.YtlocjamhdddbcaaGreatDoor
namespace Rows

/-- THE TIED CARD OF 'fasciclelaw29.CursorNobody'. -/
def cursorNobodyCard : Claim7 := { stood := { row := cursorNobodyRow, standIns := [], harness := (true, "d67eb2d76f450cd39c6d5081079e7cab22dc7d1b653d96228372b0589a92c3f8"), looks := true }, kinds := [], alts := [], laidByText := true, laidKinds := [.data], laidTests := true, laidLooks := .later }
def CursorNobodyCardSaid : Prop := Claim7.holds Tryz.pinned (.plain (OpenSpec.ofChange cursorNobodySpec)) cursorNobodyCard

/-- THE SECOND FORM's CARD OF 'fasciclelaw29.CursorNobody'. -/
def cursorNobodyUptoCard : Claim7 := { stood := { row := cursorNobodyUptoRow, standIns := [], harness := (true, "d67eb2d76f450cd39c6d5081079e7cab22dc7d1b653d96228372b0589a92c3f8"), looks := true }, kinds := [], alts := [], laidByText := true, laidKinds := [.data], laidTests := true, laidLooks := .later }
def CursorNobodyUptoCardSaid : Prop := Claim7.holds Tryz.pinned (.plain (OpenSpec.upto cursorNobodySpec)) cursorNobodyUptoCard
end Rows
end Go.Proofs.YtlocjamhdddbcaaGreatDoor
