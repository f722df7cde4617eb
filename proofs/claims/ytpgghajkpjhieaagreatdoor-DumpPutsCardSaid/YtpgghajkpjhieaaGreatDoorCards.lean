/-
  DERIVED. GIVEN WITH THE SEED: THE CARDS: each row of YtpgghajkpjhieaaGreatDoorRows.lean that lists a variable, with what it lists TIED to the program's text (the seventh form; the later family's looks); each row that meets fmt, with fmt's text TOLD by the authors' own Lean function (tested against real Go, not proved from fmt's source: count such statements apart). THE CARD IS WHAT COUNTS. Prove the row's statement (the work); the ties are given (YtpgghajkpjhieaaGreatDoorTie.lean); close each card by the builder's one call (the guide's Derived/Test/ToyasCard.lean, 'card_holds'). Laid BY PROGRAM, IN A SANDBOX (cutbox-door.mjs). By AI agents, Wed Nov 11 2026. No macro, syntax, notation, axiom, sorry.
-/
import Derived.Test.YtpgghajkpjhieaaGreatDoorRows
import GoSem.ClaimSeven
namespace Go.Proofs.YtpgghajkpjhieaaGreatDoor
namespace Rows

/-- THE TIED CARD OF 'fasciclelaw30.DumpPuts'. -/
def dumpPutsCard : Claim7 := { stood := { row := dumpPutsRow, standIns := [], harness := (true, "7b9af6af75e4bd115beecd410ab963676a0be5f5eb6b124143fa8f5a49afa607"), looks := true }, kinds := [], alts := [], laidByText := true, laidKinds := [.data], laidTests := true, laidLooks := .later }
def DumpPutsCardSaid : Prop := Claim7.holds Tryz.pinned (.plain (OpenSpec.ofChange dumpPutsSpec)) dumpPutsCard

/-- THE TIED CARD OF 'fasciclelaw30.DumpSame'. -/
def dumpSameCard : Claim7 := { stood := { row := dumpSameRow, standIns := [], harness := (true, "7b9af6af75e4bd115beecd410ab963676a0be5f5eb6b124143fa8f5a49afa607"), looks := true }, kinds := [], alts := [], laidByText := true, laidKinds := [.data], laidTests := true, laidLooks := .later }
def DumpSameCardSaid : Prop := Claim7.holds Tryz.pinned (.plain (OpenSpec.ofChange dumpSameSpec)) dumpSameCard

/-- THE TIED CARD OF 'fasciclelaw30.DumpTurned'. -/
def dumpTurnedCard : Claim7 := { stood := { row := dumpTurnedRow, standIns := [], harness := (true, "7b9af6af75e4bd115beecd410ab963676a0be5f5eb6b124143fa8f5a49afa607"), looks := true }, kinds := [], alts := [], laidByText := true, laidKinds := [.data], laidTests := true, laidLooks := .later }
def DumpTurnedCardSaid : Prop := Claim7.holds Tryz.pinned (.plain (OpenSpec.ofChange dumpTurnedSpec)) dumpTurnedCard

/-- THE SECOND FORM's CARD OF 'fasciclelaw30.DumpPuts'. -/
def dumpPutsUptoCard : Claim7 := { stood := { row := dumpPutsUptoRow, standIns := [], harness := (true, "7b9af6af75e4bd115beecd410ab963676a0be5f5eb6b124143fa8f5a49afa607"), looks := true }, kinds := [], alts := [], laidByText := true, laidKinds := [.data], laidTests := true, laidLooks := .later }
def DumpPutsUptoCardSaid : Prop := Claim7.holds Tryz.pinned (.plain (OpenSpec.upto dumpPutsSpec)) dumpPutsUptoCard

/-- THE SECOND FORM's CARD OF 'fasciclelaw30.DumpSame'. -/
def dumpSameUptoCard : Claim7 := { stood := { row := dumpSameUptoRow, standIns := [], harness := (true, "7b9af6af75e4bd115beecd410ab963676a0be5f5eb6b124143fa8f5a49afa607"), looks := true }, kinds := [], alts := [], laidByText := true, laidKinds := [.data], laidTests := true, laidLooks := .later }
def DumpSameUptoCardSaid : Prop := Claim7.holds Tryz.pinned (.plain (OpenSpec.upto dumpSameSpec)) dumpSameUptoCard

/-- THE SECOND FORM's CARD OF 'fasciclelaw30.DumpTurned'. -/
def dumpTurnedUptoCard : Claim7 := { stood := { row := dumpTurnedUptoRow, standIns := [], harness := (true, "7b9af6af75e4bd115beecd410ab963676a0be5f5eb6b124143fa8f5a49afa607"), looks := true }, kinds := [], alts := [], laidByText := true, laidKinds := [.data], laidTests := true, laidLooks := .later }
def DumpTurnedUptoCardSaid : Prop := Claim7.holds Tryz.pinned (.plain (OpenSpec.upto dumpTurnedSpec)) dumpTurnedUptoCard
end Rows
end Go.Proofs.YtpgghajkpjhieaaGreatDoor
