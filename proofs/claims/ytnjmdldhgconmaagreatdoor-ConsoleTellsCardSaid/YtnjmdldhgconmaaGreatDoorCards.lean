/-
  DERIVED. GIVEN WITH THE SEED: THE CARDS: each row of YtnjmdldhgconmaaGreatDoorRows.lean that lists a variable, with what it lists TIED to the program's text (the seventh form; the later family's looks); each row that meets fmt, with fmt's text TOLD by the authors' own Lean function (tested against real Go, not proved from fmt's source: count such statements apart). THE CARD IS WHAT COUNTS. Prove the row's statement (the work); the ties are given (YtnjmdldhgconmaaGreatDoorTie.lean); close each card by the builder's one call (the guide's Derived/Test/ToyasCard.lean, 'card_holds'). Laid BY PROGRAM, IN A SANDBOX (cutbox-door.mjs). By AI agents, Wed Nov 11 2026. No macro, syntax, notation, axiom, sorry.
-/
import Derived.Test.YtnjmdldhgconmaaGreatDoorRows
import GoSem.ClaimSeven
namespace Go.Proofs.YtnjmdldhgconmaaGreatDoor
namespace Rows

/-- THE TIED CARD OF 'fasciclelaw27.ConsoleWords'. -/
def consoleWordsCard : Claim7 := { stood := { row := consoleWordsRow, standIns := [], harness := (true, "ef3d9bfd3a164ce384f1fa2f50465b5e38c666abebd870e9b5aecd4e19ae4b61"), looks := true }, kinds := [], alts := [], laidByText := true, laidKinds := [.data, .data, .pinned], laidTests := true, laidLooks := .later }
def ConsoleWordsCardSaid : Prop := Claim7.holds Tryz.pinned (.plain (OpenSpec.ofChange consoleWordsSpec)) consoleWordsCard

/-- THE TIED CARD OF 'fasciclelaw27.ConsoleTells'. -/
def consoleTellsCard : Claim7 := { stood := { row := consoleTellsRow, standIns := [], harness := (true, "ef3d9bfd3a164ce384f1fa2f50465b5e38c666abebd870e9b5aecd4e19ae4b61"), looks := true }, kinds := [], alts := [], laidByText := true, laidKinds := [.data, .data, .pinned], laidTests := true, laidLooks := .later }
def ConsoleTellsCardSaid : Prop := Claim7.holds Tryz.pinned (.plain (OpenSpec.ofChange consoleTellsSpec)) consoleTellsCard

/-- THE TIED CARD OF 'fasciclelaw27.ConsoleBack'. -/
def consoleBackCard : Claim7 := { stood := { row := consoleBackRow, standIns := [], harness := (true, "ef3d9bfd3a164ce384f1fa2f50465b5e38c666abebd870e9b5aecd4e19ae4b61"), looks := true }, kinds := [], alts := [], laidByText := true, laidKinds := [.data, .data, .pinned], laidTests := true, laidLooks := .later }
def ConsoleBackCardSaid : Prop := Claim7.holds Tryz.pinned (.plain (OpenSpec.ofChange consoleBackSpec)) consoleBackCard

/-- THE TIED CARD OF 'fasciclelaw27.ConsoleNobody'. -/
def consoleNobodyCard : Claim7 := { stood := { row := consoleNobodyRow, standIns := [], harness := (true, "ef3d9bfd3a164ce384f1fa2f50465b5e38c666abebd870e9b5aecd4e19ae4b61"), looks := true }, kinds := [], alts := [], laidByText := true, laidKinds := [.data, .data, .pinned], laidTests := true, laidLooks := .later }
def ConsoleNobodyCardSaid : Prop := Claim7.holds Tryz.pinned (.plain (OpenSpec.ofChange consoleNobodySpec)) consoleNobodyCard

/-- THE SECOND FORM's CARD OF 'fasciclelaw27.ConsoleWords'. -/
def consoleWordsUptoCard : Claim7 := { stood := { row := consoleWordsUptoRow, standIns := [], harness := (true, "ef3d9bfd3a164ce384f1fa2f50465b5e38c666abebd870e9b5aecd4e19ae4b61"), looks := true }, kinds := [], alts := [], laidByText := true, laidKinds := [.data, .data, .pinned], laidTests := true, laidLooks := .later }
def ConsoleWordsUptoCardSaid : Prop := Claim7.holds Tryz.pinned (.plain (OpenSpec.upto consoleWordsSpec)) consoleWordsUptoCard

/-- THE SECOND FORM's CARD OF 'fasciclelaw27.ConsoleTells'. -/
def consoleTellsUptoCard : Claim7 := { stood := { row := consoleTellsUptoRow, standIns := [], harness := (true, "ef3d9bfd3a164ce384f1fa2f50465b5e38c666abebd870e9b5aecd4e19ae4b61"), looks := true }, kinds := [], alts := [], laidByText := true, laidKinds := [.data, .data, .pinned], laidTests := true, laidLooks := .later }
def ConsoleTellsUptoCardSaid : Prop := Claim7.holds Tryz.pinned (.plain (OpenSpec.upto consoleTellsSpec)) consoleTellsUptoCard

/-- THE SECOND FORM's CARD OF 'fasciclelaw27.ConsoleBack'. -/
def consoleBackUptoCard : Claim7 := { stood := { row := consoleBackUptoRow, standIns := [], harness := (true, "ef3d9bfd3a164ce384f1fa2f50465b5e38c666abebd870e9b5aecd4e19ae4b61"), looks := true }, kinds := [], alts := [], laidByText := true, laidKinds := [.data, .data, .pinned], laidTests := true, laidLooks := .later }
def ConsoleBackUptoCardSaid : Prop := Claim7.holds Tryz.pinned (.plain (OpenSpec.upto consoleBackSpec)) consoleBackUptoCard

/-- THE SECOND FORM's CARD OF 'fasciclelaw27.ConsoleNobody'. -/
def consoleNobodyUptoCard : Claim7 := { stood := { row := consoleNobodyUptoRow, standIns := [], harness := (true, "ef3d9bfd3a164ce384f1fa2f50465b5e38c666abebd870e9b5aecd4e19ae4b61"), looks := true }, kinds := [], alts := [], laidByText := true, laidKinds := [.data, .data, .pinned], laidTests := true, laidLooks := .later }
def ConsoleNobodyUptoCardSaid : Prop := Claim7.holds Tryz.pinned (.plain (OpenSpec.upto consoleNobodySpec)) consoleNobodyUptoCard
end Rows
end Go.Proofs.YtnjmdldhgconmaaGreatDoor
