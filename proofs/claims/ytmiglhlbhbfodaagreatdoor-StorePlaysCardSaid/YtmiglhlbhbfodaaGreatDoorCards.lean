/-
  DERIVED. GIVEN WITH THE SEED: THE CARDS: each row of YtmiglhlbhbfodaaGreatDoorRows.lean that lists a variable, with what it lists TIED to the program's text (the seventh form; the later family's looks); each row that meets fmt, with fmt's text TOLD by the authors' own Lean function (tested against real Go, not proved from fmt's source: count such statements apart). THE CARD IS WHAT COUNTS. Prove the row's statement (the work); the ties are given (YtmiglhlbhbfodaaGreatDoorTie.lean); close each card by the builder's one call (the guide's Derived/Test/ToyasCard.lean, 'card_holds'). Laid BY PROGRAM, IN A SANDBOX (cutbox-door.mjs). By AI agents, Wed Nov 11 2026. No macro, syntax, notation, axiom, sorry.
-/
import Derived.Test.YtmiglhlbhbfodaaGreatDoorRows
import GoSem.ClaimSeven
namespace Go.Proofs.YtmiglhlbhbfodaaGreatDoor
namespace Rows

/-- THE TIED CARD OF 'fasciclelaw07.StoreKeeps'. -/
def storeKeepsCard : Claim7 := { stood := { row := storeKeepsRow, standIns := [], harness := (true, "3f56df379c6223f8ed141eac37093de4b677610deb796a55504520f2fa07f505"), looks := false }, kinds := [], alts := [], laidByText := true, laidKinds := [.data], laidTests := true, laidLooks := .later }
def StoreKeepsCardSaid : Prop := Claim7.holds Tryz.pinned (.plain (OpenSpec.ofChange storeKeepsSpec)) storeKeepsCard

/-- THE TIED CARD OF 'fasciclelaw07.StoreGives'. -/
def storeGivesCard : Claim7 := { stood := { row := storeGivesRow, standIns := [], harness := (true, "3f56df379c6223f8ed141eac37093de4b677610deb796a55504520f2fa07f505"), looks := false }, kinds := [], alts := [], laidByText := true, laidKinds := [.data], laidTests := true, laidLooks := .later }
def StoreGivesCardSaid : Prop := Claim7.holds Tryz.pinned (.plain (OpenSpec.ofChange storeGivesSpec)) storeGivesCard

/-- THE TIED CARD OF 'fasciclelaw07.StorePlays'. -/
def storePlaysCard : Claim7 := { stood := { row := storePlaysRow, standIns := [], harness := (true, "3f56df379c6223f8ed141eac37093de4b677610deb796a55504520f2fa07f505"), looks := false }, kinds := [], alts := [], laidByText := true, laidKinds := [.data], laidTests := true, laidLooks := .later }
def StorePlaysCardSaid : Prop := Claim7.holds Tryz.pinned (.plain (OpenSpec.ofChange storePlaysSpec)) storePlaysCard

/-- THE SECOND FORM's CARD OF 'fasciclelaw07.StoreKeeps'. -/
def storeKeepsUptoCard : Claim7 := { stood := { row := storeKeepsUptoRow, standIns := [], harness := (true, "3f56df379c6223f8ed141eac37093de4b677610deb796a55504520f2fa07f505"), looks := false }, kinds := [], alts := [], laidByText := true, laidKinds := [.data], laidTests := true, laidLooks := .later }
def StoreKeepsUptoCardSaid : Prop := Claim7.holds Tryz.pinned (.plain (OpenSpec.upto storeKeepsSpec)) storeKeepsUptoCard

/-- THE SECOND FORM's CARD OF 'fasciclelaw07.StoreGives'. -/
def storeGivesUptoCard : Claim7 := { stood := { row := storeGivesUptoRow, standIns := [], harness := (true, "3f56df379c6223f8ed141eac37093de4b677610deb796a55504520f2fa07f505"), looks := false }, kinds := [], alts := [], laidByText := true, laidKinds := [.data], laidTests := true, laidLooks := .later }
def StoreGivesUptoCardSaid : Prop := Claim7.holds Tryz.pinned (.plain (OpenSpec.upto storeGivesSpec)) storeGivesUptoCard

/-- THE SECOND FORM's CARD OF 'fasciclelaw07.StorePlays'. -/
def storePlaysUptoCard : Claim7 := { stood := { row := storePlaysUptoRow, standIns := [], harness := (true, "3f56df379c6223f8ed141eac37093de4b677610deb796a55504520f2fa07f505"), looks := false }, kinds := [], alts := [], laidByText := true, laidKinds := [.data], laidTests := true, laidLooks := .later }
def StorePlaysUptoCardSaid : Prop := Claim7.holds Tryz.pinned (.plain (OpenSpec.upto storePlaysSpec)) storePlaysUptoCard
end Rows
end Go.Proofs.YtmiglhlbhbfodaaGreatDoor
