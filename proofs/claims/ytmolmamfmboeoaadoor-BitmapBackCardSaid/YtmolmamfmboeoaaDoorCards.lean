/-
  DERIVED. GIVEN WITH THE SEED: THE CARDS: each row of YtmolmamfmboeoaaDoorRows.lean that lists a variable, with what it lists TIED to the program's text (the seventh form; the later family's looks); each row that meets fmt, with fmt's text TOLD by the authors' own Lean function (tested against real Go, not proved from fmt's source: count such statements apart). THE CARD IS WHAT COUNTS. Prove the row's statement (the work); the ties are given (YtmolmamfmboeoaaDoorTie.lean); close each card by the builder's one call (the guide's Derived/Test/ToyasCard.lean, 'card_holds'). Laid BY PROGRAM, IN A SANDBOX (cutbox-door.mjs). By AI agents, Wed Nov 11 2026. No macro, syntax, notation, axiom, sorry.
-/
import Derived.Test.YtmolmamfmboeoaaDoorRows
import GoSem.ClaimSeven
namespace Go.Proofs.YtmolmamfmboeoaaDoor
namespace Rows

/-- THE TIED CARD OF 'fasciclelaw05.BitmapSets'. -/
def bitmapSetsCard : Claim7 := { stood := { row := bitmapSetsRow, standIns := [], harness := (true, "de9b799add8a93ebf03c66088a43dbd3ec9bc3a3ce9cad59a9778a5368dc588f"), looks := false }, kinds := [], alts := [], laidByText := true, laidKinds := [.data], laidTests := true, laidLooks := .later }
def BitmapSetsCardSaid : Prop := Claim7.holds Tryd.pinned (.plain (OpenSpec.ofChange bitmapSetsSpec)) bitmapSetsCard

/-- THE TIED CARD OF 'fasciclelaw05.BitmapFinds'. -/
def bitmapFindsCard : Claim7 := { stood := { row := bitmapFindsRow, standIns := [], harness := (true, "de9b799add8a93ebf03c66088a43dbd3ec9bc3a3ce9cad59a9778a5368dc588f"), looks := false }, kinds := [], alts := [], laidByText := true, laidKinds := [.data], laidTests := true, laidLooks := .later }
def BitmapFindsCardSaid : Prop := Claim7.holds Tryd.pinned (.plain (OpenSpec.ofChange bitmapFindsSpec)) bitmapFindsCard

/-- THE TIED CARD OF 'fasciclelaw05.BitmapMixes'. -/
def bitmapMixesCard : Claim7 := { stood := { row := bitmapMixesRow, standIns := [], harness := (true, "de9b799add8a93ebf03c66088a43dbd3ec9bc3a3ce9cad59a9778a5368dc588f"), looks := false }, kinds := [], alts := [], laidByText := true, laidKinds := [.data], laidTests := true, laidLooks := .later }
def BitmapMixesCardSaid : Prop := Claim7.holds Tryd.pinned (.plain (OpenSpec.ofChange bitmapMixesSpec)) bitmapMixesCard

/-- THE TIED CARD OF 'fasciclelaw05.BitmapPuts'. -/
def bitmapPutsCard : Claim7 := { stood := { row := bitmapPutsRow, standIns := [], harness := (true, "de9b799add8a93ebf03c66088a43dbd3ec9bc3a3ce9cad59a9778a5368dc588f"), looks := false }, kinds := [], alts := [], laidByText := true, laidKinds := [.data], laidTests := true, laidLooks := .later }
def BitmapPutsCardSaid : Prop := Claim7.holds Tryd.pinned (.plain (OpenSpec.ofChange bitmapPutsSpec)) bitmapPutsCard

/-- THE TIED CARD OF 'fasciclelaw05.BitmapRanks'. -/
def bitmapRanksCard : Claim7 := { stood := { row := bitmapRanksRow, standIns := [], harness := (true, "de9b799add8a93ebf03c66088a43dbd3ec9bc3a3ce9cad59a9778a5368dc588f"), looks := false }, kinds := [], alts := [], laidByText := true, laidKinds := [.data], laidTests := true, laidLooks := .later }
def BitmapRanksCardSaid : Prop := Claim7.holds Tryd.pinned (.plain (OpenSpec.ofChange bitmapRanksSpec)) bitmapRanksCard

/-- THE TIED CARD OF 'fasciclelaw05.BitmapBack'. -/
def bitmapBackCard : Claim7 := { stood := { row := bitmapBackRow, standIns := [], harness := (true, "de9b799add8a93ebf03c66088a43dbd3ec9bc3a3ce9cad59a9778a5368dc588f"), looks := false }, kinds := [], alts := [], laidByText := true, laidKinds := [.data], laidTests := true, laidLooks := .later }
def BitmapBackCardSaid : Prop := Claim7.holds Tryd.pinned (.plain (OpenSpec.ofChange bitmapBackSpec)) bitmapBackCard

/-- THE SECOND FORM's CARD OF 'fasciclelaw05.BitmapSets'. -/
def bitmapSetsUptoCard : Claim7 := { stood := { row := bitmapSetsUptoRow, standIns := [], harness := (true, "de9b799add8a93ebf03c66088a43dbd3ec9bc3a3ce9cad59a9778a5368dc588f"), looks := false }, kinds := [], alts := [], laidByText := true, laidKinds := [.data], laidTests := true, laidLooks := .later }
def BitmapSetsUptoCardSaid : Prop := Claim7.holds Tryd.pinned (.plain (OpenSpec.upto bitmapSetsSpec)) bitmapSetsUptoCard

/-- THE SECOND FORM's CARD OF 'fasciclelaw05.BitmapFinds'. -/
def bitmapFindsUptoCard : Claim7 := { stood := { row := bitmapFindsUptoRow, standIns := [], harness := (true, "de9b799add8a93ebf03c66088a43dbd3ec9bc3a3ce9cad59a9778a5368dc588f"), looks := false }, kinds := [], alts := [], laidByText := true, laidKinds := [.data], laidTests := true, laidLooks := .later }
def BitmapFindsUptoCardSaid : Prop := Claim7.holds Tryd.pinned (.plain (OpenSpec.upto bitmapFindsSpec)) bitmapFindsUptoCard

/-- THE SECOND FORM's CARD OF 'fasciclelaw05.BitmapMixes'. -/
def bitmapMixesUptoCard : Claim7 := { stood := { row := bitmapMixesUptoRow, standIns := [], harness := (true, "de9b799add8a93ebf03c66088a43dbd3ec9bc3a3ce9cad59a9778a5368dc588f"), looks := false }, kinds := [], alts := [], laidByText := true, laidKinds := [.data], laidTests := true, laidLooks := .later }
def BitmapMixesUptoCardSaid : Prop := Claim7.holds Tryd.pinned (.plain (OpenSpec.upto bitmapMixesSpec)) bitmapMixesUptoCard

/-- THE SECOND FORM's CARD OF 'fasciclelaw05.BitmapPuts'. -/
def bitmapPutsUptoCard : Claim7 := { stood := { row := bitmapPutsUptoRow, standIns := [], harness := (true, "de9b799add8a93ebf03c66088a43dbd3ec9bc3a3ce9cad59a9778a5368dc588f"), looks := false }, kinds := [], alts := [], laidByText := true, laidKinds := [.data], laidTests := true, laidLooks := .later }
def BitmapPutsUptoCardSaid : Prop := Claim7.holds Tryd.pinned (.plain (OpenSpec.upto bitmapPutsSpec)) bitmapPutsUptoCard

/-- THE SECOND FORM's CARD OF 'fasciclelaw05.BitmapRanks'. -/
def bitmapRanksUptoCard : Claim7 := { stood := { row := bitmapRanksUptoRow, standIns := [], harness := (true, "de9b799add8a93ebf03c66088a43dbd3ec9bc3a3ce9cad59a9778a5368dc588f"), looks := false }, kinds := [], alts := [], laidByText := true, laidKinds := [.data], laidTests := true, laidLooks := .later }
def BitmapRanksUptoCardSaid : Prop := Claim7.holds Tryd.pinned (.plain (OpenSpec.upto bitmapRanksSpec)) bitmapRanksUptoCard

/-- THE SECOND FORM's CARD OF 'fasciclelaw05.BitmapBack'. -/
def bitmapBackUptoCard : Claim7 := { stood := { row := bitmapBackUptoRow, standIns := [], harness := (true, "de9b799add8a93ebf03c66088a43dbd3ec9bc3a3ce9cad59a9778a5368dc588f"), looks := false }, kinds := [], alts := [], laidByText := true, laidKinds := [.data], laidTests := true, laidLooks := .later }
def BitmapBackUptoCardSaid : Prop := Claim7.holds Tryd.pinned (.plain (OpenSpec.upto bitmapBackSpec)) bitmapBackUptoCard
end Rows
end Go.Proofs.YtmolmamfmboeoaaDoor
