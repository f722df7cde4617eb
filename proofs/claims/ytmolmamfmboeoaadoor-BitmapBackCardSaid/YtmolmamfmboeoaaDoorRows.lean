/-
  NARROWER THAN 'FOR EVERY INPUT', by the rows' own cells (each row's printed sentence says how): BitmapSets: laid · BitmapFinds: laid · BitmapMixes: laid · BitmapPuts: laid · BitmapRanks: laid · BitmapBack: laid.
  DERIVED. THE GIVEN ROWS OF THIS SEAT. 6 by the template 'for every input the law returns true; each argument reads behind the call as it read before'; 0 by the template 'total and deterministic' (their statements: YtmolmamfmboeoaaDoorTotals.lean).
  GIVEN WITH THE SEED: the statements are not yours to turn. If you find one false, say at which input.
  Laid BY PROGRAM, IN A SANDBOX (cutbox-rows.mjs): the forced cells as the released guide's own fill.sh prints them over the translation 6e7e4cfcdf392bca… (all of the seat's roots in one cut). By AI agents, Wed Nov 11 2026. No macro, syntax, notation, axiom, sorry.
-/
import Derived.Test.YtmolmamfmboeoaaDoorChecked
import GoSem.Claim
import GoSem.ClaimJoined
import GoSem.ClaimMapViews
import Derived.JoinedTies
import Derived.KernelRfl
namespace Go.Proofs.YtmolmamfmboeoaaDoor
/- THE CELL 'sum', in the pinned program and in every row, IS THE sha256 OF THE DUMP (.gsa) THAT YtmolmamfmboeoaaDoorProg.lean LOADS. Nothing in Lean hashes anything: it is a label: what it is worth is what the hold of that sum in a sandbox is worth. -/
noncomputable def Tryd.pinned : Pinned := { name := "ytmolmamfmboeoaadoor", sum := "6e7e4cfcdf392bca6226014a63bf41bc1b74d8284f0e6b290f619ed455234705", checked := Tryd.checked }
namespace Rows
def none {H : Type} : Left H := { results := [], args := [] }

/- WHAT THE LISTED PACKAGE-LEVEL VARIABLES READ AS WHEN THE CALL BEGINS. Each datum BY PROGRAM (the guide's laid-datum.mjs) off the statement by which the dump's own 'gosem.cut.vars' lays the variable. In a bare row this is a premise. The card (YtmolmamfmboeoaaDoorCards.lean) ties it to the program's text. -/
def laid_math_bits_deBruijn64tab {H : Type} : DataW H := .agg [.lit (.int .u8 0), .lit (.int .u8 1), .lit (.int .u8 56), .lit (.int .u8 2), .lit (.int .u8 57), .lit (.int .u8 49), .lit (.int .u8 28), .lit (.int .u8 3), .lit (.int .u8 61), .lit (.int .u8 58), .lit (.int .u8 42), .lit (.int .u8 50), .lit (.int .u8 38), .lit (.int .u8 29), .lit (.int .u8 17), .lit (.int .u8 4), .lit (.int .u8 62), .lit (.int .u8 47), .lit (.int .u8 59), .lit (.int .u8 36), .lit (.int .u8 45), .lit (.int .u8 43), .lit (.int .u8 51), .lit (.int .u8 22), .lit (.int .u8 53), .lit (.int .u8 39), .lit (.int .u8 33), .lit (.int .u8 30), .lit (.int .u8 24), .lit (.int .u8 18), .lit (.int .u8 12), .lit (.int .u8 5), .lit (.int .u8 63), .lit (.int .u8 55), .lit (.int .u8 48), .lit (.int .u8 27), .lit (.int .u8 60), .lit (.int .u8 41), .lit (.int .u8 37), .lit (.int .u8 16), .lit (.int .u8 46), .lit (.int .u8 35), .lit (.int .u8 44), .lit (.int .u8 21), .lit (.int .u8 52), .lit (.int .u8 32), .lit (.int .u8 23), .lit (.int .u8 11), .lit (.int .u8 54), .lit (.int .u8 26), .lit (.int .u8 40), .lit (.int .u8 15), .lit (.int .u8 34), .lit (.int .u8 20), .lit (.int .u8 31), .lit (.int .u8 10), .lit (.int .u8 25), .lit (.int .u8 14), .lit (.int .u8 19), .lit (.int .u8 9), .lit (.int .u8 13), .lit (.int .u8 8), .lit (.int .u8 7), .lit (.int .u8 6)]

/-- 'fasciclelaw05.BitmapSets': WHATEVER THE INPUT: true; the input reads as it did. -/
def bitmapSetsSpec : ChangeSpec := { name := "bitmapSets", fn := fun _ => fun
  | [d1, d2, d3] => { results := [.lit (.bool true)], args := [d1, d2, d3] }
  | _ => none }
def bitmapSetsRow : OpenClaim := { program := "ytmolmamfmboeoaadoor", sum := "6e7e4cfcdf392bca6226014a63bf41bc1b74d8284f0e6b290f619ed455234705", func := "fascicle/fasciclelaw05.BitmapSets", spec := "bitmapSets", unfollowed := true, recurses := true, named := ["math/bits.deBruijn64tab"], apart := false, laid := [("math/bits.deBruijn64tab", laid_math_bits_deBruijn64tab)] }
def BitmapSetsSaid : Prop := bitmapSetsRow.holds Tryd.pinned (OpenSpec.ofChange bitmapSetsSpec)

/-- ITS FALSE NEIGHBOUR: 'it returns false'. Refute it at one input. -/
def bitmapSetsWrong : ChangeSpec := { name := "bitmapSets", fn := fun _ => fun
  | [d1, d2, d3] => { results := [.lit (.bool false)], args := [d1, d2, d3] }
  | _ => none }
def BitmapSetsWrongFalsely : Prop := bitmapSetsRow.holds Tryd.pinned (OpenSpec.ofChange bitmapSetsWrong)

/-- 'fasciclelaw05.BitmapFinds': WHATEVER THE INPUT: true; the input reads as it did. -/
def bitmapFindsSpec : ChangeSpec := { name := "bitmapFinds", fn := fun _ => fun
  | [d1, d2, d3] => { results := [.lit (.bool true)], args := [d1, d2, d3] }
  | _ => none }
def bitmapFindsRow : OpenClaim := { program := "ytmolmamfmboeoaadoor", sum := "6e7e4cfcdf392bca6226014a63bf41bc1b74d8284f0e6b290f619ed455234705", func := "fascicle/fasciclelaw05.BitmapFinds", spec := "bitmapFinds", unfollowed := true, recurses := true, named := ["math/bits.deBruijn64tab"], apart := false, laid := [("math/bits.deBruijn64tab", laid_math_bits_deBruijn64tab)] }
def BitmapFindsSaid : Prop := bitmapFindsRow.holds Tryd.pinned (OpenSpec.ofChange bitmapFindsSpec)

/-- ITS FALSE NEIGHBOUR: 'it returns false'. Refute it at one input. -/
def bitmapFindsWrong : ChangeSpec := { name := "bitmapFinds", fn := fun _ => fun
  | [d1, d2, d3] => { results := [.lit (.bool false)], args := [d1, d2, d3] }
  | _ => none }
def BitmapFindsWrongFalsely : Prop := bitmapFindsRow.holds Tryd.pinned (OpenSpec.ofChange bitmapFindsWrong)

/-- 'fasciclelaw05.BitmapMixes': WHATEVER THE INPUT: true; the input reads as it did. -/
def bitmapMixesSpec : ChangeSpec := { name := "bitmapMixes", fn := fun _ => fun
  | [d1, d2] => { results := [.lit (.bool true)], args := [d1, d2] }
  | _ => none }
def bitmapMixesRow : OpenClaim := { program := "ytmolmamfmboeoaadoor", sum := "6e7e4cfcdf392bca6226014a63bf41bc1b74d8284f0e6b290f619ed455234705", func := "fascicle/fasciclelaw05.BitmapMixes", spec := "bitmapMixes", unfollowed := true, recurses := true, named := ["math/bits.deBruijn64tab"], apart := false, laid := [("math/bits.deBruijn64tab", laid_math_bits_deBruijn64tab)] }
def BitmapMixesSaid : Prop := bitmapMixesRow.holds Tryd.pinned (OpenSpec.ofChange bitmapMixesSpec)

/-- ITS FALSE NEIGHBOUR: 'it returns false'. Refute it at one input. -/
def bitmapMixesWrong : ChangeSpec := { name := "bitmapMixes", fn := fun _ => fun
  | [d1, d2] => { results := [.lit (.bool false)], args := [d1, d2] }
  | _ => none }
def BitmapMixesWrongFalsely : Prop := bitmapMixesRow.holds Tryd.pinned (OpenSpec.ofChange bitmapMixesWrong)

/-- 'fasciclelaw05.BitmapPuts': WHATEVER THE INPUT: true; the input reads as it did. -/
def bitmapPutsSpec : ChangeSpec := { name := "bitmapPuts", fn := fun _ => fun
  | [d1, d2] => { results := [.lit (.bool true)], args := [d1, d2] }
  | _ => none }
def bitmapPutsRow : OpenClaim := { program := "ytmolmamfmboeoaadoor", sum := "6e7e4cfcdf392bca6226014a63bf41bc1b74d8284f0e6b290f619ed455234705", func := "fascicle/fasciclelaw05.BitmapPuts", spec := "bitmapPuts", unfollowed := true, recurses := true, named := ["math/bits.deBruijn64tab"], apart := false, laid := [("math/bits.deBruijn64tab", laid_math_bits_deBruijn64tab)] }
def BitmapPutsSaid : Prop := bitmapPutsRow.holds Tryd.pinned (OpenSpec.ofChange bitmapPutsSpec)

/-- ITS FALSE NEIGHBOUR: 'it returns false'. Refute it at one input. -/
def bitmapPutsWrong : ChangeSpec := { name := "bitmapPuts", fn := fun _ => fun
  | [d1, d2] => { results := [.lit (.bool false)], args := [d1, d2] }
  | _ => none }
def BitmapPutsWrongFalsely : Prop := bitmapPutsRow.holds Tryd.pinned (OpenSpec.ofChange bitmapPutsWrong)

/-- 'fasciclelaw05.BitmapRanks': WHATEVER THE INPUT: true; the input reads as it did. -/
def bitmapRanksSpec : ChangeSpec := { name := "bitmapRanks", fn := fun _ => fun
  | [d1, d2, d3] => { results := [.lit (.bool true)], args := [d1, d2, d3] }
  | _ => none }
def bitmapRanksRow : OpenClaim := { program := "ytmolmamfmboeoaadoor", sum := "6e7e4cfcdf392bca6226014a63bf41bc1b74d8284f0e6b290f619ed455234705", func := "fascicle/fasciclelaw05.BitmapRanks", spec := "bitmapRanks", unfollowed := true, recurses := true, named := ["math/bits.deBruijn64tab"], apart := false, laid := [("math/bits.deBruijn64tab", laid_math_bits_deBruijn64tab)] }
def BitmapRanksSaid : Prop := bitmapRanksRow.holds Tryd.pinned (OpenSpec.ofChange bitmapRanksSpec)

/-- ITS FALSE NEIGHBOUR: 'it returns false'. Refute it at one input. -/
def bitmapRanksWrong : ChangeSpec := { name := "bitmapRanks", fn := fun _ => fun
  | [d1, d2, d3] => { results := [.lit (.bool false)], args := [d1, d2, d3] }
  | _ => none }
def BitmapRanksWrongFalsely : Prop := bitmapRanksRow.holds Tryd.pinned (OpenSpec.ofChange bitmapRanksWrong)

/-- 'fasciclelaw05.BitmapBack': WHATEVER THE INPUT: true; the input reads as it did. -/
def bitmapBackSpec : ChangeSpec := { name := "bitmapBack", fn := fun _ => fun
  | [d1, d2, d3] => { results := [.lit (.bool true)], args := [d1, d2, d3] }
  | _ => none }
def bitmapBackRow : OpenClaim := { program := "ytmolmamfmboeoaadoor", sum := "6e7e4cfcdf392bca6226014a63bf41bc1b74d8284f0e6b290f619ed455234705", func := "fascicle/fasciclelaw05.BitmapBack", spec := "bitmapBack", unfollowed := true, recurses := true, named := ["math/bits.deBruijn64tab"], apart := false, laid := [("math/bits.deBruijn64tab", laid_math_bits_deBruijn64tab)] }
def BitmapBackSaid : Prop := bitmapBackRow.holds Tryd.pinned (OpenSpec.ofChange bitmapBackSpec)

/-- ITS FALSE NEIGHBOUR: 'it returns false'. Refute it at one input. -/
def bitmapBackWrong : ChangeSpec := { name := "bitmapBack", fn := fun _ => fun
  | [d1, d2, d3] => { results := [.lit (.bool false)], args := [d1, d2, d3] }
  | _ => none }
def BitmapBackWrongFalsely : Prop := bitmapBackRow.holds Tryd.pinned (OpenSpec.ofChange bitmapBackWrong)

/- THE SECOND FORM. 'bulk': how many values and letters a reading holds, each counted each time it is reached (what is shared counts as often as it is met; a slice's spare places count too). A statement '..UptoSaid' is the law's where the arguments, and the package variables that the reading takes, are together of bulk at most 1048576: NARROWER than '..Said'. Prove '..Said' where nothing that the law and all that it calls make is longer than what came in: it says more and counts as full. Else prove '..UptoSaid'. A law counts once. -/
mutual
def uptoBulk {H : Type} : DataW H → Nat
  | .lit (.string bytes) => bytes.length + 1
  | .lit _ => 1
  | .nil => 1
  | .ptr d => uptoBulk d + 1
  | .slice elems spare => uptoBulkAll elems + uptoBulkAll spare + 1
  | .agg parts => uptoBulkAll parts + 1
  | .iface _ d => uptoBulk d + 1
  | .map entries => uptoBulkEntries entries + 1
  | .held _ => 1
def uptoBulkAll {H : Type} : List (DataW H) → Nat
  | [] => 0
  | d :: r => uptoBulk d + uptoBulkAll r
def uptoBulkEntries {H : Type} : List (Lit × DataW H) → Nat
  | [] => 0
  | x :: r => uptoBulkEntry x + uptoBulkEntries r
def uptoBulkEntry {H : Type} : Lit × DataW H → Nat
  | (.string bytes, d) => bytes.length + uptoBulk d + 1
  | (_, d) => uptoBulk d + 1
 end
def uptoSmall : (H : Type) → List (DataW H) → Bool := fun _ ds => decide (uptoBulkAll ds ≤ 1048576)
def OpenSpec.upto (s : _root_.Go.ChangeSpec) : _root_.Go.OpenSpec := { _root_.Go.OpenSpec.ofChange s with cond := some uptoSmall }

/-- 'fasciclelaw05.BitmapSets', WHERE WHAT IT READS IS OF BULK AT MOST 1048576: true; the input reads as it did. -/
def bitmapSetsUptoRow : OpenClaim := { program := "ytmolmamfmboeoaadoor", sum := "6e7e4cfcdf392bca6226014a63bf41bc1b74d8284f0e6b290f619ed455234705", func := "fascicle/fasciclelaw05.BitmapSets", spec := "bitmapSets", unfollowed := true, recurses := true, named := ["math/bits.deBruijn64tab"], apart := false, laid := [("math/bits.deBruijn64tab", laid_math_bits_deBruijn64tab)], narrowed := true }
def BitmapSetsUptoSaid : Prop := bitmapSetsUptoRow.holds Tryd.pinned (OpenSpec.upto bitmapSetsSpec)

/-- 'fasciclelaw05.BitmapFinds', WHERE WHAT IT READS IS OF BULK AT MOST 1048576: true; the input reads as it did. -/
def bitmapFindsUptoRow : OpenClaim := { program := "ytmolmamfmboeoaadoor", sum := "6e7e4cfcdf392bca6226014a63bf41bc1b74d8284f0e6b290f619ed455234705", func := "fascicle/fasciclelaw05.BitmapFinds", spec := "bitmapFinds", unfollowed := true, recurses := true, named := ["math/bits.deBruijn64tab"], apart := false, laid := [("math/bits.deBruijn64tab", laid_math_bits_deBruijn64tab)], narrowed := true }
def BitmapFindsUptoSaid : Prop := bitmapFindsUptoRow.holds Tryd.pinned (OpenSpec.upto bitmapFindsSpec)

/-- 'fasciclelaw05.BitmapMixes', WHERE WHAT IT READS IS OF BULK AT MOST 1048576: true; the input reads as it did. -/
def bitmapMixesUptoRow : OpenClaim := { program := "ytmolmamfmboeoaadoor", sum := "6e7e4cfcdf392bca6226014a63bf41bc1b74d8284f0e6b290f619ed455234705", func := "fascicle/fasciclelaw05.BitmapMixes", spec := "bitmapMixes", unfollowed := true, recurses := true, named := ["math/bits.deBruijn64tab"], apart := false, laid := [("math/bits.deBruijn64tab", laid_math_bits_deBruijn64tab)], narrowed := true }
def BitmapMixesUptoSaid : Prop := bitmapMixesUptoRow.holds Tryd.pinned (OpenSpec.upto bitmapMixesSpec)

/-- 'fasciclelaw05.BitmapPuts', WHERE WHAT IT READS IS OF BULK AT MOST 1048576: true; the input reads as it did. -/
def bitmapPutsUptoRow : OpenClaim := { program := "ytmolmamfmboeoaadoor", sum := "6e7e4cfcdf392bca6226014a63bf41bc1b74d8284f0e6b290f619ed455234705", func := "fascicle/fasciclelaw05.BitmapPuts", spec := "bitmapPuts", unfollowed := true, recurses := true, named := ["math/bits.deBruijn64tab"], apart := false, laid := [("math/bits.deBruijn64tab", laid_math_bits_deBruijn64tab)], narrowed := true }
def BitmapPutsUptoSaid : Prop := bitmapPutsUptoRow.holds Tryd.pinned (OpenSpec.upto bitmapPutsSpec)

/-- 'fasciclelaw05.BitmapRanks', WHERE WHAT IT READS IS OF BULK AT MOST 1048576: true; the input reads as it did. -/
def bitmapRanksUptoRow : OpenClaim := { program := "ytmolmamfmboeoaadoor", sum := "6e7e4cfcdf392bca6226014a63bf41bc1b74d8284f0e6b290f619ed455234705", func := "fascicle/fasciclelaw05.BitmapRanks", spec := "bitmapRanks", unfollowed := true, recurses := true, named := ["math/bits.deBruijn64tab"], apart := false, laid := [("math/bits.deBruijn64tab", laid_math_bits_deBruijn64tab)], narrowed := true }
def BitmapRanksUptoSaid : Prop := bitmapRanksUptoRow.holds Tryd.pinned (OpenSpec.upto bitmapRanksSpec)

/-- 'fasciclelaw05.BitmapBack', WHERE WHAT IT READS IS OF BULK AT MOST 1048576: true; the input reads as it did. -/
def bitmapBackUptoRow : OpenClaim := { program := "ytmolmamfmboeoaadoor", sum := "6e7e4cfcdf392bca6226014a63bf41bc1b74d8284f0e6b290f619ed455234705", func := "fascicle/fasciclelaw05.BitmapBack", spec := "bitmapBack", unfollowed := true, recurses := true, named := ["math/bits.deBruijn64tab"], apart := false, laid := [("math/bits.deBruijn64tab", laid_math_bits_deBruijn64tab)], narrowed := true }
def BitmapBackUptoSaid : Prop := bitmapBackUptoRow.holds Tryd.pinned (OpenSpec.upto bitmapBackSpec)

end Rows
end Go.Proofs.YtmolmamfmboeoaaDoor
