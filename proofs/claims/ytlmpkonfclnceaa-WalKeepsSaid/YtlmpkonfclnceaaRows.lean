/-
  No cell of these rows narrows 'for every input' (looked for: loops, veiled, ifaces, maps, wideKeys, modest, calm, conditions, laid).
  DERIVED. THE GIVEN ROWS OF THIS SEAT. 9 by the template 'for every input the law returns true; each argument reads behind the call as it read before'; 0 by the template 'total and deterministic' (their statements: YtlmpkonfclnceaaTotals.lean).
  GIVEN WITH THE SEED: the statements are not yours to turn. If you find one false, say at which input.
  Laid BY PROGRAM, IN A SANDBOX (cutbox-rows.mjs): the forced cells as the released guide's own fill.sh prints them over the translation 66b3235a0ea07b94… (all of the seat's roots in one cut). By AI agents, Wed Nov 11 2026. No macro, syntax, notation, axiom, sorry.
-/
import Derived.Test.YtlmpkonfclnceaaChecked
import GoSem.Claim
import GoSem.ClaimJoined
import GoSem.ClaimMapViews
import Derived.JoinedTies
import Derived.KernelRfl
namespace Go.Proofs.Ytlmpkonfclnceaa
/- THE CELL 'sum', in the pinned program and in every row, IS THE sha256 OF THE DUMP (.gsa) THAT YtlmpkonfclnceaaProg.lean LOADS. Nothing in Lean hashes anything: it is a label: what it is worth is what the hold of that sum in a sandbox is worth. -/
noncomputable def Try.pinned : Pinned := { name := "ytlmpkonfclnceaa", sum := "66b3235a0ea07b9499a6c4204d9d6f1bb0f3d7fd47fc71d4881de5909b3d7592", checked := Try.checked }
namespace Rows
def none {H : Type} : Left H := { results := [], args := [] }

/-- 'fasciclelaw03.SectorSafe': WHATEVER THE INPUT: true; the input reads as it did. -/
def sectorSafeSpec : ChangeSpec := { name := "sectorSafe", fn := fun _ => fun
  | [d1, d2, d3] => { results := [.lit (.bool true)], args := [d1, d2, d3] }
  | _ => none }
def sectorSafeRow : OpenClaim := { program := "ytlmpkonfclnceaa", sum := "66b3235a0ea07b9499a6c4204d9d6f1bb0f3d7fd47fc71d4881de5909b3d7592", func := "fascicle/fasciclelaw03.SectorSafe", spec := "sectorSafe", unfollowed := true, recurses := true, apart := false }
def SectorSafeSaid : Prop := sectorSafeRow.holds Try.pinned (OpenSpec.ofChange sectorSafeSpec)

/-- ITS FALSE NEIGHBOUR: 'it returns false'. Refute it at one input. -/
def sectorSafeWrong : ChangeSpec := { name := "sectorSafe", fn := fun _ => fun
  | [d1, d2, d3] => { results := [.lit (.bool false)], args := [d1, d2, d3] }
  | _ => none }
def SectorSafeWrongFalsely : Prop := sectorSafeRow.holds Try.pinned (OpenSpec.ofChange sectorSafeWrong)

/-- 'fasciclelaw03.SectorPlays': WHATEVER THE INPUT: true; the input reads as it did. -/
def sectorPlaysSpec : ChangeSpec := { name := "sectorPlays", fn := fun _ => fun
  | [d1, d2] => { results := [.lit (.bool true)], args := [d1, d2] }
  | _ => none }
def sectorPlaysRow : OpenClaim := { program := "ytlmpkonfclnceaa", sum := "66b3235a0ea07b9499a6c4204d9d6f1bb0f3d7fd47fc71d4881de5909b3d7592", func := "fascicle/fasciclelaw03.SectorPlays", spec := "sectorPlays", unfollowed := true, recurses := true, apart := false }
def SectorPlaysSaid : Prop := sectorPlaysRow.holds Try.pinned (OpenSpec.ofChange sectorPlaysSpec)

/-- ITS FALSE NEIGHBOUR: 'it returns false'. Refute it at one input. -/
def sectorPlaysWrong : ChangeSpec := { name := "sectorPlays", fn := fun _ => fun
  | [d1, d2] => { results := [.lit (.bool false)], args := [d1, d2] }
  | _ => none }
def SectorPlaysWrongFalsely : Prop := sectorPlaysRow.holds Try.pinned (OpenSpec.ofChange sectorPlaysWrong)

/-- 'fasciclelaw03.SectorApart': WHATEVER THE INPUT: true; the input reads as it did. -/
def sectorApartSpec : ChangeSpec := { name := "sectorApart", fn := fun _ => fun
  | [d1, d2, d3] => { results := [.lit (.bool true)], args := [d1, d2, d3] }
  | _ => none }
def sectorApartRow : OpenClaim := { program := "ytlmpkonfclnceaa", sum := "66b3235a0ea07b9499a6c4204d9d6f1bb0f3d7fd47fc71d4881de5909b3d7592", func := "fascicle/fasciclelaw03.SectorApart", spec := "sectorApart", inPlace := ["maps.clone"], unfollowed := true, recurses := true, apart := false }
def SectorApartSaid : Prop := sectorApartRow.holds Try.pinned (OpenSpec.ofChange sectorApartSpec)

/-- ITS FALSE NEIGHBOUR: 'it returns false'. Refute it at one input. -/
def sectorApartWrong : ChangeSpec := { name := "sectorApart", fn := fun _ => fun
  | [d1, d2, d3] => { results := [.lit (.bool false)], args := [d1, d2, d3] }
  | _ => none }
def SectorApartWrongFalsely : Prop := sectorApartRow.holds Try.pinned (OpenSpec.ofChange sectorApartWrong)

/-- 'fasciclelaw03.SectorForks': WHATEVER THE INPUT: true; the input reads as it did. -/
def sectorForksSpec : ChangeSpec := { name := "sectorForks", fn := fun _ => fun
  | [d1, d2] => { results := [.lit (.bool true)], args := [d1, d2] }
  | _ => none }
def sectorForksRow : OpenClaim := { program := "ytlmpkonfclnceaa", sum := "66b3235a0ea07b9499a6c4204d9d6f1bb0f3d7fd47fc71d4881de5909b3d7592", func := "fascicle/fasciclelaw03.SectorForks", spec := "sectorForks", inPlace := ["maps.clone"], unfollowed := true, recurses := true, apart := false }
def SectorForksSaid : Prop := sectorForksRow.holds Try.pinned (OpenSpec.ofChange sectorForksSpec)

/-- ITS FALSE NEIGHBOUR: 'it returns false'. Refute it at one input. -/
def sectorForksWrong : ChangeSpec := { name := "sectorForks", fn := fun _ => fun
  | [d1, d2] => { results := [.lit (.bool false)], args := [d1, d2] }
  | _ => none }
def SectorForksWrongFalsely : Prop := sectorForksRow.holds Try.pinned (OpenSpec.ofChange sectorForksWrong)

/-- 'fasciclelaw04.BlocksStay': WHATEVER THE INPUT: true; the input reads as it did. -/
def blocksStaySpec : ChangeSpec := { name := "blocksStay", fn := fun _ => fun
  | [d1, d2, d3] => { results := [.lit (.bool true)], args := [d1, d2, d3] }
  | _ => none }
def blocksStayRow : OpenClaim := { program := "ytlmpkonfclnceaa", sum := "66b3235a0ea07b9499a6c4204d9d6f1bb0f3d7fd47fc71d4881de5909b3d7592", func := "fascicle/fasciclelaw04.BlocksStay", spec := "blocksStay", unfollowed := true, recurses := true, apart := false }
def BlocksStaySaid : Prop := blocksStayRow.holds Try.pinned (OpenSpec.ofChange blocksStaySpec)

/-- ITS FALSE NEIGHBOUR: 'it returns false'. Refute it at one input. -/
def blocksStayWrong : ChangeSpec := { name := "blocksStay", fn := fun _ => fun
  | [d1, d2, d3] => { results := [.lit (.bool false)], args := [d1, d2, d3] }
  | _ => none }
def BlocksStayWrongFalsely : Prop := blocksStayRow.holds Try.pinned (OpenSpec.ofChange blocksStayWrong)

/-- 'fasciclelaw04.BlocksApart': WHATEVER THE INPUT: true; the input reads as it did. -/
def blocksApartSpec : ChangeSpec := { name := "blocksApart", fn := fun _ => fun
  | [d1, d2, d3] => { results := [.lit (.bool true)], args := [d1, d2, d3] }
  | _ => none }
def blocksApartRow : OpenClaim := { program := "ytlmpkonfclnceaa", sum := "66b3235a0ea07b9499a6c4204d9d6f1bb0f3d7fd47fc71d4881de5909b3d7592", func := "fascicle/fasciclelaw04.BlocksApart", spec := "blocksApart", unfollowed := true, recurses := true, apart := false }
def BlocksApartSaid : Prop := blocksApartRow.holds Try.pinned (OpenSpec.ofChange blocksApartSpec)

/-- ITS FALSE NEIGHBOUR: 'it returns false'. Refute it at one input. -/
def blocksApartWrong : ChangeSpec := { name := "blocksApart", fn := fun _ => fun
  | [d1, d2, d3] => { results := [.lit (.bool false)], args := [d1, d2, d3] }
  | _ => none }
def BlocksApartWrongFalsely : Prop := blocksApartRow.holds Try.pinned (OpenSpec.ofChange blocksApartWrong)

/-- 'fasciclelaw04.BlocksPlay': WHATEVER THE INPUT: true; the input reads as it did. -/
def blocksPlaySpec : ChangeSpec := { name := "blocksPlay", fn := fun _ => fun
  | [d1, d2, d3] => { results := [.lit (.bool true)], args := [d1, d2, d3] }
  | _ => none }
def blocksPlayRow : OpenClaim := { program := "ytlmpkonfclnceaa", sum := "66b3235a0ea07b9499a6c4204d9d6f1bb0f3d7fd47fc71d4881de5909b3d7592", func := "fascicle/fasciclelaw04.BlocksPlay", spec := "blocksPlay", unfollowed := true, recurses := true, apart := false }
def BlocksPlaySaid : Prop := blocksPlayRow.holds Try.pinned (OpenSpec.ofChange blocksPlaySpec)

/-- ITS FALSE NEIGHBOUR: 'it returns false'. Refute it at one input. -/
def blocksPlayWrong : ChangeSpec := { name := "blocksPlay", fn := fun _ => fun
  | [d1, d2, d3] => { results := [.lit (.bool false)], args := [d1, d2, d3] }
  | _ => none }
def BlocksPlayWrongFalsely : Prop := blocksPlayRow.holds Try.pinned (OpenSpec.ofChange blocksPlayWrong)

/-- 'fasciclelaw10.WalRoom': WHATEVER THE INPUT: true; the input reads as it did. -/
def walRoomSpec : ChangeSpec := { name := "walRoom", fn := fun _ => fun
  | [d1, d2] => { results := [.lit (.bool true)], args := [d1, d2] }
  | _ => none }
def walRoomRow : OpenClaim := { program := "ytlmpkonfclnceaa", sum := "66b3235a0ea07b9499a6c4204d9d6f1bb0f3d7fd47fc71d4881de5909b3d7592", func := "fascicle/fasciclelaw10.WalRoom", spec := "walRoom", unfollowed := true, recurses := true, apart := false }
def WalRoomSaid : Prop := walRoomRow.holds Try.pinned (OpenSpec.ofChange walRoomSpec)

/-- ITS FALSE NEIGHBOUR: 'it returns false'. Refute it at one input. -/
def walRoomWrong : ChangeSpec := { name := "walRoom", fn := fun _ => fun
  | [d1, d2] => { results := [.lit (.bool false)], args := [d1, d2] }
  | _ => none }
def WalRoomWrongFalsely : Prop := walRoomRow.holds Try.pinned (OpenSpec.ofChange walRoomWrong)

/-- 'fasciclelaw10.WalKeeps': WHATEVER THE INPUT: true; the input reads as it did. -/
def walKeepsSpec : ChangeSpec := { name := "walKeeps", fn := fun _ => fun
  | [d] => { results := [.lit (.bool true)], args := [d] }
  | _ => none }
def walKeepsRow : OpenClaim := { program := "ytlmpkonfclnceaa", sum := "66b3235a0ea07b9499a6c4204d9d6f1bb0f3d7fd47fc71d4881de5909b3d7592", func := "fascicle/fasciclelaw10.WalKeeps", spec := "walKeeps", unfollowed := true, recurses := true, apart := false }
def WalKeepsSaid : Prop := walKeepsRow.holds Try.pinned (OpenSpec.ofChange walKeepsSpec)

/-- ITS FALSE NEIGHBOUR: 'it returns false'. Refute it at one input. -/
def walKeepsWrong : ChangeSpec := { name := "walKeeps", fn := fun _ => fun
  | [d] => { results := [.lit (.bool false)], args := [d] }
  | _ => none }
def WalKeepsWrongFalsely : Prop := walKeepsRow.holds Try.pinned (OpenSpec.ofChange walKeepsWrong)

/- THE SECOND FORM. 'bulk': how many values and letters a reading holds, each counted each time it is reached (what is shared counts as often as it is met; a slice's spare places count too). A statement '..UptoSaid' is the law's where the arguments, and the package variables that the reading takes, are together of bulk at most 1048576: NARROWER than '..Said'. Prove '..Said' where nothing that the law and all that it calls make is longer than what came in: it says more and counts as full. Else prove '..UptoSaid'. A law counts once. -/
mutual
def uptoBulk {H : Type} : DataW H → Nat
  | .lit (.string bytes) => bytes.length + 1
  | .lit _ => 1
  | .nil => 1
  | .ptr d => uptoBulk d + 1
  | .slice elems spare => uptoBulkAll elems + uptoBulkAll spare + 1
  | .agg parts => uptoBulkAll parts + 1
  | .iface _ d => uptoBulk d + 1
  | .map entries => uptoBulkEntries entries + 1
  | .held _ => 1
def uptoBulkAll {H : Type} : List (DataW H) → Nat
  | [] => 0
  | d :: r => uptoBulk d + uptoBulkAll r
def uptoBulkEntries {H : Type} : List (Lit × DataW H) → Nat
  | [] => 0
  | x :: r => uptoBulkEntry x + uptoBulkEntries r
def uptoBulkEntry {H : Type} : Lit × DataW H → Nat
  | (.string bytes, d) => bytes.length + uptoBulk d + 1
  | (_, d) => uptoBulk d + 1
 end
def uptoSmall : (H : Type) → List (DataW H) → Bool := fun _ ds => decide (uptoBulkAll ds ≤ 1048576)
def OpenSpec.upto (s : _root_.Go.ChangeSpec) : _root_.Go.OpenSpec := { _root_.Go.OpenSpec.ofChange s with cond := some uptoSmall }

/-- 'fasciclelaw03.SectorSafe', WHERE WHAT IT READS IS OF BULK AT MOST 1048576: true; the input reads as it did. -/
def sectorSafeUptoRow : OpenClaim := { program := "ytlmpkonfclnceaa", sum := "66b3235a0ea07b9499a6c4204d9d6f1bb0f3d7fd47fc71d4881de5909b3d7592", func := "fascicle/fasciclelaw03.SectorSafe", spec := "sectorSafe", unfollowed := true, recurses := true, apart := false, narrowed := true }
def SectorSafeUptoSaid : Prop := sectorSafeUptoRow.holds Try.pinned (OpenSpec.upto sectorSafeSpec)

/-- 'fasciclelaw03.SectorPlays', WHERE WHAT IT READS IS OF BULK AT MOST 1048576: true; the input reads as it did. -/
def sectorPlaysUptoRow : OpenClaim := { program := "ytlmpkonfclnceaa", sum := "66b3235a0ea07b9499a6c4204d9d6f1bb0f3d7fd47fc71d4881de5909b3d7592", func := "fascicle/fasciclelaw03.SectorPlays", spec := "sectorPlays", unfollowed := true, recurses := true, apart := false, narrowed := true }
def SectorPlaysUptoSaid : Prop := sectorPlaysUptoRow.holds Try.pinned (OpenSpec.upto sectorPlaysSpec)

/-- 'fasciclelaw03.SectorApart', WHERE WHAT IT READS IS OF BULK AT MOST 1048576: true; the input reads as it did. -/
def sectorApartUptoRow : OpenClaim := { program := "ytlmpkonfclnceaa", sum := "66b3235a0ea07b9499a6c4204d9d6f1bb0f3d7fd47fc71d4881de5909b3d7592", func := "fascicle/fasciclelaw03.SectorApart", spec := "sectorApart", inPlace := ["maps.clone"], unfollowed := true, recurses := true, apart := false, narrowed := true }
def SectorApartUptoSaid : Prop := sectorApartUptoRow.holds Try.pinned (OpenSpec.upto sectorApartSpec)

/-- 'fasciclelaw03.SectorForks', WHERE WHAT IT READS IS OF BULK AT MOST 1048576: true; the input reads as it did. -/
def sectorForksUptoRow : OpenClaim := { program := "ytlmpkonfclnceaa", sum := "66b3235a0ea07b9499a6c4204d9d6f1bb0f3d7fd47fc71d4881de5909b3d7592", func := "fascicle/fasciclelaw03.SectorForks", spec := "sectorForks", inPlace := ["maps.clone"], unfollowed := true, recurses := true, apart := false, narrowed := true }
def SectorForksUptoSaid : Prop := sectorForksUptoRow.holds Try.pinned (OpenSpec.upto sectorForksSpec)

/-- 'fasciclelaw04.BlocksStay', WHERE WHAT IT READS IS OF BULK AT MOST 1048576: true; the input reads as it did. -/
def blocksStayUptoRow : OpenClaim := { program := "ytlmpkonfclnceaa", sum := "66b3235a0ea07b9499a6c4204d9d6f1bb0f3d7fd47fc71d4881de5909b3d7592", func := "fascicle/fasciclelaw04.BlocksStay", spec := "blocksStay", unfollowed := true, recurses := true, apart := false, narrowed := true }
def BlocksStayUptoSaid : Prop := blocksStayUptoRow.holds Try.pinned (OpenSpec.upto blocksStaySpec)

/-- 'fasciclelaw04.BlocksApart', WHERE WHAT IT READS IS OF BULK AT MOST 1048576: true; the input reads as it did. -/
def blocksApartUptoRow : OpenClaim := { program := "ytlmpkonfclnceaa", sum := "66b3235a0ea07b9499a6c4204d9d6f1bb0f3d7fd47fc71d4881de5909b3d7592", func := "fascicle/fasciclelaw04.BlocksApart", spec := "blocksApart", unfollowed := true, recurses := true, apart := false, narrowed := true }
def BlocksApartUptoSaid : Prop := blocksApartUptoRow.holds Try.pinned (OpenSpec.upto blocksApartSpec)

/-- 'fasciclelaw04.BlocksPlay', WHERE WHAT IT READS IS OF BULK AT MOST 1048576: true; the input reads as it did. -/
def blocksPlayUptoRow : OpenClaim := { program := "ytlmpkonfclnceaa", sum := "66b3235a0ea07b9499a6c4204d9d6f1bb0f3d7fd47fc71d4881de5909b3d7592", func := "fascicle/fasciclelaw04.BlocksPlay", spec := "blocksPlay", unfollowed := true, recurses := true, apart := false, narrowed := true }
def BlocksPlayUptoSaid : Prop := blocksPlayUptoRow.holds Try.pinned (OpenSpec.upto blocksPlaySpec)

/-- 'fasciclelaw10.WalRoom', WHERE WHAT IT READS IS OF BULK AT MOST 1048576: true; the input reads as it did. -/
def walRoomUptoRow : OpenClaim := { program := "ytlmpkonfclnceaa", sum := "66b3235a0ea07b9499a6c4204d9d6f1bb0f3d7fd47fc71d4881de5909b3d7592", func := "fascicle/fasciclelaw10.WalRoom", spec := "walRoom", unfollowed := true, recurses := true, apart := false, narrowed := true }
def WalRoomUptoSaid : Prop := walRoomUptoRow.holds Try.pinned (OpenSpec.upto walRoomSpec)

/-- 'fasciclelaw10.WalKeeps', WHERE WHAT IT READS IS OF BULK AT MOST 1048576: true; the input reads as it did. -/
def walKeepsUptoRow : OpenClaim := { program := "ytlmpkonfclnceaa", sum := "66b3235a0ea07b9499a6c4204d9d6f1bb0f3d7fd47fc71d4881de5909b3d7592", func := "fascicle/fasciclelaw10.WalKeeps", spec := "walKeeps", unfollowed := true, recurses := true, apart := false, narrowed := true }
def WalKeepsUptoSaid : Prop := walKeepsUptoRow.holds Try.pinned (OpenSpec.upto walKeepsSpec)

end Rows
end Go.Proofs.Ytlmpkonfclnceaa
