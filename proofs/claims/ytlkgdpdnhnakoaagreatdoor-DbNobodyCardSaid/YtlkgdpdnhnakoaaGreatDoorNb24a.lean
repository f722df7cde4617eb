/- Nb24a: DbNobody, run by the kernel, case by case. -/
import Derived.Test.YtlkgdpdnhnakoaaGreatDoorDn24
namespace Go.Proofs.YtlkgdpdnhnakoaaGreatDoor
namespace Ev
noncomputable def awB (args : List AV) (h : Hp Xo) : Option (AV × Hp Xo) := match args, h.t.get tabG with
  | [], some (.x .tab) => some (.V (.C (.B true)), h)
  | _, _ => none
/-- Do of a db that is not there. -/
noncomputable def doB (args : List AV) (h : Hp Xo) : Option (AV × Hp Xo) := match args with
  | [.V (.C (.P none)), .V (.G [.X a, .X b, .X c, .X d, .X e])] => match symIs h a 0, symIs h b 1, symIs h c 2, symIs h d 3, symIs h e 4, h.t.get tabG with
    | true, true, true, true, true, some (.x .tab) => some (.V toldN, h)
    | _, _, _, _, _, _ => none
  | _ => none
noncomputable def entB : List EnyF := [⟨6, awB⟩, ⟨13, doB⟩]
/-- The unknown values: 0 to 4 the call (kind, transaction, key, value, number), 5 the log's sectors, 6 the room, 7 the key's length, 8 the value's length, 9 52 less the log, 10 a quarter of it, 11 that or 0, 12 1 less the room, 13 that or 0. -/
noncomputable def runB (l : List Fq) (mn mx : List Fm) (log : Ce) : Bool := ranOk ((clO (tabOf Tryz.prog) numG (ixF (factQ l) (biQ [(2, 7), (3, 8)] mn mx)) (iyV entB) izP (nat_lit 100000) (nat_lit 300)).call 3 [argA, .V (.C log), .V (.C (.X (nat_lit 70)))] (h0 numG tabG (nat_lit 14)))
noncomputable def fKv (l : List Fq) : List Fq := ⟨.gtr, .i64, true, 7, 100, .B false⟩ :: ⟨.gtr, .i64, true, 8, 100, .B false⟩ :: l
noncomputable def bNeg : List Fq := fKv [⟨.lss, .i64, true, 5, 0, .B true⟩, ⟨.geq, .i64, true, 5, 0, .B false⟩]
noncomputable def bBig : List Fq := fKv [⟨.lss, .i64, true, 5, 0, .B false⟩, ⟨.gtr, .i64, true, 5, 256, .B true⟩, ⟨.geq, .i64, true, 5, 0, .B true⟩, ⟨.leq, .i64, true, 5, 36, .B false⟩]
noncomputable def bMid : List Fq := fKv [⟨.lss, .i64, true, 5, 0, .B false⟩, ⟨.gtr, .i64, true, 5, 256, .B false⟩, ⟨.geq, .i64, true, 5, 0, .B true⟩, ⟨.leq, .i64, true, 5, 36, .B false⟩, ⟨.sub, .i64, false, 5, 52, .X (nat_lit 73)⟩, ⟨.quo, .i64, true, 9, 4, .X (nat_lit 74)⟩, ⟨.lss, .i64, true, 11, 4, .B true⟩]
noncomputable def bLo : List Fq := fKv [⟨.lss, .i64, true, 6, 1, .B true⟩, ⟨.geq, .i64, true, 6, 1, .B false⟩]
noncomputable def bHi : List Fq := fKv [⟨.lss, .i64, true, 6, 1, .B false⟩, ⟨.gtr, .i64, true, 6, 4096, .B true⟩, ⟨.geq, .i64, true, 6, 1, .B true⟩, ⟨.leq, .i64, true, 6, 4096, .B false⟩]
noncomputable def bOk : List Fq := fKv [⟨.lss, .i64, true, 6, 1, .B false⟩, ⟨.gtr, .i64, true, 6, 4096, .B false⟩, ⟨.geq, .i64, true, 6, 1, .B true⟩, ⟨.leq, .i64, true, 6, 4096, .B true⟩, ⟨.sub, .i64, false, 6, 1, .X (nat_lit 76)⟩, ⟨.eql, .i64, true, 13, 0, .B true⟩]
def mnM : List Fm := [⟨512, 10, 10⟩]
def mxM : List Fm := [⟨0, 10, 11⟩]
def mxO : List Fm := [⟨0, 6, 6⟩, ⟨0, 12, 13⟩]
theorem runB_key : runB [⟨.gtr, .i64, true, 7, 100, .B true⟩] [] [] (.X (nat_lit 69)) = true := by kernel_rfl
theorem runB_val : runB [⟨.gtr, .i64, true, 7, 100, .B false⟩, ⟨.gtr, .i64, true, 8, 100, .B true⟩] [] [] (.X (nat_lit 69)) = true := by kernel_rfl
theorem runB_neg : runB bNeg [] [] (.X (nat_lit 69)) = true := by kernel_rfl
theorem runB_big : runB bBig [] [] (.X (nat_lit 69)) = true := by kernel_rfl
theorem runB_mid : runB bMid mnM mxM (.X (nat_lit 69)) = true := by kernel_rfl
theorem runB_lo0 : ([0, 1, 2, 3, 4, 5] : List Int).all (fun k => runB bLo [] [] (.I .i64 k)) = true := by kernel_rfl
theorem runB_lo1 : ([6, 7, 8, 9, 10, 11] : List Int).all (fun k => runB bLo [] [] (.I .i64 k)) = true := by kernel_rfl
theorem runB_lo2 : ([12, 13, 14, 15, 16, 17] : List Int).all (fun k => runB bLo [] [] (.I .i64 k)) = true := by kernel_rfl
theorem runB_lo3 : ([18, 19, 20, 21, 22, 23] : List Int).all (fun k => runB bLo [] [] (.I .i64 k)) = true := by kernel_rfl
theorem runB_lo4 : ([24, 25, 26, 27, 28, 29] : List Int).all (fun k => runB bLo [] [] (.I .i64 k)) = true := by kernel_rfl
theorem runB_lo5 : ([30, 31, 32, 33, 34, 35] : List Int).all (fun k => runB bLo [] [] (.I .i64 k)) = true := by kernel_rfl
theorem runB_lo6 : ([36] : List Int).all (fun k => runB bLo [] [] (.I .i64 k)) = true := by kernel_rfl
end Ev
end Go.Proofs.YtlkgdpdnhnakoaaGreatDoor
