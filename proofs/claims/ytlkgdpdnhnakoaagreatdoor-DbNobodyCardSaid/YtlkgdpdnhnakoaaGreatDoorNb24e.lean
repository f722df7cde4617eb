/- Nb24e: DbNobody, run by the kernel, case by case. -/
import Derived.Test.YtlkgdpdnhnakoaaGreatDoorNb24a
namespace Go.Proofs.YtlkgdpdnhnakoaaGreatDoor
namespace Ev
theorem runB_ok12 : ([24, 25] : List Int).all (fun k => runB bOk [] mxO (.I .i64 k)) = true := by kernel_rfl
theorem runB_ok13 : ([26, 27] : List Int).all (fun k => runB bOk [] mxO (.I .i64 k)) = true := by kernel_rfl
theorem runB_ok14 : ([28, 29] : List Int).all (fun k => runB bOk [] mxO (.I .i64 k)) = true := by kernel_rfl
theorem runB_ok15 : ([30, 31] : List Int).all (fun k => runB bOk [] mxO (.I .i64 k)) = true := by kernel_rfl
theorem runB_ok16 : ([32, 33] : List Int).all (fun k => runB bOk [] mxO (.I .i64 k)) = true := by kernel_rfl
theorem runB_ok17 : ([34, 35] : List Int).all (fun k => runB bOk [] mxO (.I .i64 k)) = true := by kernel_rfl
theorem runB_ok18 : ([36] : List Int).all (fun k => runB bOk [] mxO (.I .i64 k)) = true := by kernel_rfl
end Ev
end Go.Proofs.YtlkgdpdnhnakoaaGreatDoor
