/- Nb24d: DbNobody, run by the kernel, case by case. -/
import Derived.Test.YtlkgdpdnhnakoaaGreatDoorNb24a
namespace Go.Proofs.YtlkgdpdnhnakoaaGreatDoor
namespace Ev
theorem runB_ok6 : ([12, 13] : List Int).all (fun k => runB bOk [] mxO (.I .i64 k)) = true := by kernel_rfl
theorem runB_ok7 : ([14, 15] : List Int).all (fun k => runB bOk [] mxO (.I .i64 k)) = true := by kernel_rfl
theorem runB_ok8 : ([16, 17] : List Int).all (fun k => runB bOk [] mxO (.I .i64 k)) = true := by kernel_rfl
theorem runB_ok9 : ([18, 19] : List Int).all (fun k => runB bOk [] mxO (.I .i64 k)) = true := by kernel_rfl
theorem runB_ok10 : ([20, 21] : List Int).all (fun k => runB bOk [] mxO (.I .i64 k)) = true := by kernel_rfl
theorem runB_ok11 : ([22, 23] : List Int).all (fun k => runB bOk [] mxO (.I .i64 k)) = true := by kernel_rfl
end Ev
end Go.Proofs.YtlkgdpdnhnakoaaGreatDoor
