/- Nb24c: DbNobody, run by the kernel, case by case. -/
import Derived.Test.YtlkgdpdnhnakoaaGreatDoorNb24a
namespace Go.Proofs.YtlkgdpdnhnakoaaGreatDoor
namespace Ev
theorem runB_ok0 : ([0, 1] : List Int).all (fun k => runB bOk [] mxO (.I .i64 k)) = true := by kernel_rfl
theorem runB_ok1 : ([2, 3] : List Int).all (fun k => runB bOk [] mxO (.I .i64 k)) = true := by kernel_rfl
theorem runB_ok2 : ([4, 5] : List Int).all (fun k => runB bOk [] mxO (.I .i64 k)) = true := by kernel_rfl
theorem runB_ok3 : ([6, 7] : List Int).all (fun k => runB bOk [] mxO (.I .i64 k)) = true := by kernel_rfl
theorem runB_ok4 : ([8, 9] : List Int).all (fun k => runB bOk [] mxO (.I .i64 k)) = true := by kernel_rfl
theorem runB_ok5 : ([10, 11] : List Int).all (fun k => runB bOk [] mxO (.I .i64 k)) = true := by kernel_rfl
end Ev
end Go.Proofs.YtlkgdpdnhnakoaaGreatDoor
