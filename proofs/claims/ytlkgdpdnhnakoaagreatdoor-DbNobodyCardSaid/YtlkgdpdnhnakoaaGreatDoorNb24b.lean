/- Nb24b: DbNobody, run by the kernel, case by case. -/
import Derived.Test.YtlkgdpdnhnakoaaGreatDoorNb24a
namespace Go.Proofs.YtlkgdpdnhnakoaaGreatDoor
namespace Ev
theorem runB_hi0 : ([0, 1, 2, 3, 4, 5] : List Int).all (fun k => runB bHi [] [] (.I .i64 k)) = true := by kernel_rfl
theorem runB_hi1 : ([6, 7, 8, 9, 10, 11] : List Int).all (fun k => runB bHi [] [] (.I .i64 k)) = true := by kernel_rfl
theorem runB_hi2 : ([12, 13, 14, 15, 16, 17] : List Int).all (fun k => runB bHi [] [] (.I .i64 k)) = true := by kernel_rfl
theorem runB_hi3 : ([18, 19, 20, 21, 22, 23] : List Int).all (fun k => runB bHi [] [] (.I .i64 k)) = true := by kernel_rfl
theorem runB_hi4 : ([24, 25, 26, 27, 28, 29] : List Int).all (fun k => runB bHi [] [] (.I .i64 k)) = true := by kernel_rfl
theorem runB_hi5 : ([30, 31, 32, 33, 34, 35] : List Int).all (fun k => runB bHi [] [] (.I .i64 k)) = true := by kernel_rfl
theorem runB_hi6 : ([36] : List Int).all (fun k => runB bHi [] [] (.I .i64 k)) = true := by kernel_rfl
end Ev
end Go.Proofs.YtlkgdpdnhnakoaaGreatDoor
