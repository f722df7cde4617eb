/- What every right program has behind a lost record: in plain words. -/
import Derived.Test.YtlmpkonfclnceaaGreatRp3
import Derived.Test.YtlmpkonfclnceaaGreatWl8
namespace Go.Proofs.YtlmpkonfclnceaaGreat
open Go.RowKit

def tD0 : Dsk := newD 9
def tL0 : Lg := newL 1 8 1
def tL1 : Lg := addL tL0 [97]
def tL2 : Lg := (syncL tL1 tD0).1
def tD2 : Dsk := (syncL tL1 tD0).2.1
def tL3 : Lg := addL tL2 [98]
def tD3 : Dsk := powerD tD2 []
def tL4 : Lg := openL tD3 1 8 1
def tL5 : Lg := addL tL4 [120]
def tL6 : Lg := restartL tL5 2
theorem t1 : newE tD0 1 8 1 = 0 := by kernel_rfl
theorem t2 : addE tL0 [97] = 0 := by kernel_rfl
theorem t3 : (syncL tL1 tD0).2.2 = 0 := by kernel_rfl
theorem t4 : addE tL2 [98] = 0 := by kernel_rfl
theorem t5 : tL3.wait.length = 1 := by kernel_rfl
theorem t6 : newE tD3 1 8 1 = 0 := by kernel_rfl
theorem t7 : tL4.has = [[97]] := by kernel_rfl
theorem t8 : addE tL4 [120] = 11 := by kernel_rfl
theorem t9 : restartE tL5 2 = 0 := by kernel_rfl
theorem t10 : tL6.epoch = 2 := by kernel_rfl
theorem t11 : leftL tL6 = 8 := by kernel_rfl
theorem t12 : tL6.closed = false := by kernel_rfl
theorem t13 : tD0.s.length = 9 := by kernel_rfl
theorem t14 : tD2.s.length = 9 := by kernel_rfl
theorem t15 : tD3.s.length = 9 := by kernel_rfl
theorem t16 : tL6.at_ ≤ tL6.count ∧ tL6.count ≤ 256 := by decide
end Go.Proofs.YtlmpkonfclnceaaGreat
