/- Two pairs, compared by value. -/
import Derived.Test.YtpgghajkpjhieaaGreatDoorHvP
import Derived.Test.YtpgghajkpjhieaaGreatDoorGEvD
import Derived.Test.YtpgghajkpjhieaaGreatDoorProg
namespace Go.Proofs.YtpgghajkpjhieaaGreatDoor
open Go.RowKit Go.Sort

theorem pairGrF : (fun a b c d : List UInt8 => Ev.eqGr (Ev.tabOf Tryz.prog) 42 [.S a, .S b] [.S c, .S d]) = fun a b c d => some ((a == c) && ((b == d) && true)) := by kernel_rfl
theorem pairDec (a b c d : List UInt8) : ((a == c) && ((b == d) && true)) = decide ((a, b) = (c, d)) := by
  rw [Bool.eq_iff_iff]
  simp
theorem pairGr (a b c d : List UInt8) : Ev.eqGr (Ev.tabOf Tryz.prog) 42 [.S a, .S b] [.S c, .S d] = some (decide ((a, b) = (c, d))) :=
  (congrFun (congrFun (congrFun (congrFun pairGrF a) b) c) d).trans (congrArg some (pairDec a b c d))
theorem eq_pair (w : World) (x y : HPr) : (Op.equalIn 10000 42 (.agg #[encStr x.1, encStr x.2]) (.agg #[encStr y.1, encStr y.2])).run Tryz.prog w = .ok (decide (x = y)) w := by
  have hA : (Ev.tabOf Tryz.prog).Ok := Ev.tab_ok (by kernel_rfl)
  exact (Ev.eqGr_run (V := fun _ => none) hA (pairGr x.1 x.2 y.1 y.2) (xs := [encStr x.1, encStr x.2]) (ys := [encStr y.1, encStr y.2]) ⟨rfl, rfl, trivial⟩ ⟨rfl, rfl, trivial⟩ w).2
end Go.Proofs.YtpgghajkpjhieaaGreatDoor
