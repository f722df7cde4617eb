/- EvA20: law 20's awake, run by the kernel. -/
import Derived.Test.YtmcdlmgkjlodfaaGreatDoorEvRn
namespace Go.Proofs.YtmcdlmgkjlodfaaGreatDoor
namespace Ev
theorem aw20_ran : ranOk ((clP (nat_lit 300)).call 5 [] (h0 numG tabG 0)) = true := by kernel_rfl
end Ev
theorem aw20 (w : World) (hT : TabOK w) : Calls Tryz.prog 5 #[] w fun e w' => e = .returned (.bool true) ∧ Same w w' := Ev.ran_true Ev.aw20_ran w hT
end Go.Proofs.YtmcdlmgkjlodfaaGreatDoor
