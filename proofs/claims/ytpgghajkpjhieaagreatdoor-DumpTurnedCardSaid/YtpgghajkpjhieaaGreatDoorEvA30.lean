/- EvA30: law 30's awake, run by the kernel. -/
import Derived.Test.YtpgghajkpjhieaaGreatDoorEvRn
namespace Go.Proofs.YtpgghajkpjhieaaGreatDoor
namespace Ev
theorem aw30_ran : ranOk ((clP (nat_lit 300)).call 7 [] (h0 numG tabG 0)) = true := by kernel_rfl
end Ev
theorem aw30 (w : World) (hT : TabOK w) : Calls Tryz.prog 7 #[] w fun e w' => e = .returned (.bool true) ∧ Same w w' := Ev.ran_true Ev.aw30_ran w hT
end Go.Proofs.YtpgghajkpjhieaaGreatDoor
