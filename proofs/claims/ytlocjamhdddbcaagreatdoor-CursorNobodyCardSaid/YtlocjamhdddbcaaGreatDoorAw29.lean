/- Aw29: law 29's awake, run by the kernel. -/
import Derived.Test.YtlocjamhdddbcaaGreatDoorEvAd
namespace Go.Proofs.YtlocjamhdddbcaaGreatDoor
namespace Ev
noncomputable def entW : List EnyF := [⟨235, withO⟩, ⟨116, addO⟩]
theorem entW_ok : ∀ e ∈ entW, YOkV (fun _ => (0, 0)) e.f e.g := by
  intro e he
  simp only [entW, List.mem_cons, List.not_mem_nil, or_false] at he
  rcases he with rfl | rfl
  · exact with_ok.v _
  · exact add_ok.v _
theorem aw29_ran : ranOk ((clK (iyV entW) (nat_lit 300)).call 4 [] (h0 numG tabG 0)) = true := by kernel_rfl
end Ev
theorem aw29 (w : World) (hT : TabOK w) : Calls Tryz.prog 4 #[] w fun e w' => e = .returned (.bool true) ∧ Same w w' := Ev.ranL Ev.entW_ok Ev.aw29_ran w hT
end Go.Proofs.YtlocjamhdddbcaaGreatDoor
