/- EvRn: a run of a call without arguments, from the start, that tells true. -/
import Derived.Test.YtlkgdpdnhnakoaaGreatDoorEvFa
namespace Go.Proofs.YtlkgdpdnhnakoaaGreatDoor
namespace Ev

noncomputable def ranOk (r : Option (AV × Hp Xo)) : Bool := match r with
  | some (.V (.C (.B true)), h) => match h.t.get tabG with
    | some (.x .tab) => true
    | _ => false
  | _ => false
theorem noGo : Tryz.prog.funcs.toList.all (fun F => !(F.name == "runtime.NumGoroutine")) = true := by kernel_rfl
theorem ran_true {n : Nat} {f : FuncId} (q : ranOk ((clP n).call f [] (h0 numG tabG 0)) = true) (w : World) (hT : TabOK w) :
    Calls Tryz.prog f #[] w fun e w' => e = .returned (.bool true) ∧ Same w w' := by
  rw [clP_eq] at q
  unfold ranOk at q
  split at q
  case h_2 => cases q
  rename_i h hq
  split at q
  case h_2 => cases q
  rename_i hx
  refine (run0 hq hx noGo hT).mono ?_
  rintro e w' ⟨u', V, rfl, hz, k⟩
  have hz : u' = .bool true := hz
  subst hz
  exact ⟨rfl, k⟩
end Ev
end Go.Proofs.YtlkgdpdnhnakoaaGreatDoor
