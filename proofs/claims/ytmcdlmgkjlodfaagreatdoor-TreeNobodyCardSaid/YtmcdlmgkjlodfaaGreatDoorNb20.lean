/- Nb20: TreeNobody, run by the kernel, case by case. -/
import Derived.Test.YtmcdlmgkjlodfaaGreatDoorEvSy
import Derived.Test.YtmcdlmgkjlodfaaGreatDoorEvA20
namespace Go.Proofs.YtmcdlmgkjlodfaaGreatDoor
namespace Ev
noncomputable def awO (args : List AV) (h : Hp Xo) : Option (AV × Hp Xo) := match args, h.t.get tabG with
  | [], some (.x .tab) => some (.V (.C (.B true)), h)
  | _, _ => none
theorem awO_ok : YOk 5 awO := by
  intro ob vals hT args h h' z q V w xs s hr
  unfold awO at q
  split at q
  case h_2 => cases q
  rename_i hx
  injection q with q; injection q with q1 q2; subst q1; subst q2
  match xs, hr with
  | [], _ =>
    refine (aw20 w (hT w (tab_at s hx))).mono ?_
    rintro e w' ⟨rfl, k⟩
    obtain ⟨s1, x1⟩ := Sim.same s k
    exact ⟨_, rfl, V, rfl, s1, x1⟩
noncomputable def entN : List Eny := [⟨5, awO, awO_ok⟩]
/-- The unknown values: 0 the room, 1 the root, 2 the key, 3 the value, 4 the transaction, 5 the time, 6 the kind, 7 the key's length, 8 the value's length. -/
noncomputable def argN (gone : Bool) (room root : Ce) : List AV := [.V (.G [.X (nat_lit 70), .X (nat_lit 66), .X (nat_lit 68), .X (nat_lit 69), .B gone, .X (nat_lit 67)]), .V (.C room), .V (.C root)]
noncomputable def runN (l : List Fa) (gone : Bool) (root : Ce) : Bool := ranOk ((clO (tabOf Tryz.prog) numG (ixF (factF l) (lenF [(2, 7), (3, 8)])) (iyM entN) izP (nat_lit 100000) (nat_lit 300)).call 3 (argN gone (.X (nat_lit 64)) root) (h0 numG tabG 9))
theorem runN_key (g : Bool) : runN [⟨.gtr, 7, 100, true⟩] g (.X (nat_lit 65)) = true := by cases g <;> kernel_rfl
theorem runN_val (g : Bool) : runN [⟨.gtr, 7, 100, false⟩, ⟨.gtr, 8, 100, true⟩] g (.X (nat_lit 65)) = true := by cases g <;> kernel_rfl
/-- The room that may not be: too small, too great; that may be. -/
noncomputable def fLo : List Fa := [⟨.gtr, 7, 100, false⟩, ⟨.gtr, 8, 100, false⟩, ⟨.lss, 0, 1, true⟩, ⟨.geq, 0, 1, false⟩]
noncomputable def fHi : List Fa := [⟨.gtr, 7, 100, false⟩, ⟨.gtr, 8, 100, false⟩, ⟨.lss, 0, 1, false⟩, ⟨.gtr, 0, 4096, true⟩, ⟨.geq, 0, 1, true⟩, ⟨.leq, 0, 4096, false⟩]
noncomputable def fOk (l : List Fa) : List Fa := ⟨.gtr, 7, 100, false⟩ :: ⟨.gtr, 8, 100, false⟩ :: ⟨.lss, 0, 1, false⟩ :: ⟨.gtr, 0, 4096, false⟩ :: ⟨.geq, 0, 1, true⟩ :: ⟨.leq, 0, 4096, true⟩ :: l
theorem runN_lo (g : Bool) : runN fLo g (.X (nat_lit 65)) = true := by cases g <;> kernel_rfl
theorem runN_hi (g : Bool) : runN fHi g (.X (nat_lit 65)) = true := by cases g <;> kernel_rfl
theorem runN_neg (g : Bool) : runN (fOk [⟨.lss, 1, 0, true⟩, ⟨.geq, 1, 0, false⟩]) g (.X (nat_lit 65)) = true := by cases g <;> kernel_rfl
theorem runN_big (g : Bool) : runN (fOk [⟨.lss, 1, 0, false⟩, ⟨.geq, 1, 0, true⟩, ⟨.lss, 1, 8, false⟩, ⟨.geq, 1, 8, true⟩]) g (.X (nat_lit 65)) = true := by cases g <;> kernel_rfl
theorem runN_0 (g : Bool) : runN (fOk []) g (.I .i64 0) = true := by cases g <;> kernel_rfl
theorem runN_1 (g : Bool) : runN (fOk []) g (.I .i64 1) = true := by cases g <;> kernel_rfl
theorem runN_2 (g : Bool) : runN (fOk []) g (.I .i64 2) = true := by cases g <;> kernel_rfl
theorem runN_3 (g : Bool) : runN (fOk []) g (.I .i64 3) = true := by cases g <;> kernel_rfl
theorem runN_4 (g : Bool) : runN (fOk []) g (.I .i64 4) = true := by cases g <;> kernel_rfl
theorem runN_5 (g : Bool) : runN (fOk []) g (.I .i64 5) = true := by cases g <;> kernel_rfl
theorem runN_6 (g : Bool) : runN (fOk []) g (.I .i64 6) = true := by cases g <;> kernel_rfl
theorem runN_7 (g : Bool) : runN (fOk []) g (.I .i64 7) = true := by cases g <;> kernel_rfl
end Ev
end Go.Proofs.YtmcdlmgkjlodfaaGreatDoor
