/- A region that draws its order, in the round of a range over a function: walked as anywhere; no program in sight. -/
import Derived.Test.YtaeiajodbpgbbaaHeldT
import Derived.RangeFuncNested
import Derived.RangeFuncCalls
import Derived.TacticsInMore
import Derived.OwnWalkIn
namespace Go.Proofs.Ytaeiajodbpgbbaa
open Go.RowKit

section
variable {P : Program} {md : Region.Mode} {ops : Array Oper} {Q : Exit → Act → World → Prop} {S : World → Prop} {s n r : Nat}
/-- No defer statement. -/
def noDef (ops : Array Oper) : Bool := ops.all fun o => match o.op with | .defer _ => false | _ => true
theorem noDef_spec {ops : Array Oper} (h : noDef ops = true) {i : Nat} {o : Oper} (ho : ops[i]? = some o) (c : Call) : o.op ≠ .defer c := by
  intro q
  unfold noDef at h
  have := (Array.all_eq_true.1 h) i (Array.getElem?_eq_some_iff.1 ho).1
  rw [(Array.getElem?_eq_some_iff.1 ho).2, q] at this
  cases this
theorem Oper.wpIn_round {o : Oper} {a : Act} {w : World} {K : Act → World → Prop} (hd : ∀ c, o.op ≠ .defer c) (h : o.wp P a w K Q) : o.wpIn (Fence.wide.inRound r) n P a w K Q := by
  refine ⟨fun _ _ => trivial, ?_⟩
  rw [Oper.semAt_eq _ _ _ hd]
  unfold Oper.wp at h
  revert h
  generalize (execOp a.eval o).run P w = res
  intro h
  cases res with
  | ok nx w' =>
    cases nx
    case enter f args => exact ⟨fun q => (by cases q), CallsIn.inRound r (callsIn_wide.2 h)⟩
    case row row args => exact ⟨fun q => (by cases q), fun c cs _ => let ⟨v, w', q, st⟩ := h c cs; ⟨v, w', q, stepsIn_wide.2 st⟩⟩
    all_goals first | exact h | exact h.elim
  | halt x w' => cases x <;> exact h
theorem wpOpIn_of_wpOp (hd : noDef ops = true) (hlo : ∀ a w, ¬ Q .outgrown a w) {i : Nat} {K K' : Act → World → Prop} {a : Act} {w : World} (hK : ∀ a w, K a w → K' a w) (h : wpOp P ops Q i K a w) : wpOpIn (Fence.wide.inRound r) n P ops Q i K' a w := by
  unfold wpOp at h
  unfold wpOpIn
  cases ho : ops[i]? with
  | none => simp only [ho] at h ⊢; exact hK _ _ h
  | some o =>
    simp only [ho] at h ⊢
    split
    · rename_i hw
      rw [if_pos hw] at h
      rcases h with h | ⟨_, a', w', h⟩
      · exact Oper.wpIn_mono hK (Oper.wpIn_round (noDef_spec hd ho) h)
      · exact (hlo _ _ h).elim
    · rename_i hw
      rw [if_neg hw] at h
      exact ⟨fun _ _ => trivial, hK _ _ h⟩
theorem wpAnyIn_of_wpAny (hd : noDef ops = true) (hlo : ∀ a w, ¬ Q .outgrown a w) : ∀ (f : Nat) (l : Array Bool) (a : Act) (w : World), wpAny P md ops Q f l a w → wpAnyIn (Fence.wide.inRound r) n P md ops Q f l a w
  | 0, _, _, _, h => h
  | f + 1, _, _, _, h => ⟨h.1, fun i hi => wpOpIn_of_wpOp hd hlo (fun a w q => wpAnyIn_of_wpAny hd hlo f _ a w q) (h.2 i hi)⟩
/-- The beginning, in a round. -/
theorem wpIn_region_T (s : Nat) {id : Nat} {a : Act} {w : World} (hm : P.follows .mixedOrders = true) (hd : noDef ops = true) (hlo : ∀ a w, ¬ Q .outgrown a w) (hS : S w.drew)
    (h : S w.drew → DownL .any ops (Array.replicate ops.size false) → wpT P .any ops Q S s ops.size (Array.replicate ops.size false) a w.drew) : (Code.region id ops true).wpIn (Fence.wide.inRound r) n P Q a w :=
  wpIn_region_any hm (wpAnyIn_of_wpAny hd hlo _ _ _ _ (wpAny_of_T _ _ _ _ (h hS (DownL.start _))))
end
/-- No way out by a panic. -/
def NoP (Q : Exit → Act → World → Prop) : Exit → Act → World → Prop
  | .panic _, _, _ => False
  | .normal, a, w => Q .normal a w
  | .ret, a, w => Q .ret a w
  | .exit i, a, w => Q (.exit i) a w
  | .goto i, a, w => Q (.goto i) a w
  | .outgrown, a, w => Q .outgrown a w
theorem NoP.le {Q : Exit → Act → World → Prop} {e : Exit} {a : Act} {w : World} (h : NoP Q e a w) : Q e a w := by
  cases e
  case panic c => exact h.elim
  all_goals exact h
/-- A function with a range over a function, walked as anywhere up to that. -/
theorem calls_np {P : Program} {f : FuncId} {fn : Func} {c : Code} {args : Array Value} {w : World} {R : Ending → World → Prop} (n : Nat)
    (hf : P.funcs[f]? = some fn) (hb : fn.body = some c) (h : c.wp P (NoP (bodyPostM Fence.wide n P fn R)) { tmps := args ++ Array.replicate (fn.ntmps - args.size) undef, defers := [] } w) : Calls P f args w R :=
  (callsIn_wide (n := n)).1 (callsIn_of_wp_marks hf hb trivial (Go.wpIn_mono (wpIn_wide.2 h) (fun _ _ _ q => NoP.le q)) rfl)
end Go.Proofs.Ytaeiajodbpgbbaa
