/- EvT: tables of what console functions tell, for runs. -/
import Derived.Test.YtnjmdldhgconmaaGreatDoorEvK
import Derived.Test.YtnjmdldhgconmaaGreatDoorGCn
namespace Go.Proofs.YtnjmdldhgconmaaGreatDoor
namespace Ev
/-- The value at a key of a table. -/
noncomputable def lookT {β : Type} (l : List UInt8) : List (List UInt8 × β) → Option β
  | [] => none
  | p :: r => match strOp .eql l p.1 with
    | some (.B true) => some p.2
    | _ => lookT l r
theorem lookT_at {β : Type} {l : List UInt8} {y : β} : ∀ {t : List (List UInt8 × β)}, lookT l t = some y → (l, y) ∈ t
  | [], h => by cases h
  | p :: r, h => by
    unfold lookT at h
    split at h
    · rename_i q
      injection h with h
      have e : l = p.1 := by
        have q : ofB (l == p.1) = some (.B true) := q
        have q2 := ofB_eq q
        injection q2 with q2
        exact eq_of_beq q2.symm
      subst h; subst e
      exact List.mem_cons_self ..
    · exact List.mem_cons_of_mem _ (lookT_at h)
noncomputable def wordG (t : List (List UInt8 × List UInt8)) (args : List AV) (h : Hp Xo) : Option (AV × Hp Xo) := match args with
  | [.V (.C (.S l))] => match lookT l t with
    | some r => some (.V (.C (.S r)), h)
    | none => none
  | _ => none
def stpA (s : Stp) : A0 := .G [.I .u8 (.ofNat s.k), .I .i64 s.txn, .S s.key, .S s.val, .I .i64 s.n, .B s.d, .L none 0 (.k 0)]
noncomputable def parseG (t : List (List UInt8 × Option Stp)) (args : List AV) (h : Hp Xo) : Option (AV × Hp Xo) := match args, h.t.get tabG with
  | [.V (.C (.S l))], some (.x .tab) => match lookT l t with
    | some (some s) => some (.U [stpA s, .C (.B true)], h)
    | some none => some (.U [stpA (stp0 0), .C (.B false)], h)
    | none => none
  | _, _ => none
noncomputable def unwordG (t : List (List UInt8 × List UInt8)) (args : List AV) (h : Hp Xo) : Option (AV × Hp Xo) := match args with
  | [.V (.C (.S l))] => match lookT l t with
    | some r => some (.U [.C (.S r), .C (.B true)], h)
    | none => none
  | _ => none
/-- One step's line. -/
noncomputable def lineG (s : Stp) (r : List UInt8) (args : List AV) (h : Hp Xo) : Option (AV × Hp Xo) := match args, h.t.get tabG with
  | [.V x], some (.x .tab) => match decide (x = stpA s) with
    | true => some (.U [.C (.S r), .C (.B true)], h)
    | false => none
  | _, _ => none
end Ev
end Go.Proofs.YtnjmdldhgconmaaGreatDoor
