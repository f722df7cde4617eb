/- Blocks known whole, carried together through calls. -/
import Derived.Test.YtlkgdpdnhnakoaaGreatDoorGSl
import Derived.AtR
namespace Go.Proofs.YtlkgdpdnhnakoaaGreatDoor
open Go.RowKit

/-- Blocks known whole: number, cells, type. -/
def Fr (w : World) : List (Nat × Array Value × TypeId) → Prop
  | [] => True
  | x :: l => Blk w x.1 x.2.1 x.2.2 ∧ Fr w l
def Rules (w : World) : List (Nat × Array Value × TypeId) → Prop
  | [] => True
  | x :: l => (∀ i, w.cell? ⟨x.1, i, none⟩ = x.2.1[i]?) ∧ (∀ i, w.frozen? ⟨x.1, i, none⟩ = false) ∧ Rules w l
theorem cell_blk {w : World} {b : Nat} {cs : Array Value} {t : TypeId} (h : Blk w b cs t) (i : Nat) : w.cell? ⟨b, i, none⟩ = cs[i]? := by
  have := h
  simp [World.cell?, this]
theorem Fr.rules {w : World} {l : List (Nat × Array Value × TypeId)} (h : Fr w l) : Rules w l := by
  induction l with
  | nil => exact trivial
  | cons x l ih => exact ⟨fun i => cell_blk h.1 i, fun i => h.1.free i, ih h.2⟩
theorem Fr.same {w w' : World} {l : List (Nat × Array Value × TypeId)} (h : Fr w l) (k : Same w w') : Fr w' l := by
  induction l with
  | nil => exact trivial
  | cons x l ih => exact ⟨h.1.kept k (fun h => h), ih h.2⟩
theorem Fr.kept {w w' : World} {fp : Nat → Prop} {l : List (Nat × Array Value × TypeId)} (h : Fr w l) (k : Kept fp w w') (hn : ∀ x ∈ l, ¬ fp x.1) : Fr w' l := by
  induction l with
  | nil => exact trivial
  | cons x l ih => exact ⟨h.1.kept k (hn x (by simp)), ih h.2 (fun y hy => hn y (by simp [hy]))⟩
/-- One block has turned, known whole again. -/
theorem Fr.put {w w' : World} {g : Nat} {cs : Array Value} {t : TypeId} {l : List (Nat × Array Value × TypeId)} (h : Fr w l) (k : Kept (fun j => j = g) w w') (hb : Blk w' g cs t) (hn : ∀ x ∈ l, ¬ x.1 = g) : Fr w' ((g, cs, t) :: l) :=
  ⟨hb, h.kept k hn⟩

theorem Calls.fr1 {P : Program} {f : FuncId} {args : Array Value} {w : World} {c1 : Array Value} {t1 : TypeId} {R : Ending → World → Prop}
    (h : ∀ W, Fr W [(w.heap.size, c1, t1)] → Same w W → W.heap.size = w.heap.size + 1 → Calls P f args W R) : Calls P f args (w.alloc (.cells c1 t1)) R :=
  Calls.boxes1 fun W a k z => h W ⟨a, trivial⟩ k z
theorem Calls.fr2 {P : Program} {f : FuncId} {args : Array Value} {w : World} {c1 c2 : Array Value} {t1 t2 : TypeId} {R : Ending → World → Prop}
    (h : ∀ W, Fr W [(w.heap.size, c1, t1), (w.heap.size + 1, c2, t2)] → Same w W → W.heap.size = w.heap.size + 1 + 1 → Calls P f args W R) : Calls P f args ((w.alloc (.cells c1 t1)).alloc (.cells c2 t2)) R :=
  Calls.boxes2 fun W a b k z => h W ⟨a, b, trivial⟩ k z
theorem Calls.fr3 {P : Program} {f : FuncId} {args : Array Value} {w : World} {c1 c2 c3 : Array Value} {t1 t2 t3 : TypeId} {R : Ending → World → Prop}
    (h : ∀ W, Fr W [(w.heap.size, c1, t1), (w.heap.size + 1, c2, t2), (w.heap.size + 1 + 1, c3, t3)] → Same w W → W.heap.size = w.heap.size + 1 + 1 + 1 → Calls P f args W R) :
    Calls P f args (((w.alloc (.cells c1 t1)).alloc (.cells c2 t2)).alloc (.cells c3 t3)) R :=
  Calls.boxes3 fun W a b c k z => h W ⟨a, b, c, trivial⟩ k z

/-- The end of a function whose result is a struct of two cells. -/
theorem results_two {P : Program} {fn : Func} {p : Tmp} {ty : TypeId} (h : fn.results = #[.cell p ty]) (tmps : Array Value) (w : World) (g : Nat) (t : TypeId) (cs : Array Value) (d : TypeDesc)
    (hp : tmps.getD p undef = .pointer (some ⟨g, 0, none⟩)) (hg : Blk w g cs t)
    (hu : P.underlying ty = some d) (hd : (match d with | .struct _ | .array _ _ => true | _ => false) = true) (hi : (P.info? ty).map (·.size) = some cs.size) :
    (results fn tmps).run P w = .ok (.agg cs) w := results_cell_row h tmps w g t cs (0, 0) d hp hg hu hd hi

theorem Blk.not_row {w : World} {b : Nat} {cs : Array Value} {t : TypeId} (h : Blk w b cs t) {base : Nat} {e : TypeId} {k : IntKind} {v : Value} {xs : List Nat} (hte : t ≠ e) (hr : OwnN w base e k v xs) : ¬ v.ownBlock = some b := by
  intro e'
  rcases hr.2 with ⟨rfl, _⟩ | ⟨g, cap, cur, rfl, _, hgb, _⟩
  · simp [Value.ownBlock] at e'
  · obtain rfl : g = b := by simpa [Value.ownBlock] using e'
    have h' := hgb.symm.trans h
    simp only [Option.some.injEq, Obj.cells.injEq] at h'
    exact hte h'.2.1.symm

theorem Fr.grown {w w' : World} {l : List (Nat × Array Value × TypeId)} {base : Nat} {e : TypeId} {k : IntKind} {v : Value} {xs : List Nat} (h : Fr w l) (ho : OwnN w base e k v xs) (hg : w.grownBy w' v.ownBlock) (ht : ∀ x ∈ l, x.2.2 ≠ e) : Fr w' l := by
  induction l with
  | nil => exact trivial
  | cons x l ih => exact ⟨(hg.block x.1 h.1.lt (fun q => h.1.not_row (ht x (by simp)) ho q.symm)).trans h.1, ih h.2 (fun y hy => ht y (by simp [hy]))⟩
/-- What is owned, read; its length a letter. -/
theorem OwnN.rd {w : World} {base : Nat} {e : TypeId} {k : IntKind} {v : Value} {xs : List Nat} (h : OwnN w base e k v xs) :
    ∃ a l cap, v = .slice a l cap ∧ Hid (l = xs.length) ∧ Hid (a = none → cap = 0) ∧ Hid (NatsAt w k a xs) ∧ Hid (l ≤ cap ∧ cap ≤ maxLen) := by
  obtain ⟨a, cap, rfl, h1, h2, h3, h4, _⟩ := h.read
  exact ⟨a, _, cap, rfl, rfl, h3, h4, h1, h2⟩
/-- The end of a function whose results are a struct and a value. -/
theorem results_two_tmp {P : Program} {fn : Func} {p u : Tmp} {ty : TypeId} (h : fn.results = #[.cell p ty, .tmp u]) (tmps : Array Value) (w : World) (g : Nat) (t : TypeId) (cs : Array Value) (d : TypeDesc)
    (hp : tmps.getD p undef = .pointer (some ⟨g, 0, none⟩)) (hg : Blk w g cs t)
    (hu : P.underlying ty = some d) (hd : (match d with | .struct _ | .array _ _ => true | _ => false) = true) (hi : (P.info? ty).map (·.size) = some cs.size) :
    (results fn tmps).run P w = .ok (.tuple #[.agg cs, tmps.getD u undef]) w := by
  rw [results_cell_tmp h, hp]
  simp only [asAddr, Sem.run_pure, Result.andThen_ok, run_loadVar_row w g t ty cs (0, 0) d hg hu hd hi]
theorem NatsAt.kept' {w w' : World} {k : IntKind} {a : Option Addr} {xs : List Nat} {fp : Nat → Prop} (h : NatsAt w k a xs) (hk : Kept fp w w') (hn : xs = [] ∨ ∀ x, a = some x → ¬ fp x.block) : NatsAt w' k a xs := by
  rcases hn with h0 | hn
  · exact .inl h0
  · exact h.kept hk hn
/-- One block of the call's own turns. -/
theorem Kept.turn {a w w' : World} {g : Nat} (h : Same a w) (k : Kept (fun j => j = g) w w') (hg : a.heap.size ≤ g) : Same a w' := h.step k (fun i hi e => by omega)

/-- append, as it runs: what it gives, and what it leaves. -/
def AppOK (P : Program) (A : Array TypeId) (ty : TypeId) (X : Array Value) (w : World) : Prop := ∃ v' w', (Builtin.append_ A ty X).run P w = .ok v' w'
def appV (P : Program) (A : Array TypeId) (ty : TypeId) (X : Array Value) (w : World) : Value :=
  match (Builtin.append_ A ty X).run P w with
  | .ok v' _ => v'
  | .halt _ _ => undef
def appW (P : Program) (A : Array TypeId) (ty : TypeId) (X : Array Value) (w : World) : World :=
  match (Builtin.append_ A ty X).run P w with
  | .ok _ w' => w'
  | .halt _ w' => w'
theorem app_run {P : Program} {A : Array TypeId} {ty : TypeId} {X : Array Value} {w : World} (h : AppOK P A ty X w) : (Builtin.append_ A ty X).run P w = .ok (appV P A ty X w) (appW P A ty X w) := by
  obtain ⟨v', w', e⟩ := h
  unfold appV appW
  rw [e]
theorem app_of {P : Program} {A : Array TypeId} {ty : TypeId} {X : Array Value} {w : World} {v' : Value} {w' : World} (e : (Builtin.append_ A ty X).run P w = .ok v' w') : AppOK P A ty X w ∧ appV P A ty X w = v' ∧ appW P A ty X w = w' := by
  refine ⟨⟨v', w', e⟩, ?_, ?_⟩
  · unfold appV; rw [e]
  · unfold appW; rw [e]

def appCall (o : Oper) : Bool :=
  match o.op with
  | .call { callee := .builtin .append, .. } => true
  | _ => false
def appA (o : Oper) : Array TypeId :=
  match o.op with
  | .call c => c.argTypes
  | _ => #[]
def appX (ρ : Operand → Value) (o : Oper) : Array Value :=
  match o.op with
  | .call c => c.args.map ρ
  | _ => #[]
structure IsApp (o : Oper) : Prop where
  is : appCall o = true
theorem isApp_lit (dst : Option Tmp) (args : Array Operand) (argTypes : Array TypeId) (ty : TypeId) (pos : String) (after : Array Edge) (guard : Option (Nat × Bool)) :
    IsApp { dst := dst, op := .call { callee := .builtin .append, args := args, argTypes := argTypes }, type := ty, pos := pos, after := after, guard := guard } := ⟨rfl⟩
theorem exec_app {P : Program} {ρ : Operand → Value} {o : Oper} {w : World} (h : IsApp o) (h2 : AppOK P (appA o) o.type (appX ρ o) w) :
    (execOp ρ o).run P w = .ok (.value (appV P (appA o) o.type (appX ρ o) w)) (appW P (appA o) o.type (appX ρ o) w) := by
  have hrun := app_run h2
  obtain ⟨dst, op, ty, pos, after, guard⟩ := o
  have h := h.is
  unfold appCall at h
  split at h
  · rename_i args argTypes e
    simp only at e
    subst e
    simp only [appA, appX] at hrun ⊢
    simp only [execOp, resolve, invoke, builtin, Sem.run_bind, Sem.run_pure, Result.andThen_ok, hrun]
  · cases h
theorem semAt_app {P : Program} {ρ : Operand → Value} {o : Oper} {w : World} {r : Option Nat} (h : IsApp o) (h2 : AppOK P (appA o) o.type (appX ρ o) w) :
    (Oper.semAt r ρ o).run P w = .ok (.value (appV P (appA o) o.type (appX ρ o) w)) (appW P (appA o) o.type (appX ρ o) w) := by
  rw [Oper.semAt_eq _ _ _ (fun c e => by have h := h.is; unfold appCall at h; rw [e] at h; cases h)]
  exact exec_app h h2

/-- Numbers lie elsewhere than in a block that has none of their kind. -/
theorem NatsAt.apart {w w' : World} {k : IntKind} {a : Option Addr} {xs : List Nat} {g : Nat} {cs : Array Value} {t : TypeId} (h : NatsAt w k a xs) (hb : Blk w g cs t) (hk : Kept (fun j => j = g) w w') (hne : ∀ (i : Nat) (x : Int), cs[i]? ≠ some (.int k x)) : NatsAt w' k a xs := by
  rcases h with h | ⟨b, off, rfl, hlt, hc⟩
  · exact .inl h
  · by_cases e : b = g
    · subst e
      cases xs with
      | nil => exact .inl rfl
      | cons x xs =>
        have h0 := hc 0 x rfl
        rw [cell_blk hb] at h0
        exact absurd h0 (hne _ _)
    · exact NatsAt.kept (.inr ⟨b, off, rfl, hlt, hc⟩) hk (fun y hy => by cases hy; exact e)

end Go.Proofs.YtlkgdpdnhnakoaaGreatDoor
