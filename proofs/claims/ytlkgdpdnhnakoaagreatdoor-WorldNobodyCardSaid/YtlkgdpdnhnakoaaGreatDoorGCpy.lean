/- GCpy: Cpy, StrB. -/
import Derived.Test.YtlkgdpdnhnakoaaGreatDoorAuto
import Derived.Laws.CopyOwn
import Derived.Test.YtlkgdpdnhnakoaaGreatDoorShelfB
import Derived.Test.YtlkgdpdnhnakoaaGreatDoorGSecB
import Derived.Laws.BytesArg
namespace Go.Proofs.YtlkgdpdnhnakoaaGreatDoor
open Go.RowKit

def cpyCall (o : Oper) : Bool :=
  match o.op with
  | .call { callee := .builtin .copy, .. } => true
  | _ => false
def CpyOK (P : Program) (A : Array TypeId) (ty : TypeId) (X : Array Value) (w : World) : Prop := ∃ v' w', (Builtin.copy_ A ty X).run P w = .ok v' w'
def cpyV (P : Program) (A : Array TypeId) (ty : TypeId) (X : Array Value) (w : World) : Value :=
  match (Builtin.copy_ A ty X).run P w with
  | .ok v' _ => v'
  | .halt _ _ => undef
def cpyW (P : Program) (A : Array TypeId) (ty : TypeId) (X : Array Value) (w : World) : World :=
  match (Builtin.copy_ A ty X).run P w with
  | .ok _ w' => w'
  | .halt _ w' => w'
theorem cpy_run {P : Program} {A : Array TypeId} {ty : TypeId} {X : Array Value} {w : World} (h : CpyOK P A ty X w) : (Builtin.copy_ A ty X).run P w = .ok (cpyV P A ty X w) (cpyW P A ty X w) := by
  obtain ⟨v', w', e⟩ := h
  unfold cpyV cpyW
  rw [e]
theorem cpy_of {P : Program} {A : Array TypeId} {ty : TypeId} {X : Array Value} {w : World} {v' : Value} {w' : World} (e : (Builtin.copy_ A ty X).run P w = .ok v' w') : CpyOK P A ty X w ∧ cpyV P A ty X w = v' ∧ cpyW P A ty X w = w' := by
  refine ⟨⟨v', w', e⟩, ?_, ?_⟩
  · unfold cpyV; rw [e]
  · unfold cpyW; rw [e]
structure IsCpy (o : Oper) : Prop where
  is : cpyCall o = true
theorem isCpy_lit (dst : Option Tmp) (args : Array Operand) (argTypes : Array TypeId) (ty : TypeId) (pos : String) (after : Array Edge) (guard : Option (Nat × Bool)) :
    IsCpy { dst := dst, op := .call { callee := .builtin .copy, args := args, argTypes := argTypes }, type := ty, pos := pos, after := after, guard := guard } := ⟨rfl⟩
theorem exec_cpy {P : Program} {ρ : Operand → Value} {o : Oper} {w : World} (h : IsCpy o) (h2 : CpyOK P (appA o) o.type (appX ρ o) w) :
    (execOp ρ o).run P w = .ok (.value (cpyV P (appA o) o.type (appX ρ o) w)) (cpyW P (appA o) o.type (appX ρ o) w) := by
  have hrun := cpy_run h2
  obtain ⟨dst, op, ty, pos, after, guard⟩ := o
  have h := h.is
  unfold cpyCall at h
  split at h
  · rename_i args argTypes e
    simp only at e
    subst e
    simp only [appA, appX] at hrun ⊢
    simp only [execOp, resolve, invoke, builtin, Sem.run_bind, Sem.run_pure, Result.andThen_ok, hrun]
  · cases h
theorem semAt_cpy {P : Program} {ρ : Operand → Value} {o : Oper} {w : World} {r : Option Nat} (h : IsCpy o) (h2 : CpyOK P (appA o) o.type (appX ρ o) w) :
    (Oper.semAt r ρ o).run P w = .ok (.value (cpyV P (appA o) o.type (appX ρ o) w)) (cpyW P (appA o) o.type (appX ρ o) w) := by
  rw [Oper.semAt_eq _ _ _ (fun c e => by have h := h.is; unfold cpyCall at h; rw [e] at h; cases h)]
  exact exec_cpy h h2

theorem take_splice {α : Type} (L X cs : List α) (o n : Nat) (hX : L.take n = X) (hn : X.length = n) (ho : o + cs.length ≤ n) :
    (L.take o ++ cs ++ L.drop (o + cs.length)).take n = X.take o ++ cs ++ X.drop (o + cs.length) := by
  have hL : L = X ++ L.drop n := by rw [← hX]; exact (List.take_append_drop n L).symm
  rw [hL, List.take_append_of_le_length (l₁ := X) (by omega), List.drop_append_of_le_length (l₁ := X) (by omega), ← List.append_assoc]
  rw [List.take_append_of_le_length (by simp; omega)]
  exact List.take_of_length_le (by simp; omega)
theorem run_copyN {P : Program} (w : World) (dT sT ty e : TypeId) (k : IntKind) (hu : P.underlying dT = some (.slice e)) (hs : (P.info? e).map (·.size) = some 1) (base g o n cap dl dc : Nat) (xs : List Nat)
    (hown : OwnN w base e k (.slice (some ⟨g, 0, none⟩) n cap) xs) (hn : xs.length = n) (ao : Option Addr) (m c : Nat) (ys : List Nat) (hm : m = ys.length) (hat : NatsAt w k ao ys) (hfit : o + ys.length ≤ n) (hdl : ys.length ≤ dl) :
    ∃ w', (Builtin.copy_ #[dT, sT] ty #[.slice (some ⟨g, o, none⟩) dl dc, .slice ao m c]).run P w = .ok (.int .i64 ((ys.length : Nat) : Int)) w' ∧ OwnN w' base e k (.slice (some ⟨g, 0, none⟩) n cap) (xs.take o ++ ys ++ xs.drop (o + ys.length)) ∧ Kept (fun j => j = g) w w' := by
  subst hm
  cases ys with
  | nil =>
    refine ⟨w, run_copy_none (P := P) w dT sT ty e (some ⟨g, o, none⟩) ao dl dc 0 c hu hs (by simp), ?_, Kept.refl _ _⟩
    simpa using hown
  | cons y ys =>
    generalize hY : y :: ys = Y at *
    have hY0 : Y ≠ [] := by rw [← hY]; simp
    obtain ⟨b, off, rfl, hb, hc⟩ := hat.resolve_left hY0
    rcases hown.2 with ⟨h0, _⟩ | ⟨g', cap', cur, e', h1, h2, h3, h4, h5, h6⟩
    · cases h0
    · cases e'
      have hl : (Y.map fun x : Nat => Value.int k ((x : Nat) : Int)).length = Y.length := List.length_map _
      have hsrc : ∀ j v, (Y.map fun x : Nat => Value.int k ((x : Nat) : Int))[j]? = some v → w.cell? ((⟨b, off, none⟩ : Addr).add j) = some v := by
        intro j v hv
        rw [List.getElem?_map] at hv
        obtain ⟨x, hx, rfl⟩ := Option.map_eq_some_iff.1 hv
        have := hc j x hx
        unfold Addr.add
        split
        · subst j; simpa using this
        · exact this
      have hrun := run_copy_row (P := P) w dT sT ty e g o dl dc ⟨b, off, none⟩ Y.length c cur e (Y.map fun x : Nat => Value.int k ((x : Nat) : Int)) hu hs h2 (by rw [hl]; exact (Nat.min_eq_left hdl).symm) hsrc (by rw [hl]; omega) (by intro v hv; obtain ⟨x, _, rfl⟩ := List.mem_map.1 hv; rfl)
      rw [hl] at hrun
      refine ⟨_, hrun, ⟨?_, .inr ⟨g, cap, _, ?_, h1, setRow_heap w g cur _ e _ h2, ?_, h4, ?_, ?_⟩⟩, ⟨rfl, rfl, rfl, by simp [World.setRow], fun j _ hj => setRow_other w g j _ hj⟩⟩
      · simp
      · congr 1
        simp; omega
      · simp; omega
      · simp; omega
      · rw [List.length_append, List.length_append, List.length_take, List.length_drop]
        rw [show (min o xs.length + Y.length + (xs.length - (o + Y.length))) * 1 = xs.length from by omega]
        have ht := take_splice cur.toList (xs.map fun x : Nat => Value.int k ((x : Nat) : Int)) (Y.map fun x : Nat => Value.int k ((x : Nat) : Int)) o xs.length (by simpa using h6) (by simp) (by rw [hl]; omega)
        rw [hl] at ht
        simpa using ht
end Go.Proofs.YtlkgdpdnhnakoaaGreatDoor

namespace Go.Proofs.YtlkgdpdnhnakoaaGreatDoor
open Go.RowKit

theorem by_clone (a : Option Addr) (cap : Nat) (xs : List Nat) (w : World) (hat : NatsAt w .u8 a xs) (hl : xs.length ≤ 140737488355328) (hnil : a = none → xs = []) :
    Calls Tryz.prog 104 #[.slice a xs.length cap] w fun e w' => ∃ v, e = .returned v ∧ OwnN w' w.heap.size 5 .u8 v xs ∧ Same w w' := by
  cases a with
  | none =>
    obtain rfl := hnil rfl
    refine (Tryz.bytes_Clone_nil _ _ _).mono ?_
    rintro e w' ⟨rfl, rfl⟩
    exact ⟨_, rfl, World.ownsRow_nil _ _ _ _, Kept.refl _ _⟩
  | some x =>
    refine (Tryz.bytes_Clone_at x xs.length cap (xs.map fun n : Nat => (n : Int)) w (by simp) hl ?_).mono ?_
    · intro i hi
      rcases hat with rfl | ⟨b, off, e, hb, hc⟩
      · simp at hi
      · simp only [Option.some.injEq] at e
        subst e
        have := hc i _ (List.getElem?_eq_getElem hi)
        have e2 : (xs.map fun n : Nat => (n : Int)).getD i 0 = ((xs[i] : Nat) : Int) := by simp [hi]
        rw [e2]
        unfold Addr.add
        split
        · subst i; simpa using this
        · exact this
    · rintro e w' ⟨v', rfl, h1, _, h3⟩
      refine ⟨v', rfl, ?_, Kept.of_below h3⟩
      unfold OwnN
      rw [List.map_map] at h1
      exact h1
theorem nats_get {w : World} {k : IntKind} {g o : Nat} {xs : List Nat} (h : NatsAt w k (some ⟨g, o, none⟩) xs) {i : Nat} (hi : i < xs.length) : w.cell? ⟨g, o + i, none⟩ = some (.int k ((xs.getD i 0 : Nat) : Int)) := by
  obtain ⟨b, off, x, e, _, hx, hc⟩ := h.at hi
  cases e
  rw [hc, List.getD_eq_getElem?_getD, hx]
  rfl
end Go.Proofs.YtlkgdpdnhnakoaaGreatDoor
