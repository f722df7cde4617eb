/- EvK: runs from the start with laws that ask for more of the program's variables than the table of math/bits. -/
import Derived.Test.YtlkgdpdnhnakoaaGreatDoorEvSy
namespace Go.Proofs.YtlkgdpdnhnakoaaGreatDoor
namespace Ev

/-- What is asked of a law that asks M of the world. -/
def YOkM (M : World → Prop) (f : FuncId) (g : List AV → Hp Xo → Option (AV × Hp Xo)) : Prop := ∀ {ob : Obj} {vals : Nat → Nat × Nat} {ks : List (Nat × Obj)}, (∀ w : World, (∀ q ∈ ks, w.heap[q.1]? = some q.2) → M w) → ∀ {args : List AV} {h h' : Hp Xo} {z : AV}, g args h = some (z, h') → ∀ {V : Vn} {w : World} {xs : List Value}, Sim (varX tabG ob vals ks) numG V h w → All2 (AV.rel V) args xs →
  Calls Tryz.prog f xs.toArray w (fun e w' => ∃ u, e = .returned u ∧ Post (varX tabG ob vals ks) numG V h w z h' u w')
structure EnyM (M : World → Prop) where
  f : FuncId
  g : List AV → Hp Xo → Option (AV × Hp Xo)
  ok : YOkM M f g
noncomputable def findM {M : World → Prop} (f : FuncId) : List (EnyM M) → Option (List AV → Hp Xo → Option (AV × Hp Xo))
  | [] => none
  | e :: l => match Nat.beq f e.f with
    | true => some e.g
    | false => findM f l
theorem findM_at {M : World → Prop} {f : FuncId} {g : List AV → Hp Xo → Option (AV × Hp Xo)} : ∀ {l : List (EnyM M)}, findM f l = some g → YOkM M f g
  | [], h => by cases h
  | x :: l, h => by
    unfold findM at h
    split at h
    · rename_i q; cases h; obtain rfl : f = x.f := Nat.eq_of_beq_eq_true q; exact x.ok
    · exact findM_at h
noncomputable def iyK {M : World → Prop} (l : List (EnyM M)) (f : FuncId) : Option (List AV → Hp Xo → Option (AV × Hp Xo)) := match findM f l with
  | some g => some g
  | none => findY f iyL
theorem iyK_ok {M : World → Prop} {ob : Obj} {vals : Nat → Nat × Nat} {ks : List (Nat × Obj)} (hT : ∀ w : World, w.heap[tabG]? = some ob → TabOK w) (hM : ∀ w : World, (∀ q ∈ ks, w.heap[q.1]? = some q.2) → M w) (l : List (EnyM M)) : IyOk (varX tabG ob vals ks) numG (tabOf Tryz.prog) (iyK l) := by
  intro f g args h h' z hj q V w xs s hr
  unfold iyK at hj
  split at hj
  · rename_i g' hg
    injection hj with hj; subst hj
    exact findM_at hg hM q s hr
  · exact findY_at hj hT q s hr
/-- The evaluator with closed ways, with laws of its own. -/
noncomputable def clK (J : Iy Xo) : Nat → Cl Xo
  | 0 => ⟨fun _ _ _ => none, fun _ _ _ => none, fun _ _ _ => none⟩
  | n + 1 => ⟨fun f args h => callP J (clK J n) f args h, fun f args h => callP izP (clK J n) f args h, fun l args h => yldF tabP numG ixP (nat_lit 100000) (clK J n) l args h⟩
theorem clK_eq (J : Iy Xo) : ∀ n, clK J n = clO tabP numG ixP J izP (nat_lit 100000) n
  | 0 => rfl
  | n + 1 => by
    unfold clK clO
    rw [clK_eq J n]
    congr 1
    · funext f args h; exact callP_eq J _ f args h
    · funext f args h; exact callP_eq izP _ f args h
/-- A run from the start, that tells true. -/
theorem ranK {M : World → Prop} {g : Nat} {l : List (EnyM M)} {n : Nat} {f : FuncId} (q : ranOk ((clK (iyK l) n).call f [] (h0 numG tabG 0)) = true) (w : World) (hT : TabOK w)
    {o : Obj} (hg : w.heap[g]? = some o) (hM : ∀ w' : World, w'.heap[g]? = some o → M w') : Calls Tryz.prog f #[] w fun e w' => e = .returned (.bool true) ∧ Same w w' := by
  rw [clK_eq] at q
  unfold ranOk at q
  split at q
  case h_2 => cases q
  rename_i h hq
  split at q
  case h_2 => cases q
  rename_i hx
  obtain ⟨ob, hob⟩ : ∃ ob, w.heap[tabG]? = some ob := by
    have := hT 0 (by decide)
    unfold World.cell? at this
    cases h : w.heap[tabG]? with
    | none => rw [show w.heap[(⟨1, 0, none⟩ : Addr).block]? = w.heap[tabG]? from rfl, h] at this; cases this
    | some o => exact ⟨o, rfl⟩
  have hT' : ∀ w' : World, w'.heap[tabG]? = some ob → TabOK w' := fun w' hw' i hi => by
    have := hT i hi
    rw [← this]
    simp only [World.cell?, show w'.heap[1]? = w.heap[1]? from hw'.trans hob.symm]
  have hks : ∀ q ∈ [(g, o)], w.heap[q.1]? = some q.2 := fun q hq => by cases List.mem_singleton.1 hq; exact hg
  have hA := tab_ok noGo
  have s := sim0 (G := numG) (g := tabG) (k := 0) (vals := fun _ => (0, 0)) (ks := [(g, o)]) (by decide +kernel) hob hks
  have ok := clO_ok (N := nat_lit 100000) hA (ixP_ok (ob := ob) (vals := fun _ => (0, 0)) (ks := [(g, o)])) (iyK_ok hT' (fun w' h' => hM w' (h' _ (List.mem_singleton.2 rfl))) l) izP_ok (fun C hC => drawO_ok hA ixP_ok hC (by kernel_rfl)) n
  refine (ok.call hq s (xs := []) trivial).mono ?_
  rintro e w' ⟨u, rfl, V, hz, s', x'⟩
  have hz : u = .bool true := hz
  subst hz
  exact ⟨rfl, same0 (by decide +kernel) hob hks s' x' hx⟩
end Ev
end Go.Proofs.YtlkgdpdnhnakoaaGreatDoor
