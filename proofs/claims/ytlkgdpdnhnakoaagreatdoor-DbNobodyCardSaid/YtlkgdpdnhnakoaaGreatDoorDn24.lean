/- Dn24: the calls of a db that is not there, run by the kernel. -/
import Derived.Test.YtlkgdpdnhnakoaaGreatDoorEvAr
namespace Go.Proofs.YtlkgdpdnhnakoaaGreatDoor
namespace Ev
def toldN : A0 := .G [.I .i64 0, .I .i64 0, .S [], .B false, .L none 0 (.k 0), .I .i64 1]
def toldNV : Value := .agg #[.int .i64 0, .int .i64 0, .string ⟨#[]⟩, .bool false, .slice none 0 0, .int .i64 1]
theorem toldN_rel {V : Vn} {u : Value} (h : toldN.rel V u) : u = toldNV := by
  obtain ⟨vs, q, rfl⟩ := h
  match vs, q with
  | [v0, v1, v2, v3, v4, v5], ⟨h0, h1, h2, h3, h4, h5, _⟩ =>
    have h0 : v0 = _ := h0
    have h1 : v1 = _ := h1
    have h2 : v2 = _ := h2
    have h3 : v3 = _ := h3
    have h4 : v4 = _ := h4
    have h5 : v5 = _ := h5
    subst h0 h1 h2 h3 h4 h5
    rfl
theorem toldN_of (V : Vn) : toldN.rel V toldNV := ⟨[.int .i64 0, .int .i64 0, .string ⟨#[]⟩, .bool false, .slice none 0 0, .int .i64 1], ⟨rfl, rfl, rfl, rfl, rfl, rfl, trivial⟩, rfl⟩
noncomputable def argA : AV := .V (.G [.X (nat_lit 64), .X (nat_lit 65), .X (nat_lit 66), .X (nat_lit 67), .X (nat_lit 68)])
noncomputable def runDo (c d : Int) : Bool := ranV toldN ((clO (tabOf Tryz.prog) numG (ixF (factQ [⟨.rem, .u8, true, 0, 12, .I .u8 c⟩, ⟨.rem, .i64, true, 4, 2, .I .i64 d⟩]) (biQ [] [] [])) (iyV []) izP (nat_lit 100000) (nat_lit 300)).call 13 [.V (.C (.P none)), argA] (h0 numG tabG 5))
theorem runDo_all : [0, 1, 2, 3, 4, 5, 6, 7, 8, 9, 10, 11].all (fun c : Int => [-1, 0, 1].all fun d : Int => runDo c d) = true := by kernel_rfl
def valA (k txn n : Int) (key val : List UInt8) : Nat → Nat × Nat
  | 0 => (1, znum k)
  | 1 => (0, znum txn)
  | 2 => (key.length + 3, lnum key)
  | 3 => (val.length + 3, lnum val)
  | 4 => (0, znum n)
  | _ => (0, 0)
end Ev
open Ev in
theorem do_nil (k txn n : Int) (key val : List UInt8) (hk : 0 ≤ k) (w : World) (hT : TabOK w) :
    Calls Tryz.prog 13 #[.pointer none, .agg #[.int .u8 k, .int .i64 txn, .string ⟨key.toArray⟩, .string ⟨val.toArray⟩, .int .i64 n]] w fun e w' => e = .returned toldNV ∧ Same w w' := by
  obtain ⟨vals, hv⟩ : ∃ v, valA k txn n key val = v := ⟨_, rfl⟩
  have v0 : vals 0 = (1, znum k) := by rw [← hv]; rfl
  have v1 : vals 1 = (0, znum txn) := by rw [← hv]; rfl
  have v2 : vals 2 = (key.length + 3, lnum key) := by rw [← hv]; rfl
  have v3 : vals 3 = (val.length + 3, lnum val) := by rw [← hv]; rfl
  have v4 : vals 4 = (0, znum n) := by rw [← hv]; rfl
  have ref : ∀ i, i < 5 → ∀ v, symV (vals i).1 (vals i).2 = v → (Ce.X (numG + i)).rel (V0 numG 5 vals) v := fun i hi v e => ⟨_, V0_sym hi, e.symm⟩
  have r0 := ref 0 (by decide) (.int .u8 k) (by rw [v0]; exact sym_u8 _)
  have r1 := ref 1 (by decide) (.int .i64 txn) (by rw [v1]; exact sym_int _)
  have r2 := ref 2 (by decide) (.string ⟨key.toArray⟩) (by rw [v2]; exact sym_str _)
  have r3 := ref 3 (by decide) (.string ⟨val.toArray⟩) (by rw [v3]; exact sym_str _)
  have r4 := ref 4 (by decide) (.int .i64 n) (by rw [v4]; exact sym_int _)
  have hr : All2 (AV.rel (V0 numG 5 vals)) [.V (.C (.P none)), argA] [.pointer none, .agg #[.int .u8 k, .int .i64 txn, .string ⟨key.toArray⟩, .string ⟨val.toArray⟩, .int .i64 n]] :=
    ⟨rfl, ⟨[.int .u8 k, .int .i64 txn, .string ⟨key.toArray⟩, .string ⟨val.toArray⟩, .int .i64 n], ⟨r0, r1, r2, r3, r4, trivial⟩, rfl⟩, trivial⟩
  have hc : k.tmod 12 ∈ [0, 1, 2, 3, 4, 5, 6, 7, 8, 9, 10, 11] := by
    have h1 := Int.tmod_nonneg 12 hk
    have h2 := Int.tmod_lt_of_pos k (show (0 : Int) < 12 by decide)
    simp only [List.mem_cons, List.not_mem_nil, or_false]
    omega
  have hd : n.tmod 2 ∈ [-1, 0, 1] := by
    have h1 := Int.tmod_lt_of_pos n (show (0 : Int) < 2 by decide)
    have h2 : -2 < n.tmod 2 := Int.lt_tmod_of_pos n (by decide)
    simp only [List.mem_cons, List.not_mem_nil, or_false]
    omega
  have q := List.all_eq_true.1 (List.all_eq_true.1 Ev.runDo_all _ hc) _ hd
  unfold Ev.runDo at q
  refine (runV (vals := vals) q ?_ (by simp) (by simp) (by simp) (by simp) w hT hr).mono ?_
  · intro f hf
    simp only [List.mem_cons, List.not_mem_nil, or_false] at hf
    rcases hf with rfl | rfl
    · exact ⟨k, _, by unfold numAt; rw [v0]; exact sym_u8 k, rfl, rfl, by simp, by simp⟩
    · exact ⟨n, _, num_of v4, rfl, rfl, by simp, by simp⟩
  · rintro e w' ⟨u, V, rfl, hz, kk⟩
    exact ⟨by rw [toldN_rel hz], kk⟩
end Go.Proofs.YtlkgdpdnhnakoaaGreatDoor
