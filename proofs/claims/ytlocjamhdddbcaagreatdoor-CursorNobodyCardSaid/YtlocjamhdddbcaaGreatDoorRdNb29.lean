/- RdNb29: CursorNobody of any values; by readings. -/
import Derived.Test.YtlocjamhdddbcaaGreatDoorNb29
import Derived.Test.YtlocjamhdddbcaaGreatDoorAw29
import Derived.Test.YtlocjamhdddbcaaGreatDoorRows
import Derived.Test.YtlocjamhdddbcaaGreatDoorBmRead
namespace Go.Proofs.YtlocjamhdddbcaaGreatDoor
open Go.ChangeShapes Go.WideShapes Go.ChangeAt Go.RowKit
namespace Ev
/-- The values. -/
def valC (key : List UInt8) (id page : Int) : Nat → Nat × Nat
  | 0 => (key.length + 3, lnum key)
  | 1 => (0, znum id)
  | 2 => (0, znum page)
  | 3 => (0, znum key.length)
  | 4 => ((key ++ [0]).length + 3, lnum (key ++ [0]))
  | _ => (0, 0)
theorem awC_okV (vals : Nat → Nat × Nat) : YOkV vals 4 awC := by
  intro ob hT args h h' z q V w xs s hr
  unfold awC at q
  split at q
  case h_2 => cases q
  rename_i hx
  injection q with q; injection q with q1 q2; subst q1; subst q2
  match xs, hr with
  | [], _ =>
    refine (aw29 w (hT w (tab_at s hx))).mono ?_
    rintro e w' ⟨rfl, k⟩
    obtain ⟨s1, x1⟩ := Sim.same s k
    exact ⟨_, rfl, V, rfl, s1, x1⟩
/-- Of a key that is too long. -/
noncomputable def runK (l : List Fq) : Bool := ranOk ((clO (tabOf Tryz.prog) numG (ixF (factQ l) (biQ [(0, 3)] [] [])) (iyV entU) izP (nat_lit 100000) (nat_lit 300)).call 3 [.V (.C (.X (nat_lit 64))), .V (.C (.X (nat_lit 65))), .V (.C (.X (nat_lit 66)))] (h0 numG tabG (nat_lit 5)))
theorem runK_key : runK [⟨.gtr, .i64, true, 3, 100, .B true⟩] = true := by kernel_rfl
theorem fq_eql {vals : Nat → Nat × Nat} {i : Nat} {n m : Int} {r : Bool} (h : numAt vals i .i64 m) (hr : decide (m = n) = r) : (⟨.eql, .i64, true, i, n, .B r⟩ : Fq).Ok vals := by
  subst hr
  exact ⟨m, .B (decide (m = n)), h, by simp only [intOp]; generalize decide (m = n) = q; cases q <;> rfl, rfl, by simp, by simp⟩
theorem fq_eqr {vals : Nat → Nat × Nat} {i : Nat} {n m : Int} {r : Bool} (h : numAt vals i .i64 m) (hr : decide (n = m) = r) : (⟨.eql, .i64, false, i, n, .B r⟩ : Fq).Ok vals := by
  subst hr
  exact ⟨m, .B (decide (n = m)), h, by simp only [intOp]; generalize decide (n = m) = q; cases q <;> rfl, rfl, by simp, by simp⟩
theorem fq_neq {vals : Nat → Nat × Nat} {i : Nat} {n m : Int} {r : Bool} (h : numAt vals i .i64 m) (hr : (!decide (m = n)) = r) : (⟨.neq, .i64, true, i, n, .B r⟩ : Fq).Ok vals := by
  subst hr
  exact ⟨m, .B (!decide (m = n)), h, by simp only [intOp]; generalize decide (m = n) = q; cases q <;> rfl, rfl, by simp, by simp⟩
end Ev
set_option maxRecDepth 100000 in
open Ev in
theorem nobody29_any (w : World) (hT : TabOK w) (key : List UInt8) (id page : Int) :
    Calls Tryz.prog 3 #[.string ⟨key.toArray⟩, .int .i64 id, .int .i64 page] w fun e w' => e = .returned (.bool true) ∧ Same w w' := by
  obtain ⟨vals, hv⟩ : ∃ v, valC key id page = v := ⟨_, rfl⟩
  have v0 : vals 0 = (key.length + 3, lnum key) := by rw [← hv]; rfl
  have v1 : vals 1 = (0, znum id) := by rw [← hv]; rfl
  have v2 : vals 2 = (0, znum page) := by rw [← hv]; rfl
  have v3 : vals 3 = (0, znum key.length) := by rw [← hv]; rfl
  have v4 : vals 4 = ((key ++ [0]).length + 3, lnum (key ++ [0])) := by rw [← hv]; rfl
  clear hv
  have ref : ∀ i, i < 5 → ∀ v, symV (vals i).1 (vals i).2 = v → (Ce.X (numG + i)).rel (V0 numG 5 vals) v := fun i hi v e => ⟨_, V0_sym hi, e.symm⟩
  have r0 := ref 0 (by decide) (.string ⟨key.toArray⟩) (by rw [v0]; exact sym_str _)
  have r1 := ref 1 (by decide) (.int .i64 id) (by rw [v1]; exact sym_int _)
  have r2 := ref 2 (by decide) (.int .i64 page) (by rw [v2]; exact sym_int _)
  have hm : ∀ c : Ce, c.rel (V0 numG 5 vals) (.int .i64 id) → All2 (AV.rel (V0 numG 5 vals)) [.V (.C (.X (nat_lit 64))), .V (.C c), .V (.C (.X (nat_lit 66)))] [.string ⟨key.toArray⟩, .int .i64 id, .int .i64 page] := fun c hc => ⟨r0, hc, r2, trivial⟩
  have hlen : ∀ q ∈ [(0, 3)], LenOk vals q := by
    intro q hq
    simp only [List.mem_cons, List.not_mem_nil, or_false] at hq
    subst hq
    exact ⟨key, v0, v3⟩
  have hent : ∀ e ∈ entU, YOkV vals e.f e.g := by
    intro e he
    simp only [entU, List.mem_cons, List.not_mem_nil, or_false] at he
    subst he
    exact awC_okV vals
  have n1 := num_of v1
  have n2 := num_of v2
  have n3 := num_of v3
  by_cases hkl : (100 : Int) < key.length
  · have q := Ev.runK_key
    unfold Ev.runK at q
    refine runQ q (fun f hf => ?_) hlen (by simp) (by simp) hent w hT (hm (.X (nat_lit 65)) r1)
    simp only [List.mem_cons, List.not_mem_nil, or_false] at hf
    subst hf
    exact fq_gtr n3 (decide_eq_true hkl)
  have fk := fq_gtr n3 (decide_eq_false hkl)
  have hss : ∀ f ∈ [(⟨0, [0], 4⟩ : Fs)], f.Ok vals := by
    intro f hf
    simp only [List.mem_cons, List.not_mem_nil, or_false] at hf
    subst hf
    exact ⟨key, by rw [v0]; exact sym_str _, by rw [v4]; exact sym_str _, by show key.length + 1 ≤ 1000000; omega⟩
  have go : ∀ (l : List Fq) (c : Ce), Ev.runC l c = true → (∀ f ∈ l, f.Ok vals) → c.rel (V0 numG 5 vals) (.int .i64 id) →
      Calls Tryz.prog 3 #[.string ⟨key.toArray⟩, .int .i64 id, .int .i64 page] w fun e w' => e = .returned (.bool true) ∧ Same w w' := by
    intro l c q hl hc
    unfold Ev.runC at q
    exact Ev.runT q hl hss hlen (by simp) (by simp) hent w hT (hm c hc)
  by_cases hlo : page < 1
  · refine go _ _ runC_lo (fun f hf => ?_) r1
    simp only [cLo, List.mem_cons, List.not_mem_nil, or_false] at hf
    rcases hf with rfl | rfl
    · exact fk
    · exact fq_lss n2 (decide_eq_true hlo)
  have fl := fq_lss n2 (decide_eq_false hlo)
  by_cases hhi : 1000 < page
  · refine go _ _ runC_hi (fun f hf => ?_) r1
    simp only [cHi, List.mem_cons, List.not_mem_nil, or_false] at hf
    rcases hf with rfl | rfl | rfl
    · exact fk
    · exact fl
    · exact fq_gtr n2 (decide_eq_true hhi)
  have fh := fq_gtr n2 (decide_eq_false hhi)
  have fok : ∀ l : List Fq, (∀ f ∈ l, f.Ok vals) → ∀ f ∈ cOk l, f.Ok vals := by
    intro l hl f hf
    simp only [cOk, List.mem_cons] at hf
    rcases hf with rfl | rfl | rfl | hf
    · exact fk
    · exact fl
    · exact fh
    · exact hl f hf
  by_cases hid : id = 1
  · exact go _ (.I .i64 1) runC_ok (fok _ (by simp)) (by rw [hid]; rfl)
  · refine go _ _ runC_ne (fok _ fun f hf => ?_) r1
    simp only [List.mem_cons, List.not_mem_nil, or_false] at hf
    rcases hf with rfl | rfl | rfl
    · exact fq_neq n1 (by simp [hid])
    · exact fq_eqr n1 (by simp; exact fun h => hid h.symm)
    · exact fq_eql n1 (by simp [hid])
end Go.Proofs.YtlocjamhdddbcaaGreatDoor

namespace Go.Proofs.YtlocjamhdddbcaaGreatDoor
open Go.ChangeShapes Go.WideShapes Go.ChangeAt Go.RowKit
section
variable {H : Type} {enc : TypeId × Value → H} {W : World} {base : Nat} {v : Value} {d : DataW H} {p : List MemPlace}
set_option maxRecDepth 100000 in
theorem intn_read (h : DataW.Trod enc Tryz.prog W 0 (fun _ => true) true 3 v d p) (hv : Value.okWide Tryz.prog W .any base 3 v) : ∃ n : Int, v = .int .i64 n := by
  obtain ⟨n, rfl, _, _, hw⟩ := open_int Tryz.underlying3 hv h
  exact ⟨n, rfl⟩
set_option maxRecDepth 100000 in
theorem strn_read (h : DataW.Trod enc Tryz.prog W 0 (fun _ => true) true 9 v d p) (hv : Value.okWide Tryz.prog W .any base 9 v) : ∃ s : List UInt8, v = .string ⟨s.toArray⟩ := by
  obtain ⟨s, rfl, _⟩ := Go.ChangeMaps.open_string Tryz.underlying9 hv h
  exact ⟨s.data.toList, by simp⟩
end
set_option maxRecDepth 100000 in
theorem nobody29_read {H : Type} {enc : TypeId × Value → H} (W : World) (hT : TabOK W) {base : Nat} {v0 v1 v2 : Value} {d0 d1 d2 : DataW H} {p0 p1 p2 : List MemPlace}
    (h0 : DataW.Trod enc Tryz.prog W 0 (fun _ => true) true 9 v0 d0 p0) (k0 : Value.okWide Tryz.prog W .any base 9 v0)
    (h1 : DataW.Trod enc Tryz.prog W 0 (fun _ => true) true 3 v1 d1 p1) (k1 : Value.okWide Tryz.prog W .any base 3 v1)
    (h2 : DataW.Trod enc Tryz.prog W 0 (fun _ => true) true 3 v2 d2 p2) (k2 : Value.okWide Tryz.prog W .any base 3 v2) :
    Calls Tryz.prog 3 #[v0, v1, v2] W fun e W' => e = .returned (.bool true) ∧ Same W W' := by
  obtain ⟨key, rfl⟩ := strn_read h0 k0
  obtain ⟨id, rfl⟩ := intn_read h1 k1
  obtain ⟨page, rfl⟩ := intn_read h2 k2
  exact nobody29_any W hT key id page
end Go.Proofs.YtlocjamhdddbcaaGreatDoor
