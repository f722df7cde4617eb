/- TreeNobody by readings. -/
import Derived.Test.YtmcdlmgkjlodfaaGreatDoorNb20
import Derived.Test.YtmcdlmgkjlodfaaGreatDoorRows
import Derived.Test.YtmcdlmgkjlodfaaGreatDoorBmRead
namespace Go.Proofs.YtmcdlmgkjlodfaaGreatDoor
open Go.ChangeShapes Go.WideShapes Go.ChangeAt Go.RowKit
namespace Ev
theorem fa_lss {vals : Nat → Nat × Nat} {i : Nat} {n m : Int} {r : Bool} (h : vals i = (0, znum m)) (hr : decide (m < n) = r) : (⟨.lss, i, n, r⟩ : Fa).Ok vals := by
  subst hr
  exact ⟨by rw [h], by rw [h]; simp only [unz_enc, intOp]; generalize decide (m < n) = q; cases q <;> rfl, by simp, by simp⟩
theorem fa_gtr {vals : Nat → Nat × Nat} {i : Nat} {n m : Int} {r : Bool} (h : vals i = (0, znum m)) (hr : decide (n < m) = r) : (⟨.gtr, i, n, r⟩ : Fa).Ok vals := by
  subst hr
  exact ⟨by rw [h], by rw [h]; simp only [unz_enc, intOp]; generalize decide (n < m) = q; cases q <;> rfl, by simp, by simp⟩
theorem fa_leq {vals : Nat → Nat × Nat} {i : Nat} {n m : Int} {r : Bool} (h : vals i = (0, znum m)) (hr : decide (m ≤ n) = r) : (⟨.leq, i, n, r⟩ : Fa).Ok vals := by
  subst hr
  exact ⟨by rw [h], by rw [h]; simp only [unz_enc, intOp]; generalize decide (m ≤ n) = q; cases q <;> rfl, by simp, by simp⟩
theorem fa_geq {vals : Nat → Nat × Nat} {i : Nat} {n m : Int} {r : Bool} (h : vals i = (0, znum m)) (hr : decide (n ≤ m) = r) : (⟨.geq, i, n, r⟩ : Fa).Ok vals := by
  subst hr
  exact ⟨by rw [h], by rw [h]; simp only [unz_enc, intOp]; generalize decide (n ≤ m) = q; cases q <;> rfl, by simp, by simp⟩
/-- The values. -/
def valN (k : Int) (key val : List UInt8) (txn ts room root : Int) : Nat → Nat × Nat
  | 0 => (0, znum room)
  | 1 => (0, znum root)
  | 2 => (key.length + 3, lnum key)
  | 3 => (val.length + 3, lnum val)
  | 4 => (0, znum txn)
  | 5 => (0, znum ts)
  | 6 => (1, znum k)
  | 7 => (0, znum key.length)
  | 8 => (0, znum val.length)
  | _ => (0, 0)
end Ev
open Ev in
theorem nobody_any (w : World) (hT : TabOK w) (k : Int) (key val : List UInt8) (txn ts : Int) (gone : Bool) (room root : Int) :
    Calls Tryz.prog 3 #[.agg #[.int .u8 k, .string ⟨key.toArray⟩, .int .i64 txn, .int .i64 ts, .bool gone, .string ⟨val.toArray⟩], .int .i64 room, .int .i64 root] w fun e w' => e = .returned (.bool true) ∧ Same w w' := by
  obtain ⟨vals, hv⟩ : ∃ v, valN k key val txn ts room root = v := ⟨_, rfl⟩
  have v0 : vals 0 = (0, znum room) := by rw [← hv]; rfl
  have v1 : vals 1 = (0, znum root) := by rw [← hv]; rfl
  have v2 : vals 2 = (key.length + 3, lnum key) := by rw [← hv]; rfl
  have v3 : vals 3 = (val.length + 3, lnum val) := by rw [← hv]; rfl
  have v4 : vals 4 = (0, znum txn) := by rw [← hv]; rfl
  have v5 : vals 5 = (0, znum ts) := by rw [← hv]; rfl
  have v6 : vals 6 = (1, znum k) := by rw [← hv]; rfl
  have v7 : vals 7 = (0, znum key.length) := by rw [← hv]; rfl
  have v8 : vals 8 = (0, znum val.length) := by rw [← hv]; rfl
  have ref : ∀ i, i < 9 → ∀ v, symV (vals i).1 (vals i).2 = v → (Ce.X (numG + i)).rel (V0 numG 9 vals) v := fun i hi v e => ⟨_, V0_sym hi, e.symm⟩
  have r0 := ref 0 (by decide) (.int .i64 room) (by rw [v0]; exact sym_int _)
  have r1 := ref 1 (by decide) (.int .i64 root) (by rw [v1]; exact sym_int _)
  have r2 := ref 2 (by decide) (.string ⟨key.toArray⟩) (by rw [v2]; exact sym_str _)
  have r3 := ref 3 (by decide) (.string ⟨val.toArray⟩) (by rw [v3]; exact sym_str _)
  have r4 := ref 4 (by decide) (.int .i64 txn) (by rw [v4]; exact sym_int _)
  have r5 := ref 5 (by decide) (.int .i64 ts) (by rw [v5]; exact sym_int _)
  have r6 := ref 6 (by decide) (.int .u8 k) (by rw [v6]; exact sym_u8 _)
  have hm : ∀ c : Ce, c.rel (V0 numG 9 vals) (.int .i64 root) → All2 (AV.rel (V0 numG 9 vals)) (argN gone (.X (nat_lit 64)) c) [.agg #[.int .u8 k, .string ⟨key.toArray⟩, .int .i64 txn, .int .i64 ts, .bool gone, .string ⟨val.toArray⟩], .int .i64 room, .int .i64 root] := fun c hc =>
    ⟨⟨[.int .u8 k, .string ⟨key.toArray⟩, .int .i64 txn, .int .i64 ts, .bool gone, .string ⟨val.toArray⟩], ⟨r6, r2, r4, r5, rfl, r3, trivial⟩, rfl⟩, r0, hc, trivial⟩
  have hlen : ∀ q ∈ [(2, 7), (3, 8)], LenOk vals q := by
    intro q hq
    simp only [List.mem_cons, List.not_mem_nil, or_false] at hq
    rcases hq with rfl | rfl
    · exact ⟨key, v2, v7⟩
    · exact ⟨val, v3, v8⟩
  have go : ∀ (l : List Fa) (c : Ce), Ev.runN l gone c = true → (∀ f ∈ l, f.Ok vals) → c.rel (V0 numG 9 vals) (.int .i64 root) →
      Calls Tryz.prog 3 #[.agg #[.int .u8 k, .string ⟨key.toArray⟩, .int .i64 txn, .int .i64 ts, .bool gone, .string ⟨val.toArray⟩], .int .i64 room, .int .i64 root] w fun e w' => e = .returned (.bool true) ∧ Same w w' := by
    intro l c q hl hc
    unfold Ev.runN at q
    exact runS q hl hlen w hT (hm c hc)
  by_cases hk : (100 : Int) < key.length
  · refine go _ _ (runN_key gone) (fun f hf => ?_) r1
    simp only [List.mem_cons, List.not_mem_nil, or_false] at hf
    subst hf
    exact fa_gtr v7 (decide_eq_true hk)
  have fk : (⟨.gtr, 7, 100, false⟩ : Fa).Ok vals := fa_gtr v7 (decide_eq_false hk)
  by_cases hv : (100 : Int) < val.length
  · refine go _ _ (runN_val gone) (fun f hf => ?_) r1
    simp only [List.mem_cons, List.not_mem_nil, or_false] at hf
    rcases hf with rfl | rfl
    · exact fk
    · exact fa_gtr v8 (decide_eq_true hv)
  have fv : (⟨.gtr, 8, 100, false⟩ : Fa).Ok vals := fa_gtr v8 (decide_eq_false hv)
  by_cases hlo : room < 1
  · refine go _ _ (runN_lo gone) (fun f hf => ?_) r1
    simp only [fLo, List.mem_cons, List.not_mem_nil, or_false] at hf
    rcases hf with rfl | rfl | rfl | rfl
    · exact fk
    · exact fv
    · exact fa_lss v0 (decide_eq_true hlo)
    · exact fa_geq v0 (decide_eq_false (by omega))
  by_cases hhi : 4096 < room
  · refine go _ _ (runN_hi gone) (fun f hf => ?_) r1
    simp only [fHi, List.mem_cons, List.not_mem_nil, or_false] at hf
    rcases hf with rfl | rfl | rfl | rfl | rfl | rfl
    · exact fk
    · exact fv
    · exact fa_lss v0 (decide_eq_false hlo)
    · exact fa_gtr v0 (decide_eq_true hhi)
    · exact fa_geq v0 (decide_eq_true (by omega))
    · exact fa_leq v0 (decide_eq_false (by omega))
  have fok : ∀ l : List Fa, (∀ f ∈ l, f.Ok vals) → ∀ f ∈ fOk l, f.Ok vals := by
    intro l hl f hf
    simp only [fOk, List.mem_cons] at hf
    rcases hf with rfl | rfl | rfl | rfl | rfl | rfl | hf
    · exact fk
    · exact fv
    · exact fa_lss v0 (decide_eq_false hlo)
    · exact fa_gtr v0 (decide_eq_false hhi)
    · exact fa_geq v0 (decide_eq_true (by omega))
    · exact fa_leq v0 (decide_eq_true (by omega))
    · exact hl f hf
  by_cases hn : root < 0
  · refine go _ _ (runN_neg gone) (fok _ fun f hf => ?_) r1
    simp only [List.mem_cons, List.not_mem_nil, or_false] at hf
    rcases hf with rfl | rfl
    · exact fa_lss v1 (decide_eq_true hn)
    · exact fa_geq v1 (decide_eq_false (by omega))
  by_cases hb : 8 ≤ root
  · refine go _ _ (runN_big gone) (fok _ fun f hf => ?_) r1
    simp only [List.mem_cons, List.not_mem_nil, or_false] at hf
    rcases hf with rfl | rfl | rfl | rfl
    · exact fa_lss v1 (decide_eq_false hn)
    · exact fa_geq v1 (decide_eq_true (by omega))
    · exact fa_lss v1 (decide_eq_false (by omega))
    · exact fa_geq v1 (decide_eq_true hb)
  have nil : ∀ f ∈ ([] : List Fa), f.Ok vals := fun f hf => by cases hf
  have hr : root = 0 ∨ root = 1 ∨ root = 2 ∨ root = 3 ∨ root = 4 ∨ root = 5 ∨ root = 6 ∨ root = 7 := by omega
  rcases hr with e | e | e | e | e | e | e | e
  · exact go _ (.I .i64 0) (runN_0 gone) (fok _ nil) (by rw [e]; rfl)
  · exact go _ (.I .i64 1) (runN_1 gone) (fok _ nil) (by rw [e]; rfl)
  · exact go _ (.I .i64 2) (runN_2 gone) (fok _ nil) (by rw [e]; rfl)
  · exact go _ (.I .i64 3) (runN_3 gone) (fok _ nil) (by rw [e]; rfl)
  · exact go _ (.I .i64 4) (runN_4 gone) (fok _ nil) (by rw [e]; rfl)
  · exact go _ (.I .i64 5) (runN_5 gone) (fok _ nil) (by rw [e]; rfl)
  · exact go _ (.I .i64 6) (runN_6 gone) (fok _ nil) (by rw [e]; rfl)
  · exact go _ (.I .i64 7) (runN_7 gone) (fok _ nil) (by rw [e]; rfl)
end Go.Proofs.YtmcdlmgkjlodfaaGreatDoor

namespace Go.Proofs.YtmcdlmgkjlodfaaGreatDoor
open Go.ChangeShapes Go.WideShapes Go.ChangeAt Go.RowKit
section
variable {H : Type} {enc : TypeId × Value → H} {W : World} {base : Nat} {v : Value} {d : DataW H} {p : List MemPlace}
set_option maxRecDepth 100000 in
theorem msg_rd (h : DataW.Trod enc Tryz.prog W 0 (fun _ => true) true 23 v d p) (hv : Value.okWide Tryz.prog W .any base 23 v) :
    ∃ (k : Int) (key val : List UInt8) (txn ts : Int) (gone : Bool), v = .agg #[.int .u8 k, .string ⟨key.toArray⟩, .int .i64 txn, .int .i64 ts, .bool gone, .string ⟨val.toArray⟩] := by
  obtain ⟨cs, rfl, hsz⟩ := okWide_struct Tryz.underlying23 hv
  have h2 : cs.size = 6 := by rw [hsz]; kernel_rfl
  obtain ⟨fuel, hf⟩ := h
  obtain ⟨xs, m, rfl, e, hlen, hxs, hi⟩ := DataW.trod_struct (cs := cs.toList) Tryz.underlying23 hf
  obtain ⟨l, rfl⟩ : ∃ l : List Value, cs = l.toArray := ⟨cs.toList, by simp⟩
  simp only [List.size_toArray] at h2
  match l, h2 with
  | [c0, c1, c2, c3, c4, c5], _ =>
    have q0 := hi 0 _ rfl
    have q1 := hi 1 _ rfl
    have q2 := hi 2 _ rfl
    have q3 := hi 3 _ rfl
    have q4 := hi 4 _ rfl
    have q5 := hi 5 _ rfl
    match xs, hxs with
    | [x0, x1, x2, x3, x4, x5], _ =>
      obtain ⟨k, e0, _, _⟩ := DataW.trod_int (cs := [c0]) Tryz.underlying5 q0
      obtain ⟨s, e1, _, _⟩ := DataW.trod_string (cs := [c1]) Tryz.underlying9 q1
      obtain ⟨y, e2, _, _⟩ := DataW.trod_int (cs := [c2]) Tryz.underlying3 q2
      obtain ⟨z, e3, _, _⟩ := DataW.trod_int (cs := [c3]) Tryz.underlying3 q3
      obtain ⟨b, e4, _⟩ := DataW.trod_bool (cs := [c4]) Tryz.underlying4 q4
      obtain ⟨t, e5, _, _⟩ := DataW.trod_string (cs := [c5]) Tryz.underlying9 q5
      simp at e0 e1 e2 e3 e4 e5
      subst e0 e1 e2 e3 e4 e5
      exact ⟨k, s.data.toList, t.data.toList, y, z, b, by simp⟩
set_option maxRecDepth 100000 in
theorem intn_read (h : DataW.Trod enc Tryz.prog W 0 (fun _ => true) true 3 v d p) (hv : Value.okWide Tryz.prog W .any base 3 v) : ∃ n : Int, v = .int .i64 n := by
  obtain ⟨n, rfl, _, _, hw⟩ := open_int Tryz.underlying3 hv h
  exact ⟨n, rfl⟩
end
set_option maxRecDepth 100000 in
theorem nobody20_read {H : Type} {enc : TypeId × Value → H} (W : World) (hT : TabOK W) {base : Nat} {v0 v1 v2 : Value} {d0 d1 d2 : DataW H} {p0 p1 p2 : List MemPlace}
    (h0 : DataW.Trod enc Tryz.prog W 0 (fun _ => true) true 23 v0 d0 p0) (k0 : Value.okWide Tryz.prog W .any base 23 v0)
    (h1 : DataW.Trod enc Tryz.prog W 0 (fun _ => true) true 3 v1 d1 p1) (k1 : Value.okWide Tryz.prog W .any base 3 v1)
    (h2 : DataW.Trod enc Tryz.prog W 0 (fun _ => true) true 3 v2 d2 p2) (k2 : Value.okWide Tryz.prog W .any base 3 v2) :
    Calls Tryz.prog 3 #[v0, v1, v2] W fun e W' => e = .returned (.bool true) ∧ Same W W' := by
  obtain ⟨k, key, val, txn, ts, gone, rfl⟩ := msg_rd h0 k0
  obtain ⟨room, rfl⟩ := intn_read h1 k1
  obtain ⟨root, rfl⟩ := intn_read h2 k2
  exact nobody_any W hT k key val txn ts gone room root
end Go.Proofs.YtmcdlmgkjlodfaaGreatDoor
