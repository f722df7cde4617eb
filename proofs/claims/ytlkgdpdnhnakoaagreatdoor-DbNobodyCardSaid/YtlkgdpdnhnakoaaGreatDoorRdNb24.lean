/- RdNb24: DbNobody of any values; by readings. -/
import Derived.Test.YtlkgdpdnhnakoaaGreatDoorNb24b
import Derived.Test.YtlkgdpdnhnakoaaGreatDoorNb24c
import Derived.Test.YtlkgdpdnhnakoaaGreatDoorNb24d
import Derived.Test.YtlkgdpdnhnakoaaGreatDoorNb24e
import Derived.Test.YtlkgdpdnhnakoaaGreatDoorAw24
import Derived.Test.YtlkgdpdnhnakoaaGreatDoorRows
import Derived.Test.YtlkgdpdnhnakoaaGreatDoorBmRead
namespace Go.Proofs.YtlkgdpdnhnakoaaGreatDoor
open Go.ChangeShapes Go.WideShapes Go.ChangeAt Go.RowKit
namespace Ev
/-- The values. -/
def valB (k txn n : Int) (key val : List UInt8) (log room : Int) : Nat → Nat × Nat
  | 0 => (1, znum k)
  | 1 => (0, znum txn)
  | 2 => (key.length + 3, lnum key)
  | 3 => (val.length + 3, lnum val)
  | 4 => (0, znum n)
  | 5 => (0, znum log)
  | 6 => (0, znum room)
  | 7 => (0, znum key.length)
  | 8 => (0, znum val.length)
  | 9 => (0, znum (wrapF .i64 (52 - log)))
  | 10 => (0, znum (wrapF .i64 ((wrapF .i64 (52 - log)).tdiv 4)))
  | 11 => (0, znum (max 0 (wrapF .i64 ((wrapF .i64 (52 - log)).tdiv 4))))
  | 12 => (0, znum (wrapF .i64 (1 - room)))
  | 13 => (0, znum (max 0 (wrapF .i64 (1 - room))))
  | _ => (0, 0)
theorem wrap64 {x : Int} (h1 : -9223372036854775808 ≤ x) (h2 : x ≤ 9223372036854775807) : wrapF .i64 x = x := by
  rw [wrapF_eq, IntKind.wrap_i64]
  omega
theorem awB_okV (vals : Nat → Nat × Nat) : YOkV vals 6 awB := by
  intro ob hT args h h' z q V w xs s hr
  unfold awB at q
  split at q
  case h_2 => cases q
  rename_i hx
  injection q with q; injection q with q1 q2; subst q1; subst q2
  match xs, hr with
  | [], _ =>
    refine (aw24 w (hT w (tab_at s hx))).mono ?_
    rintro e w' ⟨rfl, k⟩
    obtain ⟨s1, x1⟩ := Sim.same s k
    exact ⟨_, rfl, V, rfl, s1, x1⟩
theorem doB_okV {vals : Nat → Nat × Nat} {k txn n : Int} {key val : List UInt8} (hk : 0 ≤ k) (v0 : vals 0 = (1, znum k)) (v1 : vals 1 = (0, znum txn)) (v2 : vals 2 = (key.length + 3, lnum key)) (v3 : vals 3 = (val.length + 3, lnum val)) (v4 : vals 4 = (0, znum n)) : YOkV vals 13 doB := by
  intro ob hT args h h' z q V w xs s hr
  unfold doB at q
  split at q
  case h_2 => cases q
  rename_i a b c d e
  split at q
  case h_2 => cases q
  rename_i ha hb hc hd he hx
  injection q with q; injection q with q1 q2; subst q1; subst q2
  match xs, hr with
  | [x, y], ⟨h1, ⟨vs, h2, h3⟩, _⟩ =>
    have h1 : x = .pointer none := h1
    subst h1; subst h3
    match vs, h2 with
    | [u0, u1, u2, u3, u4], ⟨g0, g1, g2, g3, g4, _⟩ =>
      have e0 : u0 = .int .u8 k := (symAt_val s (symIs_at ha) g0).trans (by rw [v0]; exact sym_u8 k)
      have e1 : u1 = .int .i64 txn := (symAt_val s (symIs_at hb) g1).trans (by rw [v1]; exact sym_int _)
      have e2 : u2 = .string ⟨key.toArray⟩ := (symAt_val s (symIs_at hc) g2).trans (by rw [v2]; exact sym_str _)
      have e3 : u3 = .string ⟨val.toArray⟩ := (symAt_val s (symIs_at hd) g3).trans (by rw [v3]; exact sym_str _)
      have e4 : u4 = .int .i64 n := (symAt_val s (symIs_at he) g4).trans (by rw [v4]; exact sym_int _)
      subst e0 e1 e2 e3 e4
      refine (do_nil k txn n key val hk w (hT w (tab_at s hx))).mono ?_
      rintro e w' ⟨rfl, kk⟩
      obtain ⟨s1, x1⟩ := Sim.same s kk
      exact ⟨_, rfl, V, toldN_of V, s1, x1⟩
theorem quarter {x : Int} (h1 : -300 ≤ x) (h2 : x ≤ 15) : -300 ≤ x.tdiv 4 ∧ x.tdiv 4 ≤ 3 := by
  by_cases h : 0 ≤ x
  · rw [Int.tdiv_eq_ediv_of_nonneg h]; omega
  · obtain ⟨y, rfl⟩ : ∃ y, x = -y := ⟨-x, by omega⟩
    rw [Int.neg_tdiv, Int.tdiv_eq_ediv_of_nonneg (by omega)]
    omega
theorem max_le {n m : Int} (h : m ≤ n) : (if n < m then m else n) = n := if_neg (by omega)
end Ev
set_option maxRecDepth 100000 in
open Ev in
theorem nobody24_any (w : World) (hT : TabOK w) (k txn n : Int) (key val : List UInt8) (log room : Int) (hk : 0 ≤ k) :
    Calls Tryz.prog 3 #[.agg #[.int .u8 k, .int .i64 txn, .string ⟨key.toArray⟩, .string ⟨val.toArray⟩, .int .i64 n], .int .i64 log, .int .i64 room] w fun e w' => e = .returned (.bool true) ∧ Same w w' := by
  obtain ⟨vals, hv⟩ : ∃ v, valB k txn n key val log room = v := ⟨_, rfl⟩
  have v0 : vals 0 = (1, znum k) := by rw [← hv]; rfl
  have v1 : vals 1 = (0, znum txn) := by rw [← hv]; rfl
  have v2 : vals 2 = (key.length + 3, lnum key) := by rw [← hv]; rfl
  have v3 : vals 3 = (val.length + 3, lnum val) := by rw [← hv]; rfl
  have v4 : vals 4 = (0, znum n) := by rw [← hv]; rfl
  have v5 : vals 5 = (0, znum log) := by rw [← hv]; rfl
  have v6 : vals 6 = (0, znum room) := by rw [← hv]; rfl
  have v7 : vals 7 = (0, znum key.length) := by rw [← hv]; rfl
  have v8 : vals 8 = (0, znum val.length) := by rw [← hv]; rfl
  have v9 : vals 9 = (0, znum (wrapF .i64 (52 - log))) := by rw [← hv]; rfl
  have v10 : vals 10 = (0, znum (wrapF .i64 ((wrapF .i64 (52 - log)).tdiv 4))) := by rw [← hv]; rfl
  have v11 : vals 11 = (0, znum (max 0 (wrapF .i64 ((wrapF .i64 (52 - log)).tdiv 4)))) := by rw [← hv]; rfl
  have v12 : vals 12 = (0, znum (wrapF .i64 (1 - room))) := by rw [← hv]; rfl
  have v13 : vals 13 = (0, znum (max 0 (wrapF .i64 (1 - room)))) := by rw [← hv]; rfl
  clear hv
  have ref : ∀ i, i < 14 → ∀ v, symV (vals i).1 (vals i).2 = v → (Ce.X (numG + i)).rel (V0 numG 14 vals) v := fun i hi v e => ⟨_, V0_sym hi, e.symm⟩
  have r0 := ref 0 (by decide) (.int .u8 k) (by rw [v0]; exact sym_u8 _)
  have r1 := ref 1 (by decide) (.int .i64 txn) (by rw [v1]; exact sym_int _)
  have r2 := ref 2 (by decide) (.string ⟨key.toArray⟩) (by rw [v2]; exact sym_str _)
  have r3 := ref 3 (by decide) (.string ⟨val.toArray⟩) (by rw [v3]; exact sym_str _)
  have r4 := ref 4 (by decide) (.int .i64 n) (by rw [v4]; exact sym_int _)
  have r5 := ref 5 (by decide) (.int .i64 log) (by rw [v5]; exact sym_int _)
  have r6 := ref 6 (by decide) (.int .i64 room) (by rw [v6]; exact sym_int _)
  have hm : ∀ c : Ce, c.rel (V0 numG 14 vals) (.int .i64 log) → All2 (AV.rel (V0 numG 14 vals)) [argA, .V (.C c), .V (.C (.X (nat_lit 70)))] [.agg #[.int .u8 k, .int .i64 txn, .string ⟨key.toArray⟩, .string ⟨val.toArray⟩, .int .i64 n], .int .i64 log, .int .i64 room] := fun c hc =>
    ⟨⟨[.int .u8 k, .int .i64 txn, .string ⟨key.toArray⟩, .string ⟨val.toArray⟩, .int .i64 n], ⟨r0, r1, r2, r3, r4, trivial⟩, rfl⟩, hc, r6, trivial⟩
  have hlen : ∀ q ∈ [(2, 7), (3, 8)], LenOk vals q := by
    intro q hq
    simp only [List.mem_cons, List.not_mem_nil, or_false] at hq
    rcases hq with rfl | rfl
    · exact ⟨key, v2, v7⟩
    · exact ⟨val, v3, v8⟩
  have hent : ∀ e ∈ entB, YOkV vals e.f e.g := by
    intro e he
    simp only [entB, List.mem_cons, List.not_mem_nil, or_false] at he
    rcases he with rfl | rfl
    · exact awB_okV vals
    · exact doB_okV hk v0 v1 v2 v3 v4
  have go : ∀ (l : List Fq) (mn mx : List Fm) (c : Ce), Ev.runB l mn mx c = true → (∀ f ∈ l, f.Ok vals) → (∀ f ∈ mn, MinOk vals f) → (∀ f ∈ mx, MaxOk vals f) → c.rel (V0 numG 14 vals) (.int .i64 log) →
      Calls Tryz.prog 3 #[.agg #[.int .u8 k, .int .i64 txn, .string ⟨key.toArray⟩, .string ⟨val.toArray⟩, .int .i64 n], .int .i64 log, .int .i64 room] w fun e w' => e = .returned (.bool true) ∧ Same w w' := by
    intro l mn mx c q hl hmn hmx hc
    unfold Ev.runB at q
    exact runQ q hl hlen hmn hmx hent w hT (hm c hc)
  have n5 := num_of v5
  have n6 := num_of v6
  have n7 := num_of v7
  have n8 := num_of v8
  have no : ∀ f ∈ ([] : List Fm), MinOk vals f ∧ MaxOk vals f := by simp
  by_cases hkl : (100 : Int) < key.length
  · refine go _ _ _ _ runB_key (fun f hf => ?_) (fun f hf => (no f hf).1) (fun f hf => (no f hf).2) r5
    simp only [List.mem_cons, List.not_mem_nil, or_false] at hf
    subst hf
    exact fq_gtr n7 (decide_eq_true hkl)
  have fk := fq_gtr n7 (decide_eq_false hkl)
  by_cases hvl : (100 : Int) < val.length
  · refine go _ _ _ _ runB_val (fun f hf => ?_) (fun f hf => (no f hf).1) (fun f hf => (no f hf).2) r5
    simp only [List.mem_cons, List.not_mem_nil, or_false] at hf
    rcases hf with rfl | rfl
    · exact fk
    · exact fq_gtr n8 (decide_eq_true hvl)
  have fv := fq_gtr n8 (decide_eq_false hvl)
  have fkv : ∀ l : List Fq, (∀ f ∈ l, f.Ok vals) → ∀ f ∈ fKv l, f.Ok vals := by
    intro l hl f hf
    simp only [fKv, List.mem_cons] at hf
    rcases hf with rfl | rfl | hf
    · exact fk
    · exact fv
    · exact hl f hf
  by_cases h0 : log < 0
  · refine go _ _ _ _ runB_neg (fkv _ fun f hf => ?_) (fun f hf => (no f hf).1) (fun f hf => (no f hf).2) r5
    simp only [List.mem_cons, List.not_mem_nil, or_false] at hf
    rcases hf with rfl | rfl
    · exact fq_lss n5 (decide_eq_true h0)
    · exact fq_geq n5 (decide_eq_false (by omega))
  by_cases h1 : 256 < log
  · refine go _ _ _ _ runB_big (fkv _ fun f hf => ?_) (fun f hf => (no f hf).1) (fun f hf => (no f hf).2) r5
    simp only [List.mem_cons, List.not_mem_nil, or_false] at hf
    rcases hf with rfl | rfl | rfl | rfl
    · exact fq_lss n5 (decide_eq_false h0)
    · exact fq_gtr n5 (decide_eq_true h1)
    · exact fq_geq n5 (decide_eq_true (by omega))
    · exact fq_leq n5 (decide_eq_false (by omega))
  by_cases h2 : 36 < log
  · have w1 : wrapF .i64 (52 - log) = 52 - log := wrap64 (by omega) (by omega)
    obtain ⟨b1, b2⟩ := quarter (x := 52 - log) (by omega) (by omega)
    have w2 : wrapF .i64 ((wrapF .i64 (52 - log)).tdiv 4) = (52 - log).tdiv 4 := by rw [w1]; exact wrap64 (by omega) (by omega)
    have q1 : (52 - log).tdiv 4 ≤ 3 := by omega
    rw [w2] at v10 v11
    refine go _ _ _ _ runB_mid (fkv _ fun f hf => ?_) (fun f hf => ?_) (fun f hf => ?_) r5
    · simp only [List.mem_cons, List.not_mem_nil, or_false] at hf
      rcases hf with rfl | rfl | rfl | rfl | rfl | rfl | rfl
      · exact fq_lss n5 (decide_eq_false h0)
      · exact fq_gtr n5 (decide_eq_false h1)
      · exact fq_geq n5 (decide_eq_true (by omega))
      · exact fq_leq n5 (decide_eq_false (by omega))
      · exact ⟨log, .I .i64 (wrapF .i64 (52 - log)), n5, rfl, ⟨9, _, rfl, rfl, num_of v9⟩, by simp, by simp⟩
      · exact ⟨_, .I .i64 (wrapF .i64 ((wrapF .i64 (52 - log)).tdiv 4)), num_of v9, rfl, ⟨10, _, rfl, rfl, by rw [w2]; exact num_of v10⟩, by simp, by simp⟩
      · exact fq_lss (num_of v11) (decide_eq_true (by omega))
    · simp only [mnM, List.mem_cons, List.not_mem_nil, or_false] at hf
      subst hf
      refine ⟨_, num_of v10, ?_⟩
      show numAt vals 10 .i64 (if (52 - log).tdiv 4 < 512 then _ else _)
      rw [if_pos (by omega)]
      exact num_of v10
    · simp only [mxM, List.mem_cons, List.not_mem_nil, or_false] at hf
      subst hf
      refine ⟨_, num_of v10, ?_⟩
      show numAt vals 11 .i64 (if 0 < (52 - log).tdiv 4 then _ else 0)
      have e : (if 0 < (52 - log).tdiv 4 then (52 - log).tdiv 4 else 0) = max 0 ((52 - log).tdiv 4) := by split <;> omega
      rw [e]
      exact num_of v11
  have hlog : ∃ m : Nat, m < 37 ∧ log = (m : Int) := ⟨log.toNat, by omega, by omega⟩
  have fin : ∀ (l : List Fq) (mn mx : List Fm), (∀ f ∈ l, f.Ok vals) → (∀ f ∈ mn, MinOk vals f) → (∀ f ∈ mx, MaxOk vals f) → (∀ c : Int, 0 ≤ c → c ≤ 36 → Ev.runB l mn mx (.I .i64 c) = true) →
      Calls Tryz.prog 3 #[.agg #[.int .u8 k, .int .i64 txn, .string ⟨key.toArray⟩, .string ⟨val.toArray⟩, .int .i64 n], .int .i64 log, .int .i64 room] w fun e w' => e = .returned (.bool true) ∧ Same w w' :=
    fun l mn mx a b c q => go l mn mx _ (q log (by omega) (by omega)) a b c rfl
  have pick : ∀ (P : Int → Bool), ([0, 1, 2, 3, 4, 5] : List Int).all P = true → ([6, 7, 8, 9, 10, 11] : List Int).all P = true → ([12, 13, 14, 15, 16, 17] : List Int).all P = true → ([18, 19, 20, 21, 22, 23] : List Int).all P = true → ([24, 25, 26, 27, 28, 29] : List Int).all P = true → ([30, 31, 32, 33, 34, 35] : List Int).all P = true → ([36] : List Int).all P = true → ∀ c : Int, 0 ≤ c → c ≤ 36 → P c = true := by
    intro P a0 a1 a2 a3 a4 a5 a6 c c0 c1
    rw [List.all_eq_true] at a0 a1 a2 a3 a4 a5 a6
    by_cases g0 : c ≤ 5
    · exact a0 c (by simp only [List.mem_cons, List.not_mem_nil, or_false]; omega)
    by_cases g1 : c ≤ 11
    · exact a1 c (by simp only [List.mem_cons, List.not_mem_nil, or_false]; omega)
    by_cases g2 : c ≤ 17
    · exact a2 c (by simp only [List.mem_cons, List.not_mem_nil, or_false]; omega)
    by_cases g3 : c ≤ 23
    · exact a3 c (by simp only [List.mem_cons, List.not_mem_nil, or_false]; omega)
    by_cases g4 : c ≤ 29
    · exact a4 c (by simp only [List.mem_cons, List.not_mem_nil, or_false]; omega)
    by_cases g5 : c ≤ 35
    · exact a5 c (by simp only [List.mem_cons, List.not_mem_nil, or_false]; omega)
    exact a6 c (by simp only [List.mem_cons, List.not_mem_nil, or_false]; omega)
  have pick2 : ∀ (P : Int → Bool), ([0, 1] : List Int).all P = true → ([2, 3] : List Int).all P = true → ([4, 5] : List Int).all P = true → ([6, 7] : List Int).all P = true → ([8, 9] : List Int).all P = true → ([10, 11] : List Int).all P = true → ([12, 13] : List Int).all P = true → ([14, 15] : List Int).all P = true → ([16, 17] : List Int).all P = true → ([18, 19] : List Int).all P = true → ([20, 21] : List Int).all P = true → ([22, 23] : List Int).all P = true → ([24, 25] : List Int).all P = true → ([26, 27] : List Int).all P = true → ([28, 29] : List Int).all P = true → ([30, 31] : List Int).all P = true → ([32, 33] : List Int).all P = true → ([34, 35] : List Int).all P = true → ([36] : List Int).all P = true → ∀ c : Int, 0 ≤ c → c ≤ 36 → P c = true := by
    intro P a0 a1 a2 a3 a4 a5 a6 a7 a8 a9 a10 a11 a12 a13 a14 a15 a16 a17 a18 c c0 c1
    rw [List.all_eq_true] at a0 a1 a2 a3 a4 a5 a6 a7 a8 a9 a10 a11 a12 a13 a14 a15 a16 a17 a18
    by_cases g0 : c ≤ 1
    · exact a0 c (by simp only [List.mem_cons, List.not_mem_nil, or_false]; omega)
    by_cases g1 : c ≤ 3
    · exact a1 c (by simp only [List.mem_cons, List.not_mem_nil, or_false]; omega)
    by_cases g2 : c ≤ 5
    · exact a2 c (by simp only [List.mem_cons, List.not_mem_nil, or_false]; omega)
    by_cases g3 : c ≤ 7
    · exact a3 c (by simp only [List.mem_cons, List.not_mem_nil, or_false]; omega)
    by_cases g4 : c ≤ 9
    · exact a4 c (by simp only [List.mem_cons, List.not_mem_nil, or_false]; omega)
    by_cases g5 : c ≤ 11
    · exact a5 c (by simp only [List.mem_cons, List.not_mem_nil, or_false]; omega)
    by_cases g6 : c ≤ 13
    · exact a6 c (by simp only [List.mem_cons, List.not_mem_nil, or_false]; omega)
    by_cases g7 : c ≤ 15
    · exact a7 c (by simp only [List.mem_cons, List.not_mem_nil, or_false]; omega)
    by_cases g8 : c ≤ 17
    · exact a8 c (by simp only [List.mem_cons, List.not_mem_nil, or_false]; omega)
    by_cases g9 : c ≤ 19
    · exact a9 c (by simp only [List.mem_cons, List.not_mem_nil, or_false]; omega)
    by_cases g10 : c ≤ 21
    · exact a10 c (by simp only [List.mem_cons, List.not_mem_nil, or_false]; omega)
    by_cases g11 : c ≤ 23
    · exact a11 c (by simp only [List.mem_cons, List.not_mem_nil, or_false]; omega)
    by_cases g12 : c ≤ 25
    · exact a12 c (by simp only [List.mem_cons, List.not_mem_nil, or_false]; omega)
    by_cases g13 : c ≤ 27
    · exact a13 c (by simp only [List.mem_cons, List.not_mem_nil, or_false]; omega)
    by_cases g14 : c ≤ 29
    · exact a14 c (by simp only [List.mem_cons, List.not_mem_nil, or_false]; omega)
    by_cases g15 : c ≤ 31
    · exact a15 c (by simp only [List.mem_cons, List.not_mem_nil, or_false]; omega)
    by_cases g16 : c ≤ 33
    · exact a16 c (by simp only [List.mem_cons, List.not_mem_nil, or_false]; omega)
    by_cases g17 : c ≤ 35
    · exact a17 c (by simp only [List.mem_cons, List.not_mem_nil, or_false]; omega)
    exact a18 c (by simp only [List.mem_cons, List.not_mem_nil, or_false]; omega)
  by_cases hlo : room < 1
  · refine fin bLo [] [] (fkv _ fun f hf => ?_) (fun f hf => (no f hf).1) (fun f hf => (no f hf).2) (pick (fun k => runB bLo [] [] (.I .i64 k)) runB_lo0 runB_lo1 runB_lo2 runB_lo3 runB_lo4 runB_lo5 runB_lo6)
    simp only [List.mem_cons, List.not_mem_nil, or_false] at hf
    rcases hf with rfl | rfl
    · exact fq_lss n6 (decide_eq_true hlo)
    · exact fq_geq n6 (decide_eq_false (by omega))
  by_cases hhi : 4096 < room
  · refine fin bHi [] [] (fkv _ fun f hf => ?_) (fun f hf => (no f hf).1) (fun f hf => (no f hf).2) (pick (fun k => runB bHi [] [] (.I .i64 k)) runB_hi0 runB_hi1 runB_hi2 runB_hi3 runB_hi4 runB_hi5 runB_hi6)
    simp only [List.mem_cons, List.not_mem_nil, or_false] at hf
    rcases hf with rfl | rfl | rfl | rfl
    · exact fq_lss n6 (decide_eq_false hlo)
    · exact fq_gtr n6 (decide_eq_true hhi)
    · exact fq_geq n6 (decide_eq_true (by omega))
    · exact fq_leq n6 (decide_eq_false (by omega))
  have w3 : wrapF .i64 (1 - room) = 1 - room := wrap64 (by omega) (by omega)
  rw [w3] at v12 v13
  have m0 : max 0 (1 - room) = 0 := by omega
  rw [m0] at v13
  refine fin bOk [] mxO (fkv _ fun f hf => ?_) (fun f hf => (no f hf).1) (fun f hf => ?_) (pick2 (fun k => runB bOk [] mxO (.I .i64 k)) runB_ok0 runB_ok1 runB_ok2 runB_ok3 runB_ok4 runB_ok5 runB_ok6 runB_ok7 runB_ok8 runB_ok9 runB_ok10 runB_ok11 runB_ok12 runB_ok13 runB_ok14 runB_ok15 runB_ok16 runB_ok17 runB_ok18)
  · simp only [List.mem_cons, List.not_mem_nil, or_false] at hf
    rcases hf with rfl | rfl | rfl | rfl | rfl | rfl
    · exact fq_lss n6 (decide_eq_false hlo)
    · exact fq_gtr n6 (decide_eq_false hhi)
    · exact fq_geq n6 (decide_eq_true (by omega))
    · exact fq_leq n6 (decide_eq_true (by omega))
    · exact ⟨room, .I .i64 (wrapF .i64 (1 - room)), n6, rfl, ⟨12, _, rfl, rfl, by rw [w3]; exact num_of v12⟩, by simp, by simp⟩
    · exact ⟨0, .B true, num_of v13, rfl, rfl, by simp, by simp⟩
  · simp only [mxO, List.mem_cons, List.not_mem_nil, or_false] at hf
    rcases hf with rfl | rfl
    · refine ⟨_, n6, ?_⟩
      show numAt vals 6 .i64 (if 0 < room then room else 0)
      rw [if_pos (by omega)]
      exact n6
    · refine ⟨_, num_of v12, ?_⟩
      show numAt vals 13 .i64 (if 0 < 1 - room then _ else 0)
      rw [if_neg (by omega)]
      exact num_of v13
end Go.Proofs.YtlkgdpdnhnakoaaGreatDoor

namespace Go.Proofs.YtlkgdpdnhnakoaaGreatDoor
open Go.ChangeShapes Go.WideShapes Go.ChangeAt Go.RowKit
section
variable {H : Type} {enc : TypeId × Value → H} {W : World} {base : Nat} {v : Value} {d : DataW H} {p : List MemPlace}
set_option maxRecDepth 100000 in
theorem act24_rd (h : DataW.Trod enc Tryz.prog W 0 (fun _ => true) true 23 v d p) (hv : Value.okWide Tryz.prog W .any base 23 v) :
    ∃ (k txn : Int) (key val : List UInt8) (n : Int), 0 ≤ k ∧ v = .agg #[.int .u8 k, .int .i64 txn, .string ⟨key.toArray⟩, .string ⟨val.toArray⟩, .int .i64 n] := by
  obtain ⟨cs, rfl, hsz⟩ := okWide_struct Tryz.underlying23 hv
  have h2 : cs.size = 5 := by rw [hsz]; kernel_rfl
  obtain ⟨fuel, hf⟩ := h
  obtain ⟨xs, m, rfl, e, hlen, hxs, hi⟩ := DataW.trod_struct (cs := cs.toList) Tryz.underlying23 hf
  obtain ⟨l, rfl⟩ : ∃ l : List Value, cs = l.toArray := ⟨cs.toList, by simp⟩
  simp only [List.size_toArray] at h2
  match l, h2 with
  | [c0, c1, c2, c3, c4], _ =>
    have q0 := hi 0 _ rfl
    have q1 := hi 1 _ rfl
    have q2 := hi 2 _ rfl
    have q3 := hi 3 _ rfl
    have q4 := hi 4 _ rfl
    match xs, hxs with
    | [x0, x1, x2, x3, x4], _ =>
      obtain ⟨k, e0, _, wf0⟩ := DataW.trod_int (cs := [c0]) Tryz.underlying5 q0
      obtain ⟨y, e1, _, _⟩ := DataW.trod_int (cs := [c1]) Tryz.underlying3 q1
      obtain ⟨s, e2, _, _⟩ := DataW.trod_string (cs := [c2]) Tryz.underlying9 q2
      obtain ⟨t, e3, _, _⟩ := DataW.trod_string (cs := [c3]) Tryz.underlying9 q3
      obtain ⟨z, e4, _, _⟩ := DataW.trod_int (cs := [c4]) Tryz.underlying3 q4
      simp at e0 e1 e2 e3 e4
      subst e0 e1 e2 e3 e4
      have b0 : 0 ≤ k := by
        simp only [Lit.wf, Bool.and_eq_true, decide_eq_true_eq] at wf0
        exact wf0.1
      exact ⟨k, y, s.data.toList, t.data.toList, z, b0, by simp⟩
set_option maxRecDepth 100000 in
theorem intn_read (h : DataW.Trod enc Tryz.prog W 0 (fun _ => true) true 3 v d p) (hv : Value.okWide Tryz.prog W .any base 3 v) : ∃ n : Int, v = .int .i64 n := by
  obtain ⟨n, rfl, _, _, hw⟩ := open_int Tryz.underlying3 hv h
  exact ⟨n, rfl⟩
end
set_option maxRecDepth 100000 in
theorem nobody24_read {H : Type} {enc : TypeId × Value → H} (W : World) (hT : TabOK W) {base : Nat} {v0 v1 v2 : Value} {d0 d1 d2 : DataW H} {p0 p1 p2 : List MemPlace}
    (h0 : DataW.Trod enc Tryz.prog W 0 (fun _ => true) true 23 v0 d0 p0) (k0 : Value.okWide Tryz.prog W .any base 23 v0)
    (h1 : DataW.Trod enc Tryz.prog W 0 (fun _ => true) true 3 v1 d1 p1) (k1 : Value.okWide Tryz.prog W .any base 3 v1)
    (h2 : DataW.Trod enc Tryz.prog W 0 (fun _ => true) true 3 v2 d2 p2) (k2 : Value.okWide Tryz.prog W .any base 3 v2) :
    Calls Tryz.prog 3 #[v0, v1, v2] W fun e W' => e = .returned (.bool true) ∧ Same W W' := by
  obtain ⟨k, txn, key, val, n, hk, rfl⟩ := act24_rd h0 k0
  obtain ⟨log, rfl⟩ := intn_read h1 k1
  obtain ⟨room, rfl⟩ := intn_read h2 k2
  exact nobody24_any W hT k txn n key val log room hk
end Go.Proofs.YtlkgdpdnhnakoaaGreatDoor
