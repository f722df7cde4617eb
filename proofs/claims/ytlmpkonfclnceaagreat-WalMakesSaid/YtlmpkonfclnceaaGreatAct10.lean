/- Acts of chapter 10 in memory; few; begins. -/
import Derived.Test.YtlmpkonfclnceaaGreatTxa
import Derived.Lib.MinMax
namespace Go.Proofs.YtlmpkonfclnceaaGreat
open Go.RowKit Go.Sort

/-- An act of chapter 10. -/
structure A10 where
  k : Nat
  s : List Nat
  n : Int
  k2 : Nat
  n2 : Int
  c : Nat
  u : Nat
  dn : Bool
  fa : Option Addr
  fl : Nat
  fc : Nat
  fs : List Nat
/-- An act of chapter 10, in a block. -/
structure Act10 (W : World) (b o : Nat) (a : A10) : Prop where
  c0 : W.cell? ⟨b, o, none⟩ = some (.int .u8 (a.k : Nat))
  c1 : W.cell? ⟨b, o + 1, none⟩ = some (.string (strN a.s))
  c2 : W.cell? ⟨b, o + 2, none⟩ = some (.int .i64 a.n)
  c3 : W.cell? ⟨b, o + 3, none⟩ = some (.int .u8 (a.k2 : Nat))
  c4 : W.cell? ⟨b, o + 4, none⟩ = some (.int .i64 a.n2)
  c5 : W.cell? ⟨b, o + 5, none⟩ = some (.int .u8 (a.c : Nat))
  c6 : W.cell? ⟨b, o + 6, none⟩ = some (.int .u8 (a.u : Nat))
  c7 : W.cell? ⟨b, o + 7, none⟩ = some (.bool a.dn)
  c8 : W.cell? ⟨b, o + 8, none⟩ = some (.slice a.fa a.fl a.fc)
  kb : a.k < 256
  sb : Bts a.s
  nb : -9223372036854775808 ≤ a.n ∧ a.n ≤ 9223372036854775807
  kb2 : a.k2 < 256
  nb2 : -9223372036854775808 ≤ a.n2 ∧ a.n2 ≤ 9223372036854775807
  cb : a.c < 256
  ub : a.u < 256
  fl_ : a.fl = a.fs.length
  fc_ : a.fl ≤ a.fc
  fb : Bts a.fs
  at_ : NatsAt W .u8 a.fa a.fs
/-- Acts, side by side. -/
def Acts10 (W : World) (b o len : Nat) (A : Nat → A10) : Prop := ∀ i, i < len → Act10 W b (o + i * 9) (A i)
theorem Act10.same {w w' : World} {b o : Nat} {a : A10} (h : Act10 w b o a) (q : Same w w') (hb : b < w.heap.size) : Act10 w' b o a := by
  have e : ∀ j, w'.cell? ⟨b, j, none⟩ = w.cell? ⟨b, j, none⟩ := fun j => q.cell (p := ⟨b, j, none⟩) hb (fun h => h)
  exact ⟨(e _).trans h.c0, (e _).trans h.c1, (e _).trans h.c2, (e _).trans h.c3, (e _).trans h.c4, (e _).trans h.c5, (e _).trans h.c6, (e _).trans h.c7, (e _).trans h.c8, h.kb, h.sb, h.nb, h.kb2, h.nb2, h.cb, h.ub, h.fl_, h.fc_, h.fb, h.at_.same q⟩
/-- Are there few, and short ones? -/
def fewA (A : Nat → A10) (len : Nat) (m : Int) : Bool := decide ((len : Int) ≤ m) && (List.range len).all fun i => decide ((A i).s.length ≤ 300)
theorem fewA_true {A : Nat → A10} {len : Nat} {m : Int} (h : fewA A len m = true) : (len : Int) ≤ m ∧ ∀ i, i < len → (A i).s.length ≤ 300 := by
  unfold fewA at h
  rw [Bool.and_eq_true, decide_eq_true_eq, List.all_eq_true] at h
  exact ⟨h.1, fun i hi => by have := h.2 i (List.mem_range.2 hi); simpa using this⟩

set_option maxHeartbeats 800000 in
/-- Are acts few and small? -/
theorem few10 (W : World) (a : Option Addr) (len cap : Nat) (m : Int) (hmm : m ≤ 100) (A : Nat → A10) (hacts : len = 0 ∨ ∃ b off, a = some ⟨b, off, none⟩ ∧ b < W.heap.size ∧ Acts10 W b off len A) (w : World) (kw : Same W w) :
    Calls Tryz.prog 5 #[.slice a len cap, .int .i64 m] w fun e w' => e = .returned (.bool (fewA A len m)) ∧ w' = w := by
  by_cases hm : m < (len : Int)
  · have e : fewA A len m = false := by unfold fewA; rw [decide_eq_false (by omega)]; rfl
    rw [e]
    clear hacts e
    go_enter Tryz.func5, Tryz.ntmps5
    go_wp2_with fail
    go_ret
    exact ⟨rfl, rfl⟩
  · have hm' : ¬ m < (len : Int) := hm
    have hl100 : len ≤ 100 := by omega
    by_cases hz : len = 0
    · subst hz
      have e : fewA A 0 m = true := by unfold fewA; rw [decide_eq_true (by omega)]; rfl
      rw [e]
      clear hacts e hmm
      go_enter Tryz.func5, Tryz.ntmps5
      go_wp2_with fail
      go_loop [5] (fun t => t = .int .i64 0) (fun _ => 0)
      case atStart => rfl
      case round =>
        obtain rfl := hrel
        go_wp2_with fail
        go_ret
        exact ⟨rfl, rfl⟩
    · obtain ⟨b, off, rfl, hb, hall⟩ := hacts.resolve_left hz
      have hcell : ∀ i, i < len → w.cell? ⟨b, off + i * 9 + 1, none⟩ = some (.string (strN (A i).s)) := fun i hi => (kw.cell (p := ⟨b, off + i * 9 + 1, none⟩) hb (fun h => h)).trans (hall i hi).c1
      have HC := Lib.hid hcell
      have HE : Hid (fewA A len m = true ↔ ∀ i, i < len → (A i).s.length ≤ 300) := by
        refine ⟨fun h => (fewA_true h).2, fun h => ?_⟩
        unfold fewA
        rw [decide_eq_true (by omega), Bool.true_and, List.all_eq_true]
        intro i hi
        exact decide_eq_true (h i (List.mem_range.1 hi))
      clear hcell hall hmm
      generalize fewA A len m = r at *
      go_enter Tryz.func5, Tryz.ntmps5
      go_wp2_with fail
      go_loop [5] (fun t => ∃ i : Nat, t = .int .i64 i ∧ i ≤ len ∧ ∀ j, j < i → (A j).s.length ≤ 300) (fun t => len - (intOf t).toNat)
      case atStart => exact ⟨0, rfl, Nat.zero_le _, fun j hj => by omega⟩
      case round =>
        obtain ⟨i, rfl, hi, hsm'⟩ := hrel
        have hsm := Lib.hid hsm'
        clear hsm'
        by_cases hgo : i < len
        · have hc := HC.out i hgo
          have hz2 := strN_len (A i).s
          have g1 : (i : Int) < (len : Int) := by omega
          have g0 : (0 : Int) ≤ (i : Int) := by omega
          by_cases hbig : 300 < (A i).s.length
          · have g2 : (300 : Int) < ((A i).s.length : Int) := by omega
            have er : Hid (r = false) := by
              show r = false
              cases hr : r with
              | false => rfl
              | true => have := HE.out.1 hr i hgo; omega
            go_wp2_with fail
            go_ret
            exact ⟨by rw [er.out]; rfl, rfl⟩
          · have g2 : ¬ (300 : Int) < ((A i).s.length : Int) := by omega
            go_wp2_with fail
            go_round
            case rel =>
              refine ⟨i + 1, by go_num, by omega, fun j hj => ?_⟩
              by_cases q : j = i
              · subst q; omega
              · exact hsm.out j (by omega)
            case measure => simp [intOf]; omega
        · have g1 : ¬ (i : Int) < (len : Int) := by omega
          have er : Hid (r = true) := HE.out.2 (fun j hj => hsm.out j (by omega))
          go_wp2_with fail
          go_ret
          exact ⟨by rw [er.out]; rfl, rfl⟩
end Go.Proofs.YtlmpkonfclnceaaGreat
