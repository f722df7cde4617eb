/- The document's events: few and small; the first one; pairs with a key's value. -/
import Derived.Test.YtaeiajodbpgbbaaHv7
import Derived.Test.YtaeiajodbpgbbaaHeldT
namespace Go.Proofs.Ytaeiajodbpgbbaa
open Go.RowKit Go.Sort Go.Shelf

/-- Are events few and small enough? -/
def litB (l : List HEv) (most : Nat) : Bool := decide (l.length ≤ most) && l.all fun e => decide (e.key.length ≤ 100) && decide (e.val.length ≤ 100)
theorem litB_keys {l : List HEv} {most : Nat} (h : litB l most = true) : l.length ≤ most ∧ KeysB l := by
  unfold litB at h
  simp at h
  exact ⟨h.1, fun e he => (h.2 e he).1⟩
theorem enc_len (s : List UInt8) : (⟨s.toArray⟩ : ByteArray).size = s.length := by simp [ByteArray.size]
section
set_option maxRecDepth 100000 in
set_option maxHeartbeats 800000 in
theorem rf_light (a : Option Addr) (n c : Nat) (l : List HEv) (hn : n = l.length) (w : World) (hat : ElsAt evE w a l) :
    Calls Try.prog 5 #[.slice a n c, .int .i64 40] w fun e w' => e = .returned (.bool (litB l 40)) ∧ w' = w := by
  have HN := Lib.hid hn; have HAT := Lib.hid hat
  clear hat
  by_cases h40 : n ≤ 40
  · have VF := Lib.hid (show ∀ x ∈ l, ¬ (x.key.length ≤ 100 ∧ x.val.length ≤ 100) → litB l 40 = false from fun x hx hb => by
      unfold litB
      have : (l.all fun e => decide (e.key.length ≤ 100) && decide (e.val.length ≤ 100)) = false := by
        rw [List.all_eq_false]
        exact ⟨x, hx, by simpa using hb⟩
      rw [this]; simp)
    have VT := Lib.hid (show (∀ x ∈ l, x.key.length ≤ 100 ∧ x.val.length ≤ 100) → litB l 40 = true from fun h => by
      have hle : l.length ≤ 40 := by have := HN.out; omega
      unfold litB
      simp [hle]
      exact h)
    obtain ⟨r, hr⟩ : ∃ r, litB l 40 = r := ⟨_, rfl⟩
    rw [hr] at VF VT ⊢
    clear hr
    clear hn
    have g0 : ¬ (40 : Int) < (n : Int) := by omega
    go_enter Try.func5, Try.ntmps5
    go_wp2_with fail
    go_loopw [5] (fun t wr => ∃ (i : Nat), t = .int .i64 i ∧ i ≤ n ∧ (∀ e ∈ l.take i, e.key.length ≤ 100 ∧ e.val.length ≤ 100) ∧ wr = w) (fun t _ => n - (intOf t).toNat)
    case atStart => exact ⟨0, rfl, by omega, by simp, rfl⟩
    case round =>
      obtain ⟨i, rfl, hi, hg, rfl⟩ := hrel
      have K := Lib.hid (Kept.refl (fun _ => False) wr); have HG := Lib.hid hg
      clear hg
      by_cases hgo : i < n
      · have hil : i < l.length := by have := HN.out; omega
        obtain ⟨b, off, rfl, hbl, hc⟩ := ev_at HAT.out hil
        obtain ⟨c0, c1, c2, c3, c4, c5⟩ := hc _ K.out
        obtain ⟨x, hx⟩ : ∃ x, l[i] = x := ⟨_, rfl⟩
        have TK := Lib.hid (show l.take (i + 1) = l.take i ++ [x] by rw [← hx, List.take_append_getElem])
        rw [hx] at c0 c1 c2 c3 c4 c5
        have g1 : (i : Int) < (n : Int) := by omega
        have g0 : (0 : Int) ≤ (i : Int) := by omega
        have e3 := enc_len x.key
        have e4 := enc_len x.val
        have XL := Lib.hid (show x ∈ l from hx ▸ List.getElem_mem hil)
        by_cases q1 : x.key.length ≤ 100
        · have g3 : ¬ (100 : Int) < (x.key.length : Int) := by omega
          by_cases q2 : x.val.length ≤ 100
          · have g4 : ¬ (100 : Int) < (x.val.length : Int) := by omega
            have Q := Lib.hid (And.intro q1 q2)
            clear hx hc q1 q2
            go_wp2_with fail
            refine ⟨⟨i + 1, by go_num, by omega, ?_, trivial⟩, by simp [intOf]; omega⟩
            rw [TK.out]
            intro e he
            rcases List.mem_append.1 he with he | he
            · exact HG.out e he
            · simp at he; subst he; exact Q.out
          · have g4 : (100 : Int) < (x.val.length : Int) := by omega
            have Q := Lib.hid q2
            clear hx hc q1 q2
            go_wp2_with fail
            go_ret
            exact ⟨by rw [VF.out x XL.out (fun q => Q.out q.2)]; rfl, rfl⟩
        · have g3 : (100 : Int) < (x.key.length : Int) := by omega
          have Q := Lib.hid q1
          clear hx hc q1
          go_wp2_with fail
          go_ret
          exact ⟨by rw [VF.out x XL.out (fun q => Q.out q.1)]; rfl, rfl⟩
      · have hin : i = n := by omega
        have g1 : ¬ (i : Int) < (n : Int) := by omega
        have e1 : l.take i = l := List.take_of_length_le (by have := HN.out; omega)
        rw [e1] at HG
        go_wp2_with fail
        go_ret
        exact ⟨by rw [VT.out HG.out]; rfl, rfl⟩
  · have HB := Lib.hid (show litB l 40 = false from by
      have := HN.out
      unfold litB; rw [decide_eq_false (by omega)]; rfl)
    rw [HB.out]
    clear hn
    have g0 : (40 : Int) < (n : Int) := by omega
    go_enter Try.func5, Try.ntmps5
    go_wp2_with fail
    go_ret
    exact ⟨rfl, rfl⟩
set_option maxRecDepth 100000 in
set_option maxHeartbeats 800000 in
theorem rf_first (a : Option Addr) (n c : Nat) (l : List HEv) (hn : n = l.length) (hl : n ≤ 1000) (kind : Nat) (id : Int) (w : World) (hat : ElsAt evE w a l) :
    Calls Try.prog 23 #[.slice a n c, .int .u8 (kind : Nat), .int .i64 id] w fun e w' => e = .returned (.int .i64 (fstI l kind id)) ∧ w' = w := by
  have HN := Lib.hid hn; have HAT := Lib.hid hat
  clear hn hat
  have HIT := Lib.hid (show ∀ k (h : k < l.length), hit kind id l[k] = true → (∀ j, j < k → hit kind id l[j]! = false) → fstI l kind id = (k : Int) from fun k h h1 h2 => by
    have := Lib.idxByFrom_hit (fun _ y => hit kind id y) default l k 0 h (by rw [getElem!_pos l k h]; exact h1) h2
    simpa [fstI, Lib.idxBy] using this)
  have MISS := Lib.hid (show (∀ j, j < l.length → hit kind id l[j]! = false) → fstI l kind id = -1 from fun h => Lib.idxByFrom_miss (fun _ y => hit kind id y) default l 0 h)
  go_enter Try.func23, Try.ntmps23
  go_wp2_with fail
  go_loopw [7] (fun t wr => ∃ (i : Nat), t = .int .i64 i ∧ i ≤ n ∧ (∀ j : Nat, j < i → hit kind id l[j]! = false) ∧ wr = w) (fun t _ => n - (intOf t).toNat)
  case atStart => exact ⟨0, rfl, by omega, fun j hj => absurd hj (by omega), rfl⟩
  case round =>
    obtain ⟨i, rfl, hi, hg, rfl⟩ := hrel
    have K := Lib.hid (Kept.refl (fun _ => False) wr); have HG := Lib.hid hg
    clear hg
    by_cases hgo : i < n
    · have hil : i < l.length := by have := HN.out; omega
      obtain ⟨b, off, rfl, hbl, hc⟩ := ev_at HAT.out hil
      obtain ⟨c0, c1, c2, c3, c4, c5⟩ := hc _ K.out
      obtain ⟨x, hx⟩ : ∃ x, l[i] = x := ⟨_, rfl⟩
      have TK := Lib.hid (show l.take (i + 1) = l.take i ++ [x] by rw [← hx, List.take_append_getElem])
      rw [hx] at c0 c1 c2 c3 c4 c5
      have g1 : (i : Int) < (n : Int) := by omega
      have g0 : (0 : Int) ≤ (i : Int) := by omega
      have HX := Lib.hid (And.intro hil hx)
      have NX := Lib.hid (show hit kind id x = false → ∀ j, j < i + 1 → hit kind id l[j]! = false from fun h j hj => by
        rcases Nat.lt_or_ge j i with z | z
        · exact HG.out j z
        · obtain rfl : j = i := by omega
          rw [getElem!_pos l j HX.out.1, HX.out.2]; exact h)
      by_cases q1 : x.k = kind
      · by_cases q2 : x.x = id
        · have FI := Lib.hid (HIT.out i hil (by rw [hx]; simp [hit, q1, q2]) HG.out)
          have gk : ((x.k : Nat) : Int) = (kind : Int) := by omega
          have gx : x.x = id := q2
          clear hx hc q1 q2 NX
          go_wp2_with fail
          go_ret
          exact ⟨by rw [FI.out]; rfl, rfl⟩
        · have N2 := Lib.hid (NX.out (by simp [hit, q2]))
          have gk : ((x.k : Nat) : Int) = (kind : Int) := by omega
          have gx : (x.x == id) = false := by simpa using q2
          clear hx hc q1 q2 NX
          go_wp2_with fail
          exact ⟨⟨i + 1, by go_num, by omega, N2.out, trivial⟩, by simp [intOf]; omega⟩
      · have N2 := Lib.hid (NX.out (by simp [hit, q1]))
        have gk : (((x.k : Nat) : Int) == (kind : Int)) = false := by simp; omega
        clear hx hc q1 NX
        go_wp2_with fail
        exact ⟨⟨i + 1, by go_num, by omega, N2.out, trivial⟩, by simp [intOf]; omega⟩
    · have hin : i = n := by omega
      have g1 : ¬ (i : Int) < (n : Int) := by omega
      have M := Lib.hid (MISS.out (fun j hj => HG.out j (by have := HN.out; omega)))
      go_wp2_with fail
      go_ret
      exact ⟨by rw [M.out]; rfl, rfl⟩
end
end Go.Proofs.Ytaeiajodbpgbbaa
