/- Walks over package ordkey's readers. -/
import Derived.Test.YtmolmamfmboeoaaDoorOrd1
namespace Go.Proofs.YtmolmamfmboeoaaDoor
open Go.RowKit

/-- What GetSmall hands back. -/
abbrev smallV (r : Nat × Nat × Nat) : Value := .tuple #[.int .u64 (r.1 : Nat), .int .i64 (r.2.1 : Nat), .int .i64 (r.2.2 : Nat)]

set_option maxHeartbeats 1000000 in
theorem ord_getSmall (a : Option Addr) (cap : Nat) (xs : List Nat) (w : World) (hb : Bytes xs) (ha : NatsAt w .u8 a xs) (hc : xs.length ≤ cap) (hm : cap ≤ 9223372036854775807) :
    Calls Tryd.prog 63 #[.slice a xs.length cap] w fun e w' => e = .returned (smallV (getSmall xs)) ∧ w = w' := by
  have HB := Lib.hid hb; have HA := Lib.hid ha; clear hb ha
  cases xs with
  | nil =>
    go_enter Tryd.func63, Tryd.ntmps63
    go_wp2
    go_ret3
    exact ⟨rfl, rfl⟩
  | cons k r =>
    obtain ⟨b, off, x, rfl, _, hx, c0⟩ := HA.out.at (i := 0) (by simp)
    simp only [List.getElem?_cons_zero, Option.some.injEq, Nat.add_zero] at hx c0
    subst hx
    have hk : k < 256 := HB.out k (by simp)
    have hr : Bytes r := fun y hy => HB.out y (by simp [hy])
    have HR := Lib.hid hr; clear hr
    have hat : NatsAt w .u8 (some ⟨b, off + 1, none⟩) r := HA.out.drop 1
    have HT := Lib.hid hat; clear hat
    simp only [List.length_cons] at hc ⊢
    generalize hlr : r.length = n at *
    have HL := Lib.hid hlr; clear hlr
    have hne : (((n + 1 : Nat) : Int) == 0) = false := by simp; omega
    by_cases h8 : 8 < k
    · have HE : Hid (getSmall (k :: r) = (0, 0, 4)) := by show _ = _; simp [getSmall, h8]
      go_enter Tryd.func63, Tryd.ntmps63
      go_wp2
      go_ret3
      exact ⟨by rw [HE.out]; rfl, rfl⟩
    · by_cases hn : n < k
      · have HE : Hid (getSmall (k :: r) = (0, 0, 3)) := by show _ = _; simp [getSmall, h8, HL.out, hn]
        go_enter Tryd.func63, Tryd.ntmps63
        go_wp2
        go_ret3
        exact ⟨by rw [HE.out]; rfl, rfl⟩
      · by_cases hk0 : k = 0
        · subst hk0
          have HE : Hid (getSmall (0 :: r) = (0, 1, 0)) := by show _ = _; simp [getSmall]; rfl
          by_cases h1 : cap = 1
          all_goals
            go_enter Tryd.func63, Tryd.ntmps63
            go_wp2_with (go_at_call 65; refine (ord_number _ _ ([] : List Nat) _ (by simp) (by intro x hx; cases hx) (.inl rfl)).mono ?_; rintro e w1 ⟨rfl, rfl⟩)
            go_ret3
            exact ⟨by rw [HE.out]; rfl, rfl⟩
        · obtain ⟨y, ry, hr⟩ : ∃ y ry, r = y :: ry := by cases r with | nil => exact absurd HL.out (by simp; omega) | cons y ry => exact ⟨y, ry, rfl⟩
          have HRR := Lib.hid hr; clear hr
          have c1 : w.cell? ⟨b, off + 1, none⟩ = some (.int .u8 (y : Nat)) := by
            obtain ⟨b', off', x', e, _, hx', hc'⟩ := HT.out.at (i := 0) (by rw [HRR.out]; simp)
            simp only [Option.some.injEq, Addr.mk.injEq, and_true] at e
            obtain ⟨rfl, rfl⟩ := e
            rw [HRR.out] at hx'
            simp at hx'
            subst hx'
            simpa using hc'
          by_cases hy : y = 0
          · subst hy
            have HE : Hid (getSmall (k :: r) = (0, 0, 4)) := by show _ = _; simp only [getSmall]; rw [if_neg h8, if_neg (by rw [HL.out]; exact hn), if_pos ⟨by omega, by rw [HRR.out]; rfl⟩]
            go_enter Tryd.func63, Tryd.ntmps63
            go_wp2
            go_ret3
            exact ⟨by rw [HE.out]; rfl, rfl⟩
          · have HE : Hid (getSmall (k :: r) = (low (r.take k), k + 1, 0)) := by show _ = _; simp only [getSmall]; rw [if_neg h8, if_neg (by rw [HL.out]; exact hn), if_neg (by rw [HRR.out]; simp; intro _; exact hy)]
            have hyy : (((y : Nat) : Int) == 0) = false := by simp [hy]
            have hlen : (r.take k).length = k := by rw [List.length_take, HL.out]; omega
            have hnum := ord_number (some ⟨b, off + 1, none⟩) (cap - 1) (r.take k) w (by omega) (fun y hy => HR.out y (List.mem_of_mem_take hy)) (HT.out.take k)
            rw [hlen] at hnum
            have HN := Lib.hid hnum; clear hnum hlen
            go_enter Tryd.func63, Tryd.ntmps63
            go_wp2_with (go_at_call 65; refine HN.out.mono ?_; rintro e w1 ⟨rfl, rfl⟩)
            go_ret3
            exact ⟨by rw [HE.out]; rfl, rfl⟩

/-- A reader of bytes: what is left of them, and the first error. -/
def Rdr (w : World) (g : Nat) (a : Option Addr) (cap : Nat) (xs : List Nat) (er : Nat) : Prop :=
  Blk w g #[.slice a xs.length cap, .int .i64 (er : Nat)] 90 ∧ NatsAt w .u8 a xs ∧ xs.length ≤ cap ∧ cap ≤ 9223372036854775807 ∧ (∀ x, a = some x → x.block ≠ g)

/-- Small, as the document says it: what is left, the error, the number. -/
def rdSmall (xs : List Nat) (er : Nat) : List Nat × Nat × Nat :=
  if er ≠ 0 then (xs, er, 0) else
  if (getSmall xs).2.2 ≠ 0 then (xs, (getSmall xs).2.2, 0) else
  if 1099511627776 < (getSmall xs).1 then (xs, 9, 0) else (xs.drop (getSmall xs).2.1, 0, (getSmall xs).1)

theorem ord_state (g : Nat) (er : Nat) (v : Value) (w : World) (hb : Blk w g #[v, .int .i64 (er : Nat)] 90) :
    Calls Tryd.prog 62 #[.pointer (some ⟨g, 0, none⟩)] w fun e w' => e = .returned (.int .i64 (er : Nat)) ∧ w = w' := by
  have c1 : w.cell? ⟨g, 1, none⟩ = some (.int .i64 (er : Nat)) := hb.cell 1 rfl
  clear hb
  go_enter Tryd.func62, Tryd.ntmps62
  go_wp2
  go_ret
  exact ⟨rfl, rfl⟩

theorem ord_left (g : Nat) (a : Option Addr) (n cap : Nat) (er : Value) (w : World) (hb : Blk w g #[.slice a n cap, er] 90) :
    Calls Tryd.prog 53 #[.pointer (some ⟨g, 0, none⟩)] w fun e w' => e = .returned (.int .i64 (n : Nat)) ∧ w = w' := by
  have c1 : w.cell? ⟨g, 0, none⟩ = some (.slice a n cap) := hb.cell 0 rfl
  clear hb
  go_enter Tryd.func53, Tryd.ntmps53
  go_wp2
  go_ret
  exact ⟨rfl, rfl⟩

theorem getSmall_ok (xs : List Nat) (h : (getSmall xs).2.2 = 0) : 1 ≤ (getSmall xs).2.1 ∧ (getSmall xs).2.1 ≤ xs.length ∧ (getSmall xs).2.1 ≤ 9 := by
  cases xs with
  | nil => simp [getSmall] at h
  | cons k r =>
    simp only [getSmall] at h ⊢
    split at h
    · simp at h
    · rename_i h8
      rw [if_neg h8]
      split at h
      · simp at h
      · rename_i hn
        rw [if_neg hn]
        split at h
        · simp at h
        · rename_i hz
          rw [if_neg hz]
          simp; omega

end Go.Proofs.YtmolmamfmboeoaaDoor
