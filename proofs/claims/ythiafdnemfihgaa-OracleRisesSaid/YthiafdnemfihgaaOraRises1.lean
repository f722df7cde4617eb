/- The walk of OracleRises. -/
import Derived.Test.YthiafdnemfihgaaOraRead
namespace Go.Proofs.Ythiafdnemfihgaa
open Go.RowKit

/-- What a round of OracleRises keeps: the clock stands at n, the last time told is l. -/
def RiseInv (w wr : World) (n l : Int) : Prop := 0 ≤ l ∧ l ≤ n ∧ n ≤ 1099511627776 ∧ Ora wr w.heap.size n true ∧ Ora wr (w.heap.size + 1) 0 false ∧ Same w wr

theorem RiseInv.inv {w wr : World} {n l : Int} (h : RiseInv w wr n l) : OraInv n true := ⟨by have := h.1; have := h.2.1; omega, h.2.2.1, by simp⟩

theorem RiseInv.on {w wr w2 : World} {n n' l l' : Int} (h : RiseInv w wr n l) (ho : Ora w2 w.heap.size n' true) (hk : Kept (fun k => k = w.heap.size) wr w2) (h0 : 0 ≤ l') (h1 : l' ≤ n') (h2 : n' ≤ 1099511627776) : RiseInv w w2 n' l' :=
  ⟨h0, h1, h2, ho, Blk.kept h.2.2.2.2.1 hk (by omega), Same.own h.2.2.2.2.2 hk (Nat.le_refl _)⟩

theorem rise_next_full {w wr : World} {n l : Int} (h : RiseInv w wr n l) (hm : 1099511627776 ≤ n) :
    Calls Try.prog 7 #[.pointer (some ⟨w.heap.size, 0, none⟩)] wr fun e w' => e = .returned (.tuple #[.int .i64 0, .int .i64 7]) ∧ RiseInv w w' n l :=
  (ora_next w.heap.size n true wr h.2.2.2.1 h.inv).mono fun e w' ⟨he, ho, hk⟩ => by
    rw [show ckNext n = (n, 0, 7) from by simp [ckNext, hm]] at he ho
    exact ⟨he, h.on ho hk h.1 h.2.1 h.2.2.1⟩

theorem rise_next {w wr : World} {n l : Int} (h : RiseInv w wr n l) (hm : n < 1099511627776) :
    Calls Try.prog 7 #[.pointer (some ⟨w.heap.size, 0, none⟩)] wr fun e w' => e = .returned (.tuple #[.int .i64 (n + 1), .int .i64 0]) ∧ RiseInv w w' (n + 1) (n + 1) :=
  (ora_next w.heap.size n true wr h.2.2.2.1 h.inv).mono fun e w' ⟨he, ho, hk⟩ => by
    rw [show ckNext n = (n + 1, n + 1, 0) from by rw [ckNext, if_neg (by omega)]] at he ho
    exact ⟨he, h.on ho hk (by have := h.1; have := h.2.1; omega) (by omega) (by omega)⟩

theorem rise_push_out {w wr : World} {n l x : Int} (h : RiseInv w wr n l) (hx : ckIn x = false) :
    Calls Try.prog 9 #[.pointer (some ⟨w.heap.size, 0, none⟩), .int .i64 x] wr fun e w' => e = .returned (.int .i64 9) ∧ RiseInv w w' n l :=
  (ora_push w.heap.size n x true wr h.2.2.2.1 h.inv).mono fun e w' ⟨he, ho, hk⟩ => by
    rw [show ckPush n true x = ((n, true), 9) from by simp [ckPush, hx]] at he ho
    exact ⟨he, h.on ho hk h.1 h.2.1 h.2.2.1⟩

theorem rise_push {w wr : World} {n l x : Int} (h : RiseInv w wr n l) (hx : ckIn x = true) :
    Calls Try.prog 9 #[.pointer (some ⟨w.heap.size, 0, none⟩), .int .i64 x] wr fun e w' => e = .returned (.int .i64 0) ∧ ∃ n', x ≤ n' ∧ l ≤ n' ∧ RiseInv w w' n' l :=
  (ora_push w.heap.size n x true wr h.2.2.2.1 h.inv).mono fun e w' ⟨he, ho, hk⟩ => by
    rw [show ckPush n true x = ((max n x, true), 0) from by simp [ckPush, hx]] at he ho
    simp [ckIn] at hx
    have := h.1; have := h.2.1; have := h.2.2.1
    exact ⟨he, max n x, by omega, by omega, h.on ho hk h.1 (by omega) (by omega)⟩

theorem rise_now {w wr : World} {n l : Int} (h : RiseInv w wr n l) :
    Calls Try.prog 10 #[.pointer (some ⟨w.heap.size, 0, none⟩)] wr fun e w' => e = .returned (.int .i64 n) ∧ wr = w' :=
  ora_now w.heap.size n true wr h.2.2.2.1

set_option maxRecDepth 100000 in
set_option maxHeartbeats 2000000 in
theorem rises_any (b off len cap : Nat) (f : Int) (w : World) (hf0 : 0 ≤ f) (hf1 : f ≤ 4294967295) (hb : b < w.heap.size) (ha : ActsAt w b off len) :
    Calls Try.prog 4 #[.int .u32 f, .slice (some ⟨b, off, none⟩) len cap] w fun e w' => e = .returned (.bool true) ∧ Same w w' := by
  have C0 := Lib.hid fun w => ((ora_new w).mono (R' := fun e w' => e = .returned (.pointer (some ⟨w.heap.size, 0, none⟩)) ∧ Ora w' w.heap.size 0 false ∧ Same w w' ∧ w'.heap.size = w.heap.size + 1) fun e w' ⟨he, h, hw⟩ => ⟨he, h, by rw [← hw]; exact (Kept.refl _ w).alloc _, by rw [← hw]; simp⟩)
  have C1 := Lib.hid fun w1 (h : Ora w1 w.heap.size 0 false) => (ora_start w.heap.size 0 false f w1 h).mono (R' := fun e w' => e = .returned (.int .i64 0) ∧ Ora w' w.heap.size f true ∧ Kept (fun k => k = w.heap.size) w1 w') fun e w' h => by
    rw [show ckStart 0 false f = ((f, true), 0) from by simp [ckStart, ckIn]; omega] at h; exact h
  have hnot : ∀ (x : Bool) (w : World), (Op.unary .not (.bool x)).run Try.prog w = .ok (.bool (!x)) w := fun _ _ => rfl
  have HA := Lib.hid ha; clear ha
  go_enter Try.func4, Try.ntmps4
  go_wp2_with fail
  refine (C0.out _).mono ?_
  rintro e w1 ⟨rfl, h1, k1, hz⟩
  have H1 := Lib.hid h1; have K := Lib.hid k1; have HZ := Lib.hid hz; clear h1 k1 hz
  go_wp2_with fail
  refine (C0.out _).mono ?_
  rintro e w2 ⟨rfl, h2, k2, hz⟩
  have H1 := Lib.hid (Blk.kept H1.out k2 (fun h => h)); have K := Lib.hid (K.out.trans k2)
  rw [HZ.out] at h2 ⊢
  have H2 := Lib.hid h2; clear h2 k2 hz
  go_wp2_with fail
  refine (C1.out _ H1.out).mono ?_
  rintro e w3 ⟨rfl, h1, k1⟩
  have R : Hid (RiseInv w w3 f f) := ⟨hf0, by omega, by omega, h1, Blk.kept H2.out k1 (by omega), Same.own K.out k1 (Nat.le_refl _)⟩
  clear h1 k1 H1 H2 K
  go_wp2_with fail
  go_loopw [7, 8] (fun v i wr => ∃ (k : Nat) (n l : Int), k ≤ len ∧ i = .int .i64 k ∧ v = .int .i64 l ∧ RiseInv w wr n l) (fun _ i _ => len - (intOf i).toNat)
  case atStart => exact ⟨0, f, f, Nat.zero_le _, rfl, rfl, R.out⟩
  case round =>
    obtain ⟨k, n, l, hk, rfl, rfl, hr⟩ := hrel
    have HR := Lib.hid hr
    have hl0 : 0 ≤ l := hr.1
    have hl1 : l ≤ n := hr.2.1
    have hl2 : n ≤ 1099511627776 := hr.2.2.1
    clear hr
    by_cases hlt : k < len
    · by_cases hlt2 : k < 100
      · obtain ⟨ki, x, hk0, hk1, a1, a2⟩ := HA.out k hlt
        have q1 : wr.cell? ⟨b, off + k * 2, none⟩ = some (.int .u8 ki) := (HR.out.2.2.2.2.2.cell (p := ⟨b, off + k * 2, none⟩) hb (fun h => h)).trans a1
        have q2 : wr.cell? ⟨b, off + k * 2 + 1, none⟩ = some (.int .i64 x) := (HR.out.2.2.2.2.2.cell (p := ⟨b, off + k * 2 + 1, none⟩) hb (fun h => h)).trans a2
        have A2 := Lib.hid a2
        clear a1 a2
        have hge : (0 : Int) ≤ (k : Int) := by omega
        have hgl : (k : Int) < (len : Int) := by omega
        rcases (show ki % 4 = 1 ∨ ki % 4 = 2 ∨ ki % 4 = 3 ∨ ki % 4 = 0 from by omega) with h4 | h4 | h4 | h4
        · have m1 : (ki % 4 == 1) = true := by simp [h4]
          have m2 : (ki % 4 == 2) = false := by simp [h4]
          have m3 : (ki % 4 == 3) = false := by simp [h4]
          clear h4
          by_cases hm : n < 1099511627776
          · go_wp2_with (first
              | (go_at_call 7; refine (rise_next HR.out hm).mono ?_; rintro e w4 ⟨rfl, hr⟩; have HR2 := Lib.hid hr; clear hr)
              | (go_at_call 10; refine (rise_now HR2.out).mono ?_; rintro e w4 ⟨rfl, rfl⟩))
            go_roundw
            case rel => exact ⟨k + 1, n + 1, n + 1, by omega, by go_num, rfl, HR2.out⟩
            case measure => simp [intOf]; omega
          · go_wp2_with (first
              | (go_at_call 7; refine (rise_next_full HR.out (by omega)).mono ?_; rintro e w4 ⟨rfl, hr⟩; have HR2 := Lib.hid hr; clear hr)
              | (go_at_call 10; refine (rise_now HR2.out).mono ?_; rintro e w4 ⟨rfl, rfl⟩))
            go_roundw
            case rel => exact ⟨k + 1, n, l, by omega, by go_num, rfl, HR2.out⟩
            case measure => simp [intOf]; omega
        · have m1 : (ki % 4 == 1) = false := by simp [h4]
          have m2 : (ki % 4 == 2) = true := by simp [h4]
          have m3 : (ki % 4 == 3) = false := by simp [h4]
          clear h4
          by_cases hm : n < 1099511627776
          · go_wp2_with (first
              | (go_at_call 7; refine (rise_next HR.out hm).mono ?_; rintro e w4 ⟨rfl, hr⟩; have HR2 := Lib.hid hr; clear hr)
              | (go_at_call 10; refine (rise_now HR2.out).mono ?_; rintro e w4 ⟨rfl, rfl⟩))
            go_roundw
            case rel => exact ⟨k + 1, n + 1, n + 1, by omega, by go_num, rfl, HR2.out⟩
            case measure => simp [intOf]; omega
          · go_wp2_with (first
              | (go_at_call 7; refine (rise_next_full HR.out (by omega)).mono ?_; rintro e w4 ⟨rfl, hr⟩; have HR2 := Lib.hid hr; clear hr)
              | (go_at_call 10; refine (rise_now HR2.out).mono ?_; rintro e w4 ⟨rfl, rfl⟩))
            go_roundw
            case rel => exact ⟨k + 1, n, l, by omega, by go_num, rfl, HR2.out⟩
            case measure => simp [intOf]; omega
        · have m1 : (ki % 4 == 1) = false := by simp [h4]
          have m2 : (ki % 4 == 2) = false := by simp [h4]
          have m3 : (ki % 4 == 3) = true := by simp [h4]
          clear h4
          cases hx : ckIn x
          · have HX := Lib.hid hx; clear hx
            go_wp2_with (first
              | (go_at_call 9; refine (rise_push_out HR.out HX.out).mono ?_; rintro e w4 ⟨rfl, hr⟩; have HR2 := Lib.hid hr; clear hr)
              | (go_at_call 10; refine (rise_now HR2.out).mono ?_; rintro e w4 ⟨rfl, rfl⟩))
            go_roundw
            case rel => exact ⟨k + 1, n, l, by omega, by go_num, rfl, HR2.out⟩
            case measure => simp [intOf]; omega
          · have HX := Lib.hid hx; clear hx
            by_cases hxl : x ≤ l
            all_goals
              go_wp2_with (first
                | (go_at_call 9; refine (rise_push HR.out HX.out).mono ?_; rintro e w4 ⟨rfl, n', hn1, hn2, hr⟩; have HR2 := Lib.hid hr; clear hr; have q3 : w4.cell? ⟨b, off + k * 2 + 1, none⟩ = some (.int .i64 x) := (HR2.out.2.2.2.2.2.cell (p := ⟨b, off + k * 2 + 1, none⟩) hb (fun h => h)).trans A2.out)
                | (go_at_call 10; refine (rise_now HR2.out).mono ?_; rintro e w4 ⟨rfl, rfl⟩))
              go_roundw
              case rel => exact ⟨k + 1, n', _, by omega, by go_num, rfl, ⟨by omega, by omega, HR2.out.2.2.1, HR2.out.2.2.2.1, HR2.out.2.2.2.2.1, HR2.out.2.2.2.2.2⟩⟩
              case measure => simp [intOf]; omega
        · have m1 : (ki % 4 == 1) = false := by simp [h4]
          have m2 : (ki % 4 == 2) = false := by simp [h4]
          have m3 : (ki % 4 == 3) = false := by simp [h4]
          clear h4
          go_wp2_with (first
              | (go_at_call 10; refine (rise_now HR.out).mono ?_; rintro e w4 ⟨rfl, rfl⟩))
          go_roundw
          case rel => exact ⟨k + 1, n, l, by omega, by go_num, rfl, HR.out⟩
          case measure => simp [intOf]; omega
      · go_wp2_with (first
          | (go_at_call 10; refine (ora_now (w.heap.size + 1) 0 false _ HR.out.2.2.2.2.1).mono ?_; rintro e w4 ⟨rfl, rfl⟩)
          | (go_at_call 11; refine (ora_started (w.heap.size + 1) 0 false _ HR.out.2.2.2.2.1).mono ?_; rintro e w4 ⟨rfl, rfl⟩)
          | (go_at_call 12; refine (ora_awake _).mono ?_; rintro e w4 ⟨rfl, k2⟩))
        go_ret
        exact ⟨rfl, HR.out.2.2.2.2.2.trans (by assumption)⟩
    · go_wp2_with (first
          | (go_at_call 10; refine (ora_now (w.heap.size + 1) 0 false _ HR.out.2.2.2.2.1).mono ?_; rintro e w4 ⟨rfl, rfl⟩)
          | (go_at_call 11; refine (ora_started (w.heap.size + 1) 0 false _ HR.out.2.2.2.2.1).mono ?_; rintro e w4 ⟨rfl, rfl⟩)
          | (go_at_call 12; refine (ora_awake _).mono ?_; rintro e w4 ⟨rfl, k2⟩))
      go_ret
      exact ⟨rfl, HR.out.2.2.2.2.2.trans (by assumption)⟩

set_option maxRecDepth 100000 in
set_option maxHeartbeats 2000000 in
/-- A list without acts: whatever its address. -/
theorem rises_none (a : Option Addr) (cap : Nat) (f : Int) (w : World) (hf0 : 0 ≤ f) (hf1 : f ≤ 4294967295) :
    Calls Try.prog 4 #[.int .u32 f, .slice a 0 cap] w fun e w' => e = .returned (.bool true) ∧ Same w w' := by
  have C0 := Lib.hid fun w => ((ora_new w).mono (R' := fun e w' => e = .returned (.pointer (some ⟨w.heap.size, 0, none⟩)) ∧ Ora w' w.heap.size 0 false ∧ Same w w' ∧ w'.heap.size = w.heap.size + 1) fun e w' ⟨he, h, hw⟩ => ⟨he, h, by rw [← hw]; exact (Kept.refl _ w).alloc _, by rw [← hw]; simp⟩)
  have C1 := Lib.hid fun w1 (h : Ora w1 w.heap.size 0 false) => (ora_start w.heap.size 0 false f w1 h).mono (R' := fun e w' => e = .returned (.int .i64 0) ∧ Ora w' w.heap.size f true ∧ Kept (fun k => k = w.heap.size) w1 w') fun e w' h => by
    rw [show ckStart 0 false f = ((f, true), 0) from by simp [ckStart, ckIn]; omega] at h; exact h
  have hnot : ∀ (x : Bool) (w : World), (Op.unary .not (.bool x)).run Try.prog w = .ok (.bool (!x)) w := fun _ _ => rfl
  go_enter Try.func4, Try.ntmps4
  go_wp2_with fail
  refine (C0.out _).mono ?_
  rintro e w1 ⟨rfl, h1, k1, hz⟩
  have H1 := Lib.hid h1; have K := Lib.hid k1; have HZ := Lib.hid hz; clear h1 k1 hz
  go_wp2_with fail
  refine (C0.out _).mono ?_
  rintro e w2 ⟨rfl, h2, k2, hz⟩
  have H1 := Lib.hid (Blk.kept H1.out k2 (fun h => h)); have K := Lib.hid (K.out.trans k2)
  rw [HZ.out] at h2 ⊢
  have H2 := Lib.hid h2; clear h2 k2 hz
  go_wp2_with fail
  refine (C1.out _ H1.out).mono ?_
  rintro e w3 ⟨rfl, h1, k1⟩
  have R : Hid (RiseInv w w3 f f) := ⟨hf0, by omega, by omega, h1, Blk.kept H2.out k1 (by omega), Same.own K.out k1 (Nat.le_refl _)⟩
  clear h1 k1 H1 H2 K
  go_wp2_with fail
  refine wp_loop_rounds 1 ?_; rw [rounds_succ]
  have HR := R
  clear R
  go_wp2_with (first
          | (go_at_call 10; refine (ora_now (w.heap.size + 1) 0 false _ HR.out.2.2.2.2.1).mono ?_; rintro e w4 ⟨rfl, rfl⟩)
          | (go_at_call 11; refine (ora_started (w.heap.size + 1) 0 false _ HR.out.2.2.2.2.1).mono ?_; rintro e w4 ⟨rfl, rfl⟩)
          | (go_at_call 12; refine (ora_awake _).mono ?_; rintro e w4 ⟨rfl, k2⟩))
  go_ret
  exact ⟨rfl, HR.out.2.2.2.2.2.trans (by assumption)⟩

end Go.Proofs.Ythiafdnemfihgaa
