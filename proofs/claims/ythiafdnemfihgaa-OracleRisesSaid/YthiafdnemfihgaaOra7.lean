/- The walk of OraclePlays. -/
import Derived.Test.YthiafdnemfihgaaOra6
namespace Go.Proofs.Ythiafdnemfihgaa
open Go.RowKit

/-- The cells of a list of acts: each has a kind and a number. -/
def ActsAt (w : World) (b off len : Nat) : Prop := ∀ i, i < len → ∃ k x : Int, 0 ≤ k ∧ k ≤ 255 ∧ w.cell? ⟨b, off + i * 2, none⟩ = some (.int .u8 k) ∧ w.cell? ⟨b, off + i * 2 + 1, none⟩ = some (.int .i64 x)

theorem ActsAt.same {w w' : World} {b off len : Nat} (h : ActsAt w b off len) (k : Same w w') (hb : b < w.heap.size) : ActsAt w' b off len := by
  intro i hi
  obtain ⟨k1, x, h0, h1, h2, h3⟩ := h i hi
  exact ⟨k1, x, h0, h1, (k.cell (p := ⟨b, off + i * 2, none⟩) hb (fun h => h)).trans h2, (k.cell (p := ⟨b, off + i * 2 + 1, none⟩) hb (fun h => h)).trans h3⟩

/-- The plain step, and that it keeps the clock's bounds. -/
theorem ckStart_inv {n f : Int} {s : Bool} (h : OraInv n s) : OraInv (ckStart n s f).1.1 (ckStart n s f).1.2 := by
  unfold ckStart ckIn
  split
  · exact h
  · rename_i hi
    simp at hi
    split
    · exact h
    · exact ⟨hi.1, hi.2, by simp⟩
theorem ckPush_inv {n f : Int} {s : Bool} (h : OraInv n s) : OraInv (ckPush n s f).1.1 (ckPush n s f).1.2 := by
  unfold ckPush ckIn
  split
  · exact h
  · rename_i hi
    simp at hi
    exact ⟨by have := h.1; simp; omega, by have := h.2.1; simp; omega, by simp⟩
theorem ckNext_inv {n : Int} {s : Bool} (h : OraInv n s) : OraInv (ckNext n).1 true := by
  unfold ckNext
  split
  · exact ⟨h.1, h.2.1, by simp⟩
  · exact ⟨by have := h.1; simp; omega, by simp; omega, by simp⟩

theorem do_any (b : Nat) (k x n : Int) (s : Bool) (w : World) (h0 : 0 ≤ k) (h1 : k ≤ 255) (hb : Ora w b n s) (hi : OraInv n s) :
    Calls Try.prog 6 #[.pointer (some ⟨b, 0, none⟩), ckV n s, .agg #[.int .u8 k, .int .i64 x]] w fun e w' =>
      ∃ n' s', e = .returned (.tuple #[ckV n' s', .bool true]) ∧ Ora w' b n' s' ∧ OraInv n' s' ∧ Kept (fun k => k = b) w w' := by
  by_cases hk : k % 4 = 0
  · exact (do_start b k x n s w h0 h1 hk hb hi).mono fun e w' ⟨he, ho, hk⟩ => ⟨_, _, he, ho, ckStart_inv hi, hk⟩
  · by_cases hk3 : k % 4 = 3
    · exact (do_push b k x n s w h0 h1 hk3 hb hi).mono fun e w' ⟨he, ho, hk⟩ => ⟨_, _, he, ho, ckPush_inv hi, hk⟩
    · exact (do_next b k x n s w h0 h1 hk hk3 hb hi).mono fun e w' ⟨he, ho, hk⟩ => ⟨_, _, he, ho, ckNext_inv hi, hk⟩

set_option maxHeartbeats 1600000 in
theorem plays_any (b off len cap : Nat) (w : World) (hb : b < w.heap.size) (ha : ActsAt w b off len) :
    Calls Try.prog 3 #[.slice (some ⟨b, off, none⟩) len cap] w fun e w' => e = .returned (.bool true) ∧ Same w w' := by
  have C0 := Lib.hid ((ora_new w).mono (R' := fun e w' => e = .returned (.pointer (some ⟨w.heap.size, 0, none⟩)) ∧ Ora w' w.heap.size 0 false ∧ Same w w' ∧ w'.heap.size = w.heap.size + 1) fun e w' ⟨he, h, hw⟩ => ⟨he, h, by rw [← hw]; exact (Kept.refl _ w).alloc _, by rw [← hw]; simp⟩)
  have hnot : ∀ (x : Bool) (w : World), (Op.unary .not (.bool x)).run Try.prog w = .ok (.bool (!x)) w := fun _ _ => rfl
  have HA := Lib.hid ha; clear ha
  go_enter Try.func3, Try.ntmps3
  go_wp2_with fail
  refine C0.out.mono ?_
  rintro e w1 ⟨rfl, h1, k1, hz⟩
  have H1 := Lib.hid h1; have K := Lib.hid k1; clear h1 k1
  have HZ := Lib.hid hz; clear hz
  have hzz : w.heap.size < w1.heap.size := Blk.lt H1.out
  go_wp2_with fail
  go_loopw [5, 6] (fun v i wr => ∃ (k : Nat) (n : Int) (s : Bool), k ≤ len ∧ i = .int .i64 k ∧ v = .bool true ∧ Ora wr w.heap.size n s ∧ OraInv n s ∧ Blk wr w1.heap.size #[.int .i64 n, .bool s] 26 ∧ Same w wr)
    (fun _ i _ => len - (intOf i).toNat)
  case atStart => exact ⟨0, 0, false, Nat.zero_le _, rfl, rfl, Blk.alloc H1.out _, ⟨by omega, by omega, fun _ => rfl⟩, Blk.new _ _ _, K.out.alloc _⟩
  case round =>
    obtain ⟨k, n, s, hk, rfl, rfl, ho, hi, hc, hkw⟩ := hrel
    have HO := Lib.hid ho; have HI := Lib.hid hi; have HC := Lib.hid hc; have HK := Lib.hid hkw
    clear ho hi hc hkw
    by_cases hlt : k < len
    · by_cases hlt2 : k < 100
      · obtain ⟨ki, x, hk0, hk1, q1, q2⟩ := ActsAt.same HA.out HK.out hb k hlt
        have q3 : wr.cell? ⟨w1.heap.size, 0, none⟩ = some (.int .i64 n) := HC.out.cell 0 rfl
        have q4 : wr.cell? ⟨w1.heap.size, 1, none⟩ = some (.bool s) := HC.out.cell 1 rfl
        have hge : (0 : Int) ≤ (k : Int) := by omega
        have hgl : (k : Int) < (len : Int) := by omega
        go_wp2_with fail
        go_region_with (go_at_call 6; refine (do_any w.heap.size ki x n s _ hk0 hk1 (by exact HO.out) HI.out).mono ?_; rintro e w2 ⟨n', s', rfl, ho2, hi2, hk2⟩; have HO2 := Lib.hid ho2; have HI2 := Lib.hid hi2; have HC2 := Lib.hid (Blk.kept (w := wr.drew) HC.out.drew hk2 (by omega)); have HK2 := Lib.hid (Same.own (w := wr.drew) HK.out.drew hk2 (Nat.le_refl _)); clear ho2 hi2 hk2; have p3 : w2.cell? ⟨w1.heap.size, 0, none⟩ = some (.int .i64 n) := HC2.out.cell 0 rfl; have p4 : w2.cell? ⟨w1.heap.size, 1, none⟩ = some (.bool s) := HC2.out.cell 1 rfl; have p5 : ∀ i, w2.frozen? ⟨w1.heap.size, i, none⟩ = false := HC2.out.free)
        all_goals
          go_wp2
          go_roundw
          case rel => exact ⟨k + 1, n', s', by omega, by go_num, rfl, (Blk.other HO2.out (by simp; omega) _).other (by simp; omega) _, HI2.out, (HC2.out.set 0 _).set 1 _, by repeat (first | exact HK2.out | refine Kept.drew ?_ | refine Kept.setNew ?_ (by simp; omega) _)⟩
          case measure => simp [intOf]; omega
      · go_wp2_with (first
          | (go_at_call 7; refine (ora_next_nil _).mono ?_; rintro e w2 ⟨rfl, rfl⟩)
          | (go_at_call 8; refine (ora_start_nil _ _).mono ?_; rintro e w2 ⟨rfl, rfl⟩)
          | (go_at_call 9; refine (ora_push_nil _ _).mono ?_; rintro e w2 ⟨rfl, rfl⟩)
          | (go_at_call 10; refine (ora_now_nil _).mono ?_; rintro e w2 ⟨rfl, rfl⟩)
          | (go_at_call 11; refine (ora_started_nil _).mono ?_; rintro e w2 ⟨rfl, rfl⟩)
          | (go_at_call 12; refine (ora_awake _).mono ?_; rintro e w2 ⟨rfl, k2⟩))
        go_ret
        exact ⟨rfl, HK.out.trans (by assumption)⟩
    · go_wp2_with (first
          | (go_at_call 7; refine (ora_next_nil _).mono ?_; rintro e w2 ⟨rfl, rfl⟩)
          | (go_at_call 8; refine (ora_start_nil _ _).mono ?_; rintro e w2 ⟨rfl, rfl⟩)
          | (go_at_call 9; refine (ora_push_nil _ _).mono ?_; rintro e w2 ⟨rfl, rfl⟩)
          | (go_at_call 10; refine (ora_now_nil _).mono ?_; rintro e w2 ⟨rfl, rfl⟩)
          | (go_at_call 11; refine (ora_started_nil _).mono ?_; rintro e w2 ⟨rfl, rfl⟩)
          | (go_at_call 12; refine (ora_awake _).mono ?_; rintro e w2 ⟨rfl, k2⟩))
      go_ret
      exact ⟨rfl, HK.out.trans (by assumption)⟩

set_option maxHeartbeats 800000 in
/-- A list without acts: whatever its address. -/
theorem plays_none (a : Option Addr) (cap : Nat) (w : World) :
    Calls Try.prog 3 #[.slice a 0 cap] w fun e w' => e = .returned (.bool true) ∧ Same w w' := by
  have C0 := Lib.hid ((ora_new w).mono (R' := fun e w' => e = .returned (.pointer (some ⟨w.heap.size, 0, none⟩)) ∧ Ora w' w.heap.size 0 false ∧ Same w w' ∧ w'.heap.size = w.heap.size + 1) fun e w' ⟨he, h, hw⟩ => ⟨he, h, by rw [← hw]; exact (Kept.refl _ w).alloc _, by rw [← hw]; simp⟩)
  have hnot : ∀ (x : Bool) (w : World), (Op.unary .not (.bool x)).run Try.prog w = .ok (.bool (!x)) w := fun _ _ => rfl
  go_enter Try.func3, Try.ntmps3
  go_wp2_with fail
  refine C0.out.mono ?_
  rintro e w1 ⟨rfl, h1, k1, hz⟩
  have K := Lib.hid k1; clear h1 k1 hz
  go_wp2_with fail
  refine wp_loop_rounds 1 ?_; rw [rounds_succ]
  go_wp2_with (first
          | (go_at_call 7; refine (ora_next_nil _).mono ?_; rintro e w2 ⟨rfl, rfl⟩)
          | (go_at_call 8; refine (ora_start_nil _ _).mono ?_; rintro e w2 ⟨rfl, rfl⟩)
          | (go_at_call 9; refine (ora_push_nil _ _).mono ?_; rintro e w2 ⟨rfl, rfl⟩)
          | (go_at_call 10; refine (ora_now_nil _).mono ?_; rintro e w2 ⟨rfl, rfl⟩)
          | (go_at_call 11; refine (ora_started_nil _).mono ?_; rintro e w2 ⟨rfl, rfl⟩)
          | (go_at_call 12; refine (ora_awake _).mono ?_; rintro e w2 ⟨rfl, k2⟩))
  go_ret
  exact ⟨rfl, (K.out.alloc _).trans (by assumption)⟩

end Go.Proofs.Ythiafdnemfihgaa
