/- Walks over package bitmap: words, New, Check. -/
import Derived.Test.YtlkgdpdnhnakoaaGreatDoorGNo
import Derived.Test.YtlkgdpdnhnakoaaGreatDoorBmBits
import Derived.Deep.QuietTactic
import Derived.BigQuiet
namespace Go.Proofs.YtlkgdpdnhnakoaaGreatDoor
open Go.RowKit

/-- A map as a value. -/
abbrev mapV (s : Int) (a : Option Addr) (n cap : Nat) : Value := .agg #[.int .i64 s, .slice a n cap]

set_option maxRecDepth 100000 in
theorem bm_words (s : Nat) (w : World) (h : s ≤ 4096) :
    Calls Tryz.prog 172 #[.int .i64 (s : Nat)] w fun e w' => e = .returned (.int .i64 (((s + 63) / 64 : Nat) : Int)) ∧ w = w' := by
  go_enter Tryz.func172, Tryz.ntmps172
  go_wp2
  go_ret
  exact ⟨ret_int (by omega), rfl⟩

theorem info64 : (Tryz.prog.info? 251).map (fun i => (i.zero, i.size, i.bytes)) = some (some (.int .u64 0), 1, 8) := by kernel_rfl

set_option maxRecDepth 100000 in
set_option maxHeartbeats 800000 in
theorem bm_new_ok (s : Nat) (w : World) (h : s ≤ 4096) :
    Calls Tryz.prog 88 #[.int .i64 (s : Nat)] w fun e w' => ∃ g, e = .returned (.tuple #[mapV s (some ⟨g, 0, none⟩) ((s + 63) / 64) ((s + 63) / 64), .int .i64 0]) ∧
      OwnN w' w.heap.size 251 .u64 (.slice (some ⟨g, 0, none⟩) ((s + 63) / 64) ((s + 63) / 64)) (List.replicate ((s + 63) / 64) 0) ∧ Same w w' := by
  obtain ⟨i0, hi, hz0, hz1, hz2⟩ := info_parts info64
  have HI := Lib.hid hi; have HZ0 := Lib.hid hz0; have HZ1 := Lib.hid hz1; have HZ2 := Lib.hid hz2
  clear hi hz0 hz1 hz2
  go_enter Tryz.func88, Tryz.ntmps88
  go_wp2_with (first | (go_at_call 172; refine (bm_words s _ h).mono ?_; rintro e w1 ⟨rfl, rfl⟩) | (at_make; refine wpList_make_full _ rfl _ _ 122 rfl w.heap.size 251 i0 (.int .u64 0) 1 Tryz.underlying122 HI.out HZ0.out HZ1.out .i64 .i64 _ _ ((s + 63) / 64) rfl rfl rfl rfl (by rw [HZ2.out]; omega) (by unfold maxLen; omega) (by simp) ?_; intro w1 hown hgrow; have HO := Lib.hid (OwnN.made hown); have HK := Lib.hid (((Kept.refl (fun _ => False) w).alloc _).grownNew hgrow (by simp)); have KA := (Kept.refl (fun _ => False) (w.alloc (.cells #[.int .i64 0, .slice none 0 0] 124))).grownNew hgrow (by simp); have G := (Blk.new w _ _).kept KA (fun h => h); have q0 : w1.cell? ⟨w.heap.size, 0, none⟩ = some (.int .i64 0) := G.cell 0 rfl; have q1 : w1.cell? ⟨w.heap.size, 1, none⟩ = some (.slice none 0 0) := G.cell 1 rfl; have f0 : ∀ i, w1.frozen? ⟨w.heap.size, i, none⟩ = false := G.free; have GG := Lib.hid G; clear hown hgrow KA G))
  have p := (GG.out.set 0 (.int .i64 (s : Nat))).set 1 (.slice (some ⟨w.heap.size + 1, 0, none⟩) ((s + 63) / 64) ((s + 63) / 64))
  have p0 := p.cell 0 (v := .int .i64 (s : Nat)) rfl
  have p1 := p.cell 1 (v := .slice (some ⟨w.heap.size + 1, 0, none⟩) ((s + 63) / 64) ((s + 63) / 64)) rfl
  refine bodyPost_ret (v := .tuple #[mapV s (some ⟨w.heap.size + 1, 0, none⟩) ((s + 63) / 64) ((s + 63) / 64), .int .i64 0]) (by simp [results, Tryz.results88, go_sem, p0, p1]) rfl ?_
  have KK := (Kept.refl (fun k => k = w.heap.size) w1).setG 0 (.int .i64 (s : Nat)) |>.setG 1 (.slice (some ⟨w.heap.size + 1, 0, none⟩) ((s + 63) / 64) ((s + 63) / 64))
  refine ⟨w.heap.size + 1, rfl, ?_, (HK.out.setNew (Nat.le_refl _) _).setNew (Nat.le_refl _) _⟩
  have HO1 := HO.out
  rw [World.size_alloc] at HO1
  exact HO1.kept KK (fun g hg => by simp [Value.ownBlock] at hg; omega)

set_option maxRecDepth 100000 in
/-- Check: the size is none, or too great. -/
theorem bm_check_size (s : Int) (a : Option Addr) (n cap : Nat) (w : World) (h : s < 0 ∨ 4096 < s) :
    Calls Tryz.prog 136 #[mapV s a n cap] w fun e w' => e = .returned (.int .i64 4) ∧ Same w w' := by
  rcases h with h | h
  · go_enter Tryz.func136, Tryz.ntmps136
    go_wp2_with fail
    go_quiet (fail)
    go_wp2
    go_ret
    exact ⟨rfl, by repeat (first | exact Kept.refl _ _ | refine Kept.drewN ?_ _ | refine Kept.alloc ?_ _)⟩
  · have h0 : decide (s < 0) = false := by simp; omega
    go_enter Tryz.func136, Tryz.ntmps136
    go_wp2_with fail
    go_quiet (fail)
    go_wp2
    go_ret
    exact ⟨rfl, by repeat (first | exact Kept.refl _ _ | refine Kept.drewN ?_ _ | refine Kept.alloc ?_ _)⟩

set_option maxRecDepth 100000 in
theorem bm_check_len (s : Nat) (a : Option Addr) (n cap : Nat) (w : World) (h : s ≤ 4096) (hn : ¬ n = (s + 63) / 64) :
    Calls Tryz.prog 136 #[mapV s a n cap] w fun e w' => e = .returned (.int .i64 4) ∧ Same w w' := by
  have h0 : decide ((s : Int) < 0) = false := decide_eq_false (by omega)
  have h1 : decide ((4096 : Int) < (s : Int)) = false := decide_eq_false (by omega)
  have h2 : (((n : Nat) : Int) != (((s + 63) / 64 : Nat) : Int)) = true := by rw [bne_iff_ne]; omega
  go_enter Tryz.func136, Tryz.ntmps136
  go_wp2_with fail
  go_quiet ((go_at_call 172; exact Calls.quiet_of_same ((bm_words s _ h).mono fun _ _ h => ⟨h.1, h.2.symm⟩)))
  go_wp2
  go_ret
  exact ⟨rfl, by repeat (first | exact Kept.refl _ _ | refine Kept.drewN ?_ _ | refine Kept.alloc ?_ _)⟩

set_option maxRecDepth 100000 in
theorem bm_check_even (s : Nat) (a : Option Addr) (cap : Nat) (w : World) (h : s ≤ 4096) (hk : s % 64 = 0) :
    Calls Tryz.prog 136 #[mapV s a ((s + 63) / 64) cap] w fun e w' => e = .returned (.int .i64 0) ∧ Same w w' := by
  have h0 : decide ((s : Int) < 0) = false := decide_eq_false (by omega)
  have h1 : decide ((4096 : Int) < (s : Int)) = false := decide_eq_false (by omega)
  have h3 : decide (0 < (s : Int) % 64) = false := decide_eq_false (by omega)
  clear hk
  generalize hn : (s + 63) / 64 = n at *
  have W := Lib.hid fun w => (bm_words s w h).mono (R' := fun e w' => e = .returned (.int .i64 (n : Nat)) ∧ w' = w) fun _ _ h => by rw [hn] at h; exact ⟨h.1, h.2.symm⟩
  have h2 : (((n : Nat) : Int) != ((n : Nat) : Int)) = false := by simp
  clear hn
  go_enter Tryz.func136, Tryz.ntmps136
  go_wp2_with fail
  go_quiet ((go_at_call 172; exact Calls.quiet_of_same (W.out _)))
  go_wp2
  go_ret
  exact ⟨rfl, by repeat (first | exact Kept.refl _ _ | refine Kept.drewN ?_ _ | refine Kept.alloc ?_ _)⟩

set_option maxRecDepth 100000 in
set_option maxHeartbeats 800000 in
theorem bm_check_odd (s x : Nat) (b off : Nat) (cap : Nat) (w : World) (r : Int) (hr : r = if x / 2 ^ (s % 64) = 0 then 0 else 4) (h : s ≤ 4096) (hk : ¬ s % 64 = 0) (hb : b < w.heap.size)
    (hc : w.cell? ⟨b, off + ((s + 63) / 64 - 1), none⟩ = some (.int .u64 (x : Nat))) :
    Calls Tryz.prog 136 #[mapV s (some ⟨b, off, none⟩) ((s + 63) / 64) cap] w fun e w' => e = .returned (.int .i64 r) ∧ Same w w' := by
  have h0 : decide ((s : Int) < 0) = false := decide_eq_false (by omega)
  have h1 : decide ((4096 : Int) < (s : Int)) = false := decide_eq_false (by omega)
  have h3 : (0 : Int) < (s : Int) % 64 := by omega
  have h4 : (s : Int) % 64 < 64 := by omega
  have hn1 : 1 ≤ (s + 63) / 64 := by omega
  have hn2 : (s + 63) / 64 ≤ 64 := by omega
  clear hk
  generalize hn : (s + 63) / 64 = n at *
  have W := Lib.hid fun w => (bm_words s w h).mono (R' := fun e w' => e = .returned (.int .i64 (n : Nat)) ∧ w' = w) fun _ _ h => by rw [hn] at h; exact ⟨h.1, h.2.symm⟩
  have h2 : (((n : Nat) : Int) != ((n : Nat) : Int)) = false := by simp
  clear hn
  by_cases hx : x / 2 ^ (s % 64) = 0
  · have hxb : ((x : Int) / 2 ^ (s % 64) != 0) = false := by
      have e : (x : Int) / 2 ^ (s % 64) = ((x / 2 ^ (s % 64) : Nat) : Int) := by simp
      rw [e]
      rw [hx]; rfl
    have HE : Hid (r = 0) := by show _ = _; rw [hr]; simp [hx]
    clear hx hr
    go_enter Tryz.func136, Tryz.ntmps136
    go_wp2_with fail
    go_quiet ((go_at_call 172; exact Calls.quiet_of_same (W.out _)))
    go_wp2
    go_ret
    exact ⟨by rw [HE.out]; rfl, by repeat (first | exact Kept.refl _ _ | refine Kept.drewN ?_ _ | refine Kept.alloc ?_ _)⟩
  · have hxb : ((x : Int) / 2 ^ (s % 64) != 0) = true := by
      have e : (x : Int) / 2 ^ (s % 64) = ((x / 2 ^ (s % 64) : Nat) : Int) := by simp
      rw [e]
      rw [bne_iff_ne]; omega
    have HE : Hid (r = 4) := by show _ = _; rw [hr]; simp [hx]
    clear hx hr
    go_enter Tryz.func136, Tryz.ntmps136
    go_wp2_with fail
    go_quiet ((go_at_call 172; exact Calls.quiet_of_same (W.out _)))
    go_wp2
    go_ret
    exact ⟨by rw [HE.out]; rfl, by repeat (first | exact Kept.refl _ _ | refine Kept.drewN ?_ _ | refine Kept.alloc ?_ _)⟩

set_option maxRecDepth 100000 in
/-- Check tells whether a map may be. -/
theorem bm_check (s : Int) (a : Option Addr) (cap : Nat) (ws : List Nat) (w : World) (hat : NatsAt w .u64 a ws) :
    Calls Tryz.prog 136 #[mapV s a ws.length cap] w fun e w' => e = .returned (.int .i64 (if mapOK s ws then 0 else 4)) ∧ Same w w' := by
  by_cases h1 : 0 ≤ s
  · by_cases h2 : s ≤ 4096
    · obtain ⟨S, rfl⟩ := Int.eq_ofNat_of_zero_le h1
      by_cases h3 : ws.length = (S + 63) / 64
      · by_cases h4 : S % 64 = 0
        · have : mapOK (S : Int) ws = true := by simp [mapOK, h2, h3, h4]
          rw [this, h3]
          exact bm_check_even S a cap w (by omega) h4
        · obtain ⟨b, off, x, rfl, hb, hx, hc⟩ := hat.at (i := ws.length - 1) (by omega)
          have e : mapOK (S : Int) ws = decide (x / 2 ^ (S % 64) = 0) := by
            have : ws.getD (ws.length - 1) 0 = x := by rw [List.getD, hx]; rfl
            unfold mapOK
            rw [this, h3]
            simp [h2, h4]
          rw [e]
          have hc' : w.cell? ⟨b, off + ((S + 63) / 64 - 1), none⟩ = some (.int .u64 (x : Nat)) := by rw [← h3]; exact hc
          have := bm_check_odd S x b off cap w _ rfl (by omega) h4 hb hc'
          rw [← h3] at this
          simpa using this
      · have : mapOK (S : Int) ws = false := by simp [mapOK, h3]
        rw [this]
        exact bm_check_len S a ws.length cap w (by omega) h3
    · have : mapOK s ws = false := by simp [mapOK, h2]
      rw [this]
      exact bm_check_size s a ws.length cap w (.inr (by omega))
  · have : mapOK s ws = false := by simp [mapOK, h1]
    rw [this]
    exact bm_check_size s a ws.length cap w (.inl (by omega))

end Go.Proofs.YtlkgdpdnhnakoaaGreatDoor
