/- BlocksApart: the walk. -/
import Derived.Test.YtlmpkonfclnceaaAw4
namespace Go.Proofs.Ytlmpkonfclnceaa
open Go.RowKit Go.Sort

/-- A block's sectors, in short. -/
theorem secsA_cases {f k n : Int} (hf : 0 ≤ f ∧ f ≤ 4096) (hk : 0 ≤ k ∧ k ≤ 512) : (0 ≤ n ∧ n < k ∧ ∃ G : Nat, secsA f k n = [G, G + 1, G + 2, G + 3] ∧ (G : Int) = f + 4 * n) ∨ (¬ (0 ≤ n ∧ n < k) ∧ secsA f k n = []) := by
  by_cases h : 0 ≤ n ∧ n < k
  · refine .inl ⟨h.1, h.2, (f + 4 * n).toNat, ?_, by omega⟩
    unfold secsA
    rw [if_pos ⟨mayB_iff.2 (by omega), hasB_iff.2 h⟩]
    rfl
  · refine .inr ⟨h, ?_⟩
    unfold secsA
    rw [if_neg (fun q => h (hasB_iff.1 q.2))]
theorem four_get (G i : Nat) (h : i < 4) : ([G, G + 1, G + 2, G + 3] : List Nat).getD i 0 = G + i := by
  rcases i with _ | _ | _ | _ | i
  · rfl
  · rfl
  · rfl
  · rfl
  · omega
set_option maxRecDepth 100000 in
set_option maxHeartbeats 4000000 in
theorem apart4_any (W : World) (x y : Int) (hx : 0 ≤ x ∧ x < 65536) (hy : 0 ≤ y ∧ y < 65536) (n m : Int) :
    Calls Try.prog 8 #[.agg #[.int .u16 x, .int .u16 y], .int .i64 n, .int .i64 m] W fun e w' => e = .returned (.bool true) ∧ Same W w' := by
  have hx0 := hx.1
  have hx1 := hx.2
  have hy0 := hy.1
  have hy1 := hy.2
  clear hx hy
  go_enter Try.func8, Try.ntmps8
  go_wp2_with fail
  have hfb : 0 ≤ x % 4097 ∧ x % 4097 ≤ 4096 := by omega
  have hkb : 0 ≤ y % 513 ∧ y % 513 ≤ 512 := by omega
  have K0 : Hid (Same W ((W.alloc (.cells #[.int .u16 x, .int .u16 y] 64)).alloc (.cells #[.int .i64 (x % 4097), .int .i64 (y % 513)] 57))) := ((Kept.refl _ _).alloc _).alloc _
  have F0 : Hid (Fr ((W.alloc (.cells #[.int .u16 x, .int .u16 y] 64)).alloc (.cells #[.int .i64 (x % 4097), .int .i64 (y % 513)] 57)) (AreaF (W.heap.size + 1) (x % 4097) (y % 513))) := ⟨Blk.new' _ _ _ (by simp), trivial⟩
  generalize x % 4097 = f at *
  generalize y % 513 = k at *
  generalize hw1 : (W.alloc (.cells #[.int .u16 x, .int .u16 y] 64)).alloc (.cells #[.int .i64 f, .int .i64 k] 57) = w1 at *
  clear hw1
  obtain ⟨b, hb⟩ : ∃ b, W.heap.size + 1 = b := ⟨_, rfl⟩
  rw [hb] at F0 ⊢
  clear hb hx0 hx1 hy0 hy1
  have SX := Lib.hid fun w' => bl_sectors f k n w'
  have SY := Lib.hid fun w' => bl_sectors f k m w'
  unfold areaV at SX SY
  obtain ⟨LX, hLX⟩ : ∃ L, secsA f k n = L := ⟨_, rfl⟩
  obtain ⟨LY, hLY⟩ : ∃ L, secsA f k m = L := ⟨_, rfl⟩
  have cx := secsA_cases (n := n) hfb hkb
  have cy := secsA_cases (n := m) hfb hkb
  rw [hLX] at SX cx
  rw [hLY] at SY cy
  have CX := Lib.hid cx; have CY := Lib.hid cy
  clear hLX hLY cx cy
  have QQ : Hid (∀ w', Same w1 w' → (∀ i, w'.cell? ⟨b, i, none⟩ = (#[.int .i64 f, .int .i64 k] : Array Value)[i]?)) := fun w' k' => cell_blk (F0.out.1.kept k' (fun h => h))
  have KN := Lib.hid (Kept.refl (fun _ => False) w1)
  have tok := True.intro
  go_region_held3 (fun w' => (∀ i, w'.cell? ⟨b, i, none⟩ = (#[.int .i64 f, .int .i64 k] : Array Value)[i]?))
    (first | exact QQ.out _ KN.out | exact QQ.out _ KN.out.drew)
    (first
      | (go_at_call 32; have _t := tok; (with_reducible refine (SX.out _).mono ?_); rintro e w8 ⟨ax, ca, rfl, nx, -, k⟩; have NX := Lib.hid nx; have KN' := Lib.hid (show Same w1 w8 from Kept.trans (by first | exact KN.out | exact KN.out.drew) k); clear KN nx k tok _t; have KN := KN'; clear KN')
      | (go_at_call 32; (with_reducible refine (SY.out _).mono ?_); rintro e w9 ⟨ay, cb, rfl, ny, -, k⟩; have NY := Lib.hid ny; have KM := Lib.hid k; have KN' := Lib.hid (show Same w1 w9 from Kept.trans (by first | exact KN.out | exact KN.out.drew) k); clear KN ny k; have KN := KN'; clear KN'))
  have MX := Lib.hid (NX.out.same KM.out)
  have MY := Lib.hid NY.out
  have K9 := Lib.hid (K0.out.trans KN.out)
  have F9 := Lib.hid (F0.out.same KN.out)
  clear NX NY KM KN K0 F0 QQ SX SY
  obtain ⟨p0, f0, -⟩ := F9.out.rules
  have z0 := F9.out.1.lt
  obtain ⟨hf0, hf1⟩ := hfb
  obtain ⟨hk0, hk1⟩ := hkb
  rcases CX.out with ⟨hn0, hn1, G, hLX, hG⟩ | ⟨hnn, hLX⟩
  · subst hLX
    have HG := Lib.hid hG
    have hGf : f ≤ (G : Int) := by omega
    have hGe : (G : Int) + 3 < f + 4 * k := by omega
    clear hG CX
    obtain ⟨bx, ox, rfl⟩ : ∃ bx ox, ax = some ⟨bx, ox, none⟩ := by
      rcases MX.out with q | ⟨bx, ox, q, _⟩
      · cases q
      · exact ⟨bx, ox, q⟩
    have gk : 4 * k < 4000 := by omega
    go_wp2_with fail
    clear p0 f0 z0
    go_loopw [10] (fun t wr => ∃ i : Nat, t = .int .i64 i ∧ i ≤ 4 ∧ Same w9 wr) (fun t _ => 4 - (intOf t).toNat)
    case atStart => exact ⟨0, rfl, by omega, Kept.refl _ _⟩
    case round =>
      obtain ⟨i, rfl, hi, hk⟩ := hrel
      have HK := Lib.hid hk
      by_cases hgo : i < 4
      · have G0 := fun dq os i => cell_blk ((F9.out.same (hk.trans (Kept.of_below (below_regrown wr dq os)))).1) i
        have cX := fun dq os => nats_get (MX.out.same (hk.trans (Kept.of_below (below_regrown wr dq os)))) (i := i) hgo
        rw [four_get G i hgo] at cX
        have h1 : (i : Int) < 4 := by omega
        have h0 : (0 : Int) ≤ (i : Int) := by omega
        have d1 : decide ((G : Int) + (i : Int) < f) = false := decide_eq_false (by omega)
        have d2 : decide (f + 4 * k ≤ (G : Int) + (i : Int)) = false := decide_eq_false (by omega)
        have ex1 : IntKind.i64.wrap (4 * k) = 4 * k := IntWalk.i64_in _ (by omega)
        have ex2 : IntKind.i64.wrap (f + 4 * k) = f + 4 * k := IntWalk.i64_in _ (by omega)
        clear hk
        rcases i with _ | j
        · rw [Nat.add_zero, Nat.add_zero] at cX
          have d3 : decide ((G : Int) < f) = false := decide_eq_false (by omega)
          have d4 : decide (f + 4 * k ≤ (G : Int)) = false := decide_eq_false (by omega)
          clear d1 d2
          go_wp2_with fail
          refine wp_region_quiet_below (by kernel_rfl) (by kernel_rfl) ?_
          repeat (first | go_big_quiet_step (fail) | quiet_step (fail))
          refine wpQuiet_nil ?_
          intro _ hw'
          obtain ⟨⟨dq, osq⟩, hw''⟩ := hw'
          subst hw''
          have kq := Lib.hid (show Same wr _ from Kept.of_below (below_regrown wr dq osq))
          have K5 := Lib.hid (HK.out.trans kq.out)
          generalize grow (redrawn wr dq) osq = w5 at *
          clear kq HK G0 cX
          go_wp2_with fail
          go_loopw [11] (fun t wr => ∃ j : Nat, t = .int .i64 j ∧ j ≤ LY.length ∧ Same w9 wr) (fun t _ => LY.length - (intOf t).toNat)
          case atStart => exact ⟨0, rfl, Nat.zero_le _, K5.out⟩
          case round =>
            clear K5
            obtain ⟨j2, rfl, hj2, hk2⟩ := hrel
            have HK2 := Lib.hid hk2
            clear hk2
            by_cases hgo2 : j2 < LY.length
            · have g2 : (j2 : Int) < (LY.length : Int) := by omega
              by_cases hnm : n = m
              · subst hnm
                go_wp2_with fail
                go_roundw
                case rel => exact ⟨0 + 1, by go_num, by omega, HK2.out⟩
                case measure => first | (simp [intOf]; done) | (simp [intOf]; omega)
              · rcases CY.out with ⟨hm0, hm1, M, hLY, hM⟩ | ⟨-, hLY⟩
                · have hj4 : j2 < 4 := by rw [hLY] at hgo2; exact hgo2
                  have hcg : LY.getD j2 0 = M + j2 := by rw [hLY]; exact four_get M j2 hj4
                  have hM' := hM
                  clear hM
                  obtain ⟨ay1, ay2, rfl⟩ : ∃ b o, ay = some ⟨b, o, none⟩ := by
                    rcases MY.out with q | ⟨b, o, q, _⟩
                    · rw [hLY] at q; cases q
                    · exact ⟨b, o, q⟩
                  clear hLY
                  have cy := nats_get (MY.out.same HK2.out) (i := j2) hgo2
                  rw [hcg] at cy
                  clear hcg
                  have cx := nats_get (MX.out.same HK2.out) (i := 0) (by first | (simp; done) | (simp; omega))
                  rw [four_get G (0) (by omega)] at cx
                  rw [Nat.add_zero, Nat.add_zero] at cx
                  have hne : (((M + j2 : Nat) : Int) == (G : Int)) = false := by have := HG.out; simp; omega
                  rw [Int.natCast_add] at cy hne
                  clear hM'
                  have g20 : (0 : Int) ≤ (j2 : Int) := by omega
                  go_wp2_with fail
                  go_region
                  all_goals
                    go_wp2_with fail
                    go_roundw
                    case rel => exact ⟨j2 + 1, by go_num, by omega, by repeat (first | with_reducible exact HK2.out | with_reducible refine Kept.drew ?_)⟩
                    case measure => simp [intOf]; omega
                · rw [hLY] at hgo2; simp at hgo2
            · have g2 : ¬ (j2 : Int) < (LY.length : Int) := by omega
              go_wp2_with fail
              go_roundw
              case rel => exact ⟨0 + 1, by go_num, by omega, HK2.out⟩
              case measure => first | (simp [intOf]; done) | (simp [intOf]; omega)
        · have ex3 : IntKind.i64.wrap (j : Int) = (j : Int) := IntWalk.i64_in _ (by omega)
          have ex4 : IntKind.i64.wrap ((G : Int) + (j : Int) + 1) = (G : Int) + (j : Int) + 1 := IntWalk.i64_in _ (by omega)
          have cZ := fun dq os => nats_get (MX.out.same (HK.out.trans (Kept.of_below (below_regrown wr dq os)))) (i := j) (by simp; omega)
          rw [four_get G j (by omega)] at cZ
          have d3 : decide ((G : Int) + ((j : Int) + 1) < f) = false := decide_eq_false (by omega)
          have d4 : decide (f + 4 * k ≤ (G : Int) + ((j : Int) + 1)) = false := decide_eq_false (by omega)
          have d5 : decide ((0 : Int) < (j : Int) + 1) = true := decide_eq_true (by omega)
          have hxy : (((G : Int) + ((j : Int) + 1)) != (G : Int) + (j : Int) + 1) = false := by simp; omega
          have h10 : (j : Int) + 1 < 4 := by omega
          have h11 : (0 : Int) ≤ (j : Int) + 1 := by omega
          have h12 : (0 : Int) ≤ (j : Int) := by omega
          have h13 : (j : Int) < 4 := by omega
          rw [Int.natCast_add, Int.natCast_add] at cX
          rw [Int.natCast_add] at cZ
          clear d1 d2 h1 h0
          go_wp2_with fail
          refine wp_region_quiet_below (by kernel_rfl) (by kernel_rfl) ?_
          repeat (first | go_big_quiet_step (fail) | quiet_step (fail))
          refine wpQuiet_nil ?_
          intro _ hw'
          obtain ⟨⟨dq, osq⟩, hw''⟩ := hw'
          subst hw''
          have kq := Lib.hid (show Same wr _ from Kept.of_below (below_regrown wr dq osq))
          have K5 := Lib.hid (HK.out.trans kq.out)
          generalize grow (redrawn wr dq) osq = w5 at *
          clear kq HK G0 cX
          go_wp2_with fail
          go_loopw [11] (fun t wr => ∃ j : Nat, t = .int .i64 j ∧ j ≤ LY.length ∧ Same w9 wr) (fun t _ => LY.length - (intOf t).toNat)
          case atStart => exact ⟨0, rfl, Nat.zero_le _, K5.out⟩
          case round =>
            clear K5
            obtain ⟨j2, rfl, hj2, hk2⟩ := hrel
            have HK2 := Lib.hid hk2
            clear hk2
            by_cases hgo2 : j2 < LY.length
            · have g2 : (j2 : Int) < (LY.length : Int) := by omega
              by_cases hnm : n = m
              · subst hnm
                go_wp2_with fail
                go_roundw
                case rel => exact ⟨(j + 1) + 1, by go_num, by omega, HK2.out⟩
                case measure => first | (simp [intOf]; done) | (simp [intOf]; omega)
              · rcases CY.out with ⟨hm0, hm1, M, hLY, hM⟩ | ⟨-, hLY⟩
                · have hj4 : j2 < 4 := by rw [hLY] at hgo2; exact hgo2
                  have hcg : LY.getD j2 0 = M + j2 := by rw [hLY]; exact four_get M j2 hj4
                  have hM' := hM
                  clear hM
                  obtain ⟨ay1, ay2, rfl⟩ : ∃ b o, ay = some ⟨b, o, none⟩ := by
                    rcases MY.out with q | ⟨b, o, q, _⟩
                    · rw [hLY] at q; cases q
                    · exact ⟨b, o, q⟩
                  clear hLY
                  have cy := nats_get (MY.out.same HK2.out) (i := j2) hgo2
                  rw [hcg] at cy
                  clear hcg
                  have cx := nats_get (MX.out.same HK2.out) (i := (j + 1)) (by first | (simp; done) | (simp; omega))
                  rw [four_get G ((j + 1)) (by omega)] at cx
                  rw [Int.natCast_add, Int.natCast_add] at cx
                  have hne : (((M + j2 : Nat) : Int) == ((G : Int) + ((j : Int) + 1))) = false := by have := HG.out; simp; omega
                  rw [Int.natCast_add] at cy hne
                  clear hM'
                  have g20 : (0 : Int) ≤ (j2 : Int) := by omega
                  go_wp2_with fail
                  go_region
                  all_goals
                    go_wp2_with fail
                    go_roundw
                    case rel => exact ⟨j2 + 1, by go_num, by omega, by repeat (first | with_reducible exact HK2.out | with_reducible refine Kept.drew ?_)⟩
                    case measure => simp [intOf]; omega
                · rw [hLY] at hgo2; simp at hgo2
            · have g2 : ¬ (j2 : Int) < (LY.length : Int) := by omega
              go_wp2_with fail
              go_roundw
              case rel => exact ⟨(j + 1) + 1, by go_num, by omega, HK2.out⟩
              case measure => first | (simp [intOf]; done) | (simp [intOf]; omega)
      · have e : i = 4 := by omega
        subst e
        go_wp2_with fail
        refine (aw04 _).mono ?_
        rintro e w10 ⟨rfl, k10⟩
        go_wp2_with fail
        go_ret
        exact ⟨rfl, (K9.out.trans HK.out).trans k10⟩
  · subst hLX
    clear CX
    by_cases hn0 : 0 ≤ n
    · have hnk : ¬ n < k := fun q => hnn ⟨hn0, q⟩
      clear hnn
      go_wp2_with fail
      clear p0 f0 z0
      go_loopw [10] (fun t wr => t = .int .i64 0 ∧ wr = w9) (fun _ _ => 0)
      case atStart => exact ⟨rfl, rfl⟩
      case round =>
        obtain ⟨rfl, rfl⟩ := hrel
        go_wp2_with fail
        refine (aw04 _).mono ?_
        rintro e w10 ⟨rfl, k10⟩
        go_wp2_with fail
        go_ret
        exact ⟨rfl, K9.out.trans k10⟩
    · clear hnn
      go_wp2_with fail
      clear p0 f0 z0
      go_loopw [10] (fun t wr => t = .int .i64 0 ∧ wr = w9) (fun _ _ => 0)
      case atStart => exact ⟨rfl, rfl⟩
      case round =>
        obtain ⟨rfl, rfl⟩ := hrel
        go_wp2_with fail
        refine (aw04 _).mono ?_
        rintro e w10 ⟨rfl, k10⟩
        go_wp2_with fail
        go_ret
        exact ⟨rfl, K9.out.trans k10⟩
end Go.Proofs.Ytlmpkonfclnceaa
