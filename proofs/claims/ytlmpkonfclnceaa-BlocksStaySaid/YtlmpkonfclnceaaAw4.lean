/- What a right program reads of one block. -/
import Derived.Test.YtlmpkonfclnceaaBlk4
import Derived.Lib.SlBytesConst
namespace Go.Proofs.Ytlmpkonfclnceaa
open Go.RowKit Go.Sort

def AreaF (x : Nat) (f k : Int) : List (Nat × Array Value × TypeId) := [(x, #[.int .i64 f, .int .i64 k], 57)]
set_option maxRecDepth 100000 in
set_option maxHeartbeats 4000000 in
theorem aw04 (W : World) : Calls Try.prog 29 #[] W fun e w' => e = .returned (.bool true) ∧ Same W w' := by
  go_enter Try.func29, Try.ntmps29
  go_wp2_with fail
  refine (sd_new 11 W).mono ?_
  rintro e w1 ⟨d, bs, cap, m, rfl, h1, hd, hbs, hm, k1⟩
  have l1 := h1.box.lt; have l2 := h1.safe.lt; have l3 := h1.map.lt
  have H1 := Lib.hid h1; have K1 := Lib.hid k1
  clear h1 k1
  have hcv : (convert 24 24 (.slice (some ⟨w1.heap.size + 1, 0, none⟩) 2 2)).run Try.prog ((w1.alloc (.cells #[.int .i64 3, .int .i64 2] 57)).alloc (.cells #[.int .u8 97, .int .u8 98] 5)) = .ok (.slice (some ⟨w1.heap.size + 1, 0, none⟩) 2 2) ((w1.alloc (.cells #[.int .i64 3, .int .i64 2] 57)).alloc (.cells #[.int .u8 97, .int .u8 98] 5 (2, 3))) := by
    have := Lib.run_convert_bytes_const (P := Try.prog) (w1.alloc (.cells #[.int .i64 3, .int .i64 2] 57)) 24 5 #[.int .u8 97, .int .u8 98] 2 2 Try.underlying24 Try.underlying5
    rw [show (w1.alloc (.cells #[.int .i64 3, .int .i64 2] 57)).heap.size = w1.heap.size + 1 from by simp] at this
    exact this
  have K2 : Hid (Same w1 ((w1.alloc (.cells #[.int .i64 3, .int .i64 2] 57)).alloc (.cells #[.int .u8 97, .int .u8 98] 5 (2, 3)))) := ((Kept.refl _ _).alloc _).alloc _
  have F2 : Hid (Fr ((w1.alloc (.cells #[.int .i64 3, .int .i64 2] 57)).alloc (.cells #[.int .u8 97, .int .u8 98] 5 (2, 3))) (AreaF w1.heap.size 3 2)) := ⟨(Blk.new _ _ _).alloc _, trivial⟩
  have N2 : Hid (NatsAt ((w1.alloc (.cells #[.int .i64 3, .int .i64 2] 57)).alloc (.cells #[.int .u8 97, .int .u8 98] 5 (2, 3))) .u8 (some ⟨w1.heap.size + 1, 0, none⟩) [97, 98]) := by
    refine .inr ⟨w1.heap.size + 1, 0, rfl, by simp, fun i y hy => ?_⟩
    have hb : ((w1.alloc (.cells #[.int .i64 3, .int .i64 2] 57)).alloc (.cells #[.int .u8 97, .int .u8 98] 5 (2, 3))).heap[w1.heap.size + 1]? = some (.cells #[.int .u8 97, .int .u8 98] 5 (2, 3)) := by
      have := heap_alloc_new (w1.alloc (.cells #[.int .i64 3, .int .i64 2] 57)) (.cells #[.int .u8 97, .int .u8 98] 5 (2, 3))
      rw [show (w1.alloc (.cells #[.int .i64 3, .int .i64 2] 57)).heap.size = w1.heap.size + 1 from by simp] at this
      exact this
    simp only [World.cell?, hb, Nat.zero_add]
    rcases i with _ | _ | i
    · simp at hy; subst hy; rfl
    · simp at hy; subst hy; rfl
    · simp at hy
  obtain ⟨x, hx⟩ : ∃ x, w1.heap.size = x := ⟨_, rfl⟩
  rw [hx] at F2 N2 hcv l1 l2 l3
  have hWx : W.heap.size ≤ x := by have := K1.out.size; omega
  go_wp2_with fail
  clear hx
  refine (bl_write (H1.out.same K2.out) 3 2 1 (some ⟨x + 1, 0, none⟩) 2 2 [97, 98] rfl (by intro y hy; simp at hy; omega) (Nat.le_refl _) N2.out).mono ?_
  rintro e w3 ⟨rfl, h3, k3⟩
  rw [awb1]
  have H3 := Lib.hid (show DiskIn w3 d bs cap m awB1 from h3)
  have K3 := Lib.hid ((K1.out.trans K2.out).own k3 hd hbs hm)
  have F3 := Lib.hid (F2.out.kept k3 (by intro y hy; simp [AreaF] at hy; subst hy; (rintro (q | q | q) <;> (dsimp only at q; omega))))
  clear h3 k3 H1 K1 K2 F2 N2 hcv
  go_wp2_with fail
  refine (sd_sync H3.out).mono ?_
  rintro e w4 ⟨rfl, h4, k4⟩
  rw [awb2]
  have H4 := Lib.hid (show DiskIn w4 d bs cap m awB2 from h4)
  have K4 := Lib.hid (K3.out.own k4 hd hbs hm)
  have F4 := Lib.hid (F3.out.kept k4 (by intro y hy; simp [AreaF] at hy; subst hy; (rintro (q | q | q) <;> (dsimp only at q; omega))))
  clear h4 k4 H3 K3 F3
  go_wp2_with fail
  refine (sd_power H4.out none 0 0 [] rfl (Nat.le_refl _) (by intro y hy; cases hy) (.inl rfl)).mono ?_
  rintro e w5 ⟨rfl, h5, k5⟩
  have H5 := Lib.hid (show DiskIn w5 d bs cap m awB3 from h5)
  have K5 := Lib.hid (K4.out.own k5 hd hbs hm)
  have F5 := Lib.hid (F4.out.kept k5 (by intro y hy; simp [AreaF] at hy; subst hy; (rintro (q | q | q) <;> (dsimp only at q; omega))))
  clear h5 k5 H4 K4 F4
  obtain ⟨p0, f0, -⟩ := F5.out.rules
  have z0 := F5.out.1.lt
  go_wp2_with fail
  refine (bl_read H5.out 3 2 1).mono ?_
  rw [awb3]
  rintro e w6 ⟨a6, c6, rfl, n6, -, k6⟩
  have N6 := Lib.hid n6
  have H6 := Lib.hid (H5.out.same k6)
  have K6 := Lib.hid (K5.out.trans k6)
  have F6 := Lib.hid (F5.out.same k6)
  clear n6 k6 H5 K5 F5 p0 f0 z0
  obtain ⟨p0, f0, -⟩ := F6.out.rules
  have z0 := F6.out.1.lt
  go_wp2_with fail
  refine (bl_read H6.out 3 2 0).mono ?_
  rintro e w7 ⟨a7, c7, rfl, -, -, k7⟩
  rw [awb4]
  have N7 := Lib.hid (N6.out.same k7)
  have H7 := Lib.hid (H6.out.same k7)
  have K7 := Lib.hid (K6.out.trans k7)
  have F7 := Lib.hid (F6.out.same k7)
  clear k7 N6 H6 K6 F6 p0 f0 z0
  obtain ⟨L7, hL7⟩ : ∃ L, (readB awB3 3 2 0).1.length = L := ⟨_, rfl⟩
  rw [hL7]
  clear hL7
  obtain ⟨p0, f0, -⟩ := F7.out.rules
  have z0 := F7.out.1.lt
  have QQ : Hid (∀ w', Same w7 w' → (∀ i, w'.cell? ⟨x, i, none⟩ = (#[.int .i64 3, .int .i64 2] : Array Value)[i]?)) := fun w' k => cell_blk (F7.out.1.kept k (fun h => h))
  have KN := Lib.hid (Kept.refl (fun _ => False) w7)
  go_wp2_with fail
  go_region_held3 (fun w' => (∀ i, w'.cell? ⟨x, i, none⟩ = (#[.int .i64 3, .int .i64 2] : Array Value)[i]?))
    (first | exact QQ.out _ KN.out | exact QQ.out _ KN.out.drew)
    (first
      | (go_at_call 32; refine (bl_sectors 3 2 1 _).mono ?_; rw [awb6.1]; rintro e w8 ⟨a8, c8, rfl, n8, -, k⟩; have N8 := Lib.hid n8; have KN' := Lib.hid (show Same w7 w8 from Kept.trans (by first | exact KN.out | exact KN.out.drew) k); clear KN n8 k; have KN := KN'; clear KN')
      | (go_at_call 39; refine (bl_sound (H7.out.same (show Same w7 _ from (by first | exact KN.out | exact KN.out.drew))) 3 2).mono ?_; rw [awb5]; rintro e w9 ⟨⟨v9, rfl, ho9⟩, k⟩; have O9 := Lib.hid ho9; have KM := Lib.hid k; have KN' := Lib.hid (show Same w7 w9 from Kept.trans (by first | exact KN.out | exact KN.out.drew) k); clear KN ho9 k; have KN := KN'; clear KN'))
  have M6 := Lib.hid (N7.out.same KN.out)
  have M8 := Lib.hid (N8.out.same KM.out)
  have K9 := Lib.hid (K7.out.trans KN.out)
  have H9 := Lib.hid (H7.out.same KN.out)
  have F9 := Lib.hid (F7.out.same KN.out)
  obtain ⟨a9, l9, c9, rfl, hl9, -, n9, -⟩ := O9.out.rd
  have hl := hl9.out
  subst hl
  obtain ⟨b8, o8, rfl, -⟩ : ∃ b o, a8 = some ⟨b, o, none⟩ ∧ True := by
    rcases N8.out with q | ⟨b, o, q, _⟩
    · cases q
    · exact ⟨b, o, q, trivial⟩
  obtain ⟨b9, o9, rfl, -⟩ : ∃ b o, a9 = some ⟨b, o, none⟩ ∧ True := by
    rcases n9.out with q | ⟨b, o, q, _⟩
    · cases q
    · exact ⟨b, o, q, trivial⟩
  have hcv := conv_str a6 2 c6 [97, 98] w9 rfl M6.out
  have e8 : w9.cell? ⟨b8, o8, none⟩ = some (.int .i64 7) := nats_get M8.out (i := 0) (by simp)
  have e9 : w9.cell? ⟨b9, o9, none⟩ = some (.int .i64 1) := nats_get n9.out (i := 0) (by simp)
  have hs97 : strN [97, 98] = { data := #[97, 98] } := by decide
  rw [hs97] at hcv
  clear QQ KN KM N7 N8 O9 K7 H7 F7 p0 f0 z0 hs97
  obtain ⟨p0, f0, -⟩ := F9.out.rules
  have z0 := F9.out.1.lt
  go_wp2_with fail
  refine (bl_check H9.out 3 2).mono ?_
  rw [awb6.2]
  rintro e w10 ⟨rfl, k10⟩
  go_wp2_with fail
  go_ret
  exact ⟨rfl, K9.out.trans k10⟩
end Go.Proofs.Ytlmpkonfclnceaa
