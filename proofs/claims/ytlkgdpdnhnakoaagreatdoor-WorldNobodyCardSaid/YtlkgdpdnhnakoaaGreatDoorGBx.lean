/- GBx: BmSet, Bm3. -/
import Derived.Test.YtlkgdpdnhnakoaaGreatDoorBmBits
import Derived.Test.YtlkgdpdnhnakoaaGreatDoorGBmA
import Derived.Test.YtlkgdpdnhnakoaaGreatDoorShelf
namespace Go.Proofs.YtlkgdpdnhnakoaaGreatDoor
open Go.RowKit
/-- A bit turned on or off. -/
def putBit (x k : Nat) (on : Bool) : Nat := if x.testBit k = on then x else x ^^^ 2 ^ k
theorem putBit_test (x k : Nat) (on : Bool) (j : Nat) : (putBit x k on).testBit j = if j = k then on else x.testBit j := by
  unfold putBit
  by_cases hj : j = k
  · subst hj
    rw [if_pos rfl]
    split
    · assumption
    · rename_i h
      rw [Nat.testBit_xor, Nat.testBit_two_pow_self]
      cases on <;> cases hx : x.testBit j <;> simp_all
  · rw [if_neg hj]
    split
    · rfl
    · rw [Nat.testBit_xor, Nat.testBit_two_pow_of_ne (by omega)]; simp
theorem putBit_or (x k : Nat) : x ||| 2 ^ k = putBit x k true := by
  apply Nat.eq_of_testBit_eq
  intro j
  rw [putBit_test, Nat.testBit_or]
  by_cases hj : j = k
  · subst hj; rw [Nat.testBit_two_pow_self]; simp
  · rw [Nat.testBit_two_pow_of_ne (by omega)]; simp [hj]
theorem putBit_lt (x k : Nat) (on : Bool) (hk : k < 64) (hx : x < 18446744073709551616) : putBit x k on < 18446744073709551616 := by
  unfold putBit
  split
  · exact hx
  · have h1 : x < 2 ^ 64 := by simpa using hx
    have h2 : 2 ^ k < 2 ^ 64 := Nat.pow_lt_pow_right (by decide) hk
    have := Nat.xor_lt_two_pow h1 h2
    simpa using this
theorem putBit_andNot (x k : Nat) (hk : k < 64) (hx : x < 18446744073709551616) : x &&& (18446744073709551615 - 2 ^ k) = putBit x k false := by
  have h64 : (18446744073709551615 : Nat) = 2 ^ 64 - 1 := by decide
  apply Nat.eq_of_testBit_eq
  intro j
  rw [putBit_test, Nat.testBit_and]
  rcases Nat.lt_or_ge j 64 with h | h
  · have e : (18446744073709551615 - 2 ^ k).testBit j = !(2 ^ k).testBit j := by
      have hlt : 2 ^ k < 2 ^ 64 := Nat.pow_lt_pow_right (by decide) hk
      rw [h64, Nat.sub_sub, Nat.add_comm 1, Nat.testBit_two_pow_sub_succ hlt]
      simp [h]
    rw [e]
    by_cases hj : j = k
    · subst hj; rw [Nat.testBit_two_pow_self]; simp
    · rw [Nat.testBit_two_pow_of_ne (by omega)]; simp [hj]
  · have e : x.testBit j = false := Nat.testBit_lt_two_pow (Nat.lt_of_lt_of_le (show x < 2 ^ 64 from by simpa using hx) (Nat.pow_le_pow_right (by decide) h))
    rw [e]
    simp
/-- The words with a number put in or taken out. -/
def putN (ws : List Nat) (n : Nat) (on : Bool) : List Nat := ws.set (n / 64) (putBit (ws.getD (n / 64) 0) (n % 64) on)
theorem putN_length (ws : List Nat) (n : Nat) (on : Bool) : (putN ws n on).length = ws.length := by simp [putN]
theorem putN_words {ws : List Nat} (h : Words ws) (n : Nat) (on : Bool) : Words (putN ws n on) := by
  intro x hx
  unfold putN at hx
  rcases List.mem_or_eq_of_mem_set hx with h1 | h1
  · exact h x h1
  · rw [h1]; exact putBit_lt _ _ _ (Nat.mod_lt _ (by decide)) (getD_word h _)
theorem putN_bit (ws : List Nat) (n : Nat) (on : Bool) (hn : n / 64 < ws.length) (j : Nat) : bitN (putN ws n on) j = if j = n then on else bitN ws j := by
  unfold bitN putN
  by_cases h1 : j / 64 = n / 64
  · rw [h1, List.getD_eq_getElem?_getD, List.getElem?_set_self hn]
    simp only [Option.getD_some, putBit_test]
    by_cases h2 : j = n
    · subst h2; simp
    · rw [if_neg (by omega), if_neg h2]
  · rw [List.getD_eq_getElem?_getD, List.getElem?_set_ne (by omega), ← List.getD_eq_getElem?_getD, if_neg (by rintro rfl; exact h1 rfl)]
end Go.Proofs.YtlkgdpdnhnakoaaGreatDoor
namespace Go.Proofs.YtlkgdpdnhnakoaaGreatDoor
open Go.RowKit
set_option maxRecDepth 100000 in
theorem bm_clone (b off cap : Nat) (ws : List Nat) (w : World) (hat : NatsAt w .u64 (some ⟨b, off, none⟩) ws) (hl : ws.length ≤ 4096) :
    Calls Tryz.prog 224 #[.slice (some ⟨b, off, none⟩) ws.length cap] w fun e w' => ∃ g c, e = .returned (.slice (some ⟨g, 0, none⟩) ws.length c) ∧
      OwnN w' w.heap.size 251 .u64 (.slice (some ⟨g, 0, none⟩) ws.length c) ws ∧ Same w w' := by
  obtain ⟨i0, hi, hz0, hz1, hz2⟩ := info_parts info64
  refine (Tryz.slices_Clone i0 (.int .u64 0) 1 8 hi hz0 hz1 hz2 rfl (by decide) (fun w => by kernel_rfl) b off ws.length cap (ws.map fun x => Value.int .u64 ((x : Nat) : Int)) w (by simp) (by unfold maxLen; omega) (by omega) ?_ ?_).mono ?_
  · intro j u hu
    rw [List.getElem?_map] at hu
    obtain ⟨x, hx, rfl⟩ := Option.map_eq_some_iff.1 hu
    rcases hat with rfl | ⟨b', off', e, hb, hc⟩
    · simp at hx
    · simp only [Option.some.injEq, Addr.mk.injEq, and_true] at e
      obtain ⟨rfl, rfl⟩ := e
      exact hc j x hx
  · intro u hu
    obtain ⟨x, _, rfl⟩ := List.mem_map.1 hu
    rfl
  · rintro e w' ⟨v', rfl, ho, hn, hb⟩
    rcases ho.2 with ⟨h, _⟩ | ⟨g, c, cur, rfl, _⟩
    · exact absurd h hn
    · exact ⟨g, c, rfl, ho, Kept.of_below hb⟩
theorem or_bit (x k : Nat) (hx : x < 18446744073709551616) (hk : k < 64) : bits .or .u64 (x : Int) (((2 ^ k : Nat)) : Int) = ((putBit x k true : Nat) : Int) := by
  rw [u64_or_nat x (2 ^ k) hx (by have : 2 ^ k < 2 ^ 64 := Nat.pow_lt_pow_right (by decide) hk; simpa using this), putBit_or]
theorem andNot_bit (x k : Nat) (hx : x < 18446744073709551616) (hk : k < 64) : bits .andNot .u64 (x : Int) (((2 ^ k : Nat)) : Int) = ((putBit x k false : Nat) : Int) := by
  rw [u64_andNot_nat x (2 ^ k) hx (by have : 2 ^ k < 2 ^ 64 := Nat.pow_lt_pow_right (by decide) hk; simpa using this), putBit_andNot x k hk hx]
theorem wrap_bit (k : Nat) (hk : k < 64) : IntKind.u64.wrap (2 ^ k) = ((2 ^ k : Nat) : Int) := by
  have h : 2 ^ k < 2 ^ 64 := Nat.pow_lt_pow_right (by decide) hk
  have e : ((2 ^ k : Nat) : Int) = (2 : Int) ^ k := Int.natCast_pow 2 k
  rw [← e]
  generalize 2 ^ k = y at h
  exact u64_wrap _ (by omega) (by omega)
/-- The words that Set leaves. -/
def setN (s : Int) (ws : List Nat) (n : Int) (on : Bool) : List Nat := if inB s ws n then putN ws n.toNat on else ws
set_option maxRecDepth 100000 in
set_option maxHeartbeats 1600000 in
theorem bm_set (s : Int) (b off cap : Nat) (ws : List Nat) (n : Int) (on : Bool) (w : World) (hw : Words ws) (hl : ws.length ≤ 4096) (hat : NatsAt w .u64 (some ⟨b, off, none⟩) ws) :
    Calls Tryz.prog 134 #[mapV s (some ⟨b, off, none⟩) ws.length cap, .int .i64 n, .bool on] w fun e w' => ∃ g c, e = .returned (mapV s (some ⟨g, 0, none⟩) ws.length c) ∧
      OwnN w' w.heap.size 251 .u64 (.slice (some ⟨g, 0, none⟩) ws.length c) (setN s ws n on) ∧ Same w w' := by
  have CL := Lib.hid fun w' (h : NatsAt w' .u64 (some ⟨b, off, none⟩) ws) => bm_clone b off cap ws w' h hl
  have IN := Lib.hid fun a cap w' (h : NatsAt w' .u64 a ws) => bm_in s a cap ws n w' h
  have HA := Lib.hid hat; clear hat
  have hnot : ∀ (x : Bool) (w : World), (Op.unary .not (.bool x)).run Tryz.prog w = .ok (.bool (!x)) w := fun _ _ => rfl
  go_enter Tryz.func134, Tryz.ntmps134
  go_wp2_with fail
  refine Calls.boxes2 ?_
  intro W g1 g2 k1 hz
  refine (CL.out W (HA.out.same k1)).mono ?_
  rintro e w2 ⟨g, c, rfl, ho, k2⟩
  have hg := ho.lt
  rw [hz] at hg ho
  have G1 := g1.kept k2 (fun h => h)
  have G2 := Lib.hid (g2.kept k2 (fun h => h))
  have K := Lib.hid (k1.trans k2)
  have q0 : w2.cell? ⟨w.heap.size, 0, none⟩ = some (.int .i64 s) := G1.cell 0 rfl
  have q1 : w2.cell? ⟨w.heap.size, 1, none⟩ = some (.slice (some ⟨b, off, none⟩) ws.length cap) := G1.cell 1 rfl
  have f0 : ∀ i, w2.frozen? ⟨w.heap.size, i, none⟩ = false := G1.free
  have GG1 := Lib.hid G1
  have HO := Lib.hid ho
  clear g1 g2 k1 k2 G1 hz ho
  go_wp2_with fail
  have k3 := (Kept.refl (fun k => k = w.heap.size) w2).setG 1 (.slice (some ⟨g, 0, none⟩) ws.length c)
  have G1 := Lib.hid (GG1.out.set 1 (.slice (some ⟨g, 0, none⟩) ws.length c))
  have G2 := Lib.hid (G2.out.kept k3 (by omega))
  have HO := Lib.hid (HO.out.kept k3 (fun j hj => by simp [Value.ownBlock] at hj; omega))
  have K := Lib.hid (K.out.setNew (p := ⟨w.heap.size, 1, none⟩) (Nat.le_refl _) (.slice (some ⟨g, 0, none⟩) ws.length c))
  clear k3 q0 q1 f0 GG1
  generalize w2.setCell ⟨w.heap.size, 1, none⟩ (.slice (some ⟨g, 0, none⟩) ws.length c) = w3 at *
  have C := Lib.hid (IN.out (some ⟨g, 0, none⟩) c w3 HO.out.nats)
  cases hin : inB s ws n
  · have CC := Lib.hid (C.out.mono (R' := fun e w'' => e = .returned (.bool false) ∧ Same w3 w'') fun _ _ h => by rw [hin] at h; exact h)
    have HE : Hid (setN s ws n on = ws) := by show _ = _; simp [setN, hin]
    clear hin C IN CL HA hl hw
    generalize hgl : ws.length = l at *
    have HL := Lib.hid hgl; clear hgl
    refine CC.out.mono ?_
    rintro e w4 ⟨rfl, k4⟩
    have G1 := G1.out.kept k4 (fun h => h)
    have G2 := Lib.hid (G2.out.kept k4 (fun h => h))
    have HO := Lib.hid (HO.out.same k4)
    have K := Lib.hid (K.out.trans k4)
    have q0 : w4.cell? ⟨w.heap.size, 0, none⟩ = some (.int .i64 s) := G1.cell 0 rfl
    have q1 : w4.cell? ⟨w.heap.size, 1, none⟩ = some (.slice (some ⟨g, 0, none⟩) l c) := G1.cell 1 rfl
    have q2 : w4.cell? ⟨w.heap.size + 1, 0, none⟩ = some (.int .i64 0) := G2.out.cell 0 rfl
    have q3 : w4.cell? ⟨w.heap.size + 1, 1, none⟩ = some (.slice none 0 0) := G2.out.cell 1 rfl
    have f2 : ∀ i, w4.frozen? ⟨w.heap.size + 1, i, none⟩ = false := G2.out.free
    clear k4 G1
    go_wp2_with fail
    have p := (G2.out.set 0 (.int .i64 s)).set 1 (.slice (some ⟨g, 0, none⟩) l c)
    have p0 := p.cell 0 (v := .int .i64 s) rfl
    have p1 := p.cell 1 (v := .slice (some ⟨g, 0, none⟩) l c) rfl
    refine bodyPost_ret (v := mapV s (some ⟨g, 0, none⟩) l c) (by simp [results, Tryz.results134, go_sem, p0, p1]) rfl ?_
    rw [HE.out, HL.out]
    refine ⟨g, c, rfl, ?_, (K.out.setNew (by simp) _).setNew (by simp) _⟩
    exact (HO.out.base (by omega)).kept (((Kept.refl (fun k => k = w.heap.size + 1) _).setG 0 _).setG 1 _) (fun j hj => by simp [Value.ownBlock] at hj; omega)
  · have CC := Lib.hid (C.out.mono (R' := fun e w'' => e = .returned (.bool true) ∧ Same w3 w'') fun _ _ h => by rw [hin] at h; exact h)
    have HE : Hid (setN s ws n on = putN ws n.toNat on) := by show _ = _; simp [setN, hin]
    obtain ⟨i0, i1, i2, i3, i4⟩ := inB_index hin
    have hx : ws[n.toNat / 64]? = some (ws.getD (n.toNat / 64) 0) := by rw [List.getD, List.getElem?_eq_getElem i3]; rfl
    have hx64 := getD_word hw (n.toNat / 64)
    obtain ⟨N, rfl⟩ := Int.eq_ofNat_of_zero_le i0
    simp only [Int.toNat_natCast] at *
    generalize hgx : ws.getD (N / 64) 0 = x at *
    have HX := Lib.hid hx; have HX64 := Lib.hid hx64; have HGX := Lib.hid hgx
    clear hin C IN CL HA hl hw hx hx64 hgx
    have HN := Lib.hid (show ws.length = ws.length from rfl)
    generalize hgl : ws.length = l at *
    have HL := Lib.hid hgl; clear hgl
    refine CC.out.mono ?_
    rintro e w4 ⟨rfl, k4⟩
    have G1 := Lib.hid (G1.out.kept k4 (fun h => h))
    have G2 := Lib.hid (G2.out.kept k4 (fun h => h))
    have HO := Lib.hid (HO.out.same k4)
    have K := Lib.hid (K.out.trans k4)
    have q0 : w4.cell? ⟨w.heap.size, 0, none⟩ = some (.int .i64 s) := G1.out.cell 0 rfl
    have q1 : w4.cell? ⟨w.heap.size, 1, none⟩ = some (.slice (some ⟨g, 0, none⟩) l c) := G1.out.cell 1 rfl
    have q2 : w4.cell? ⟨w.heap.size + 1, 0, none⟩ = some (.int .i64 0) := G2.out.cell 0 rfl
    have q3 : w4.cell? ⟨w.heap.size + 1, 1, none⟩ = some (.slice none 0 0) := G2.out.cell 1 rfl
    have f2 : ∀ i, w4.frozen? ⟨w.heap.size + 1, i, none⟩ = false := G2.out.free
    have q4 : w4.cell? ⟨g, N / 64, none⟩ = some (.int .u64 (x : Nat)) := HO.out.cell HL.out HX.out
    have f4 := HO.out.free HL.out (N / 64)
    clear k4
    cases on
    · go_wp2_with fail
      have e2 : bits .andNot .u64 (x : Int) (IntKind.u64.wrap (2 ^ (N % 64))) = ((putBit x (N % 64) false : Nat) : Int) := by
        rw [wrap_bit (N % 64) (Nat.mod_lt _ (by decide))]
        exact andNot_bit x (N % 64) HX64.out (Nat.mod_lt _ (by decide))
      rw [e2]
      have p := ((G2.out.other (p := ⟨g, N / 64, none⟩) (by show _ ≠ g; omega) (.int .u64 ((putBit x (N % 64) false : Nat) : Int))).set 0 (.int .i64 s)).set 1 (.slice (some ⟨g, 0, none⟩) l c)
      have p0 := p.cell 0 (v := .int .i64 s) rfl
      have p1 := p.cell 1 (v := .slice (some ⟨g, 0, none⟩) l c) rfl
      refine bodyPost_ret (v := mapV s (some ⟨g, 0, none⟩) l c) (by simp [results, Tryz.results134, go_sem, p0, p1]) rfl ?_
      rw [HE.out, HL.out]
      refine ⟨g, c, rfl, ?_, ((K.out.setNew (p := ⟨g, N / 64, none⟩) (by show _ ≤ g; omega) _).setNew (by simp) _).setNew (by simp) _⟩
      have ho := HO.out.set HL.out (N / 64) (putBit x (N % 64) false)
      rw [show ws.set (N / 64) (putBit x (N % 64) false) = putN ws N false from by unfold putN; rw [HGX.out]] at ho
      exact (ho.base (by omega)).kept (((Kept.refl (fun k => k = w.heap.size + 1) _).setG 0 _).setG 1 _) (fun j hj => by simp [Value.ownBlock] at hj; omega)
    · go_wp2_with fail
      have e2 : bits .or .u64 (x : Int) (IntKind.u64.wrap (2 ^ (N % 64))) = ((putBit x (N % 64) true : Nat) : Int) := by
        rw [wrap_bit (N % 64) (Nat.mod_lt _ (by decide))]
        exact or_bit x (N % 64) HX64.out (Nat.mod_lt _ (by decide))
      rw [e2]
      have p := ((G2.out.other (p := ⟨g, N / 64, none⟩) (by show _ ≠ g; omega) (.int .u64 ((putBit x (N % 64) true : Nat) : Int))).set 0 (.int .i64 s)).set 1 (.slice (some ⟨g, 0, none⟩) l c)
      have p0 := p.cell 0 (v := .int .i64 s) rfl
      have p1 := p.cell 1 (v := .slice (some ⟨g, 0, none⟩) l c) rfl
      refine bodyPost_ret (v := mapV s (some ⟨g, 0, none⟩) l c) (by simp [results, Tryz.results134, go_sem, p0, p1]) rfl ?_
      rw [HE.out, HL.out]
      refine ⟨g, c, rfl, ?_, ((K.out.setNew (p := ⟨g, N / 64, none⟩) (by show _ ≤ g; omega) _).setNew (by simp) _).setNew (by simp) _⟩
      have ho := HO.out.set HL.out (N / 64) (putBit x (N % 64) true)
      rw [show ws.set (N / 64) (putBit x (N % 64) true) = putN ws N true from by unfold putN; rw [HGX.out]] at ho
      exact (ho.base (by omega)).kept (((Kept.refl (fun k => k = w.heap.size + 1) _).setG 0 _).setG 1 _) (fun j hj => by simp [Value.ownBlock] at hj; omega)
end Go.Proofs.YtlkgdpdnhnakoaaGreatDoor
