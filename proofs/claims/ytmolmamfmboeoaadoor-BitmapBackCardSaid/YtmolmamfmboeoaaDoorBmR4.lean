/- Walks over the document's maps: Next, Rank, Select. -/
import Derived.Test.YtmolmamfmboeoaaDoorBmR3
namespace Go.Proofs.YtmolmamfmboeoaaDoor
open Go.RowKit

/-- Where a walk of the document's over a map's numbers stands. -/
def AtMap (w wr : World) (s : Int) (v : Value) : Prop := Blk wr w.heap.size #[.int .i64 s, v] 24 ∧ Same w wr
theorem AtMap.q0 {w wr : World} {s : Int} {v : Value} (h : AtMap w wr s v) : wr.cell? ⟨w.heap.size, 0, none⟩ = some (.int .i64 s) := h.1.cell 0 rfl
theorem AtMap.q1 {w wr : World} {s : Int} {v : Value} (h : AtMap w wr s v) : wr.cell? ⟨w.heap.size, 1, none⟩ = some v := h.1.cell 1 rfl
theorem AtMap.on {w wr w' : World} {s : Int} {v : Value} (h : AtMap w wr s v) (k : Same wr w') : AtMap w w' s v := ⟨h.1.kept k (fun h => h), h.2.trans k⟩
theorem AtMap.new (w : World) (s : Int) (v : Value) : AtMap w (w.alloc (.cells #[.int .i64 s, v] 24)) s v := ⟨Blk.new w _ _, (Kept.refl _ w).alloc _⟩

set_option maxHeartbeats 800000 in
theorem rb_next (s : Int) (a : Option Addr) (cap : Nat) (ws : List Nat) (f : Int) (on : Bool) (w : World) (hw : Words ws) (hat : NatsAt w .u64 a ws) :
    Calls Tryd.prog 21 #[mapV s a ws.length cap, .int .i64 f, .bool on] w fun e w' => ∃ r, e = .returned (foundV r) ∧ NextSpec s ws f on r ∧ Same w w' := by
  have HA := Lib.hid hat; clear hat
  obtain ⟨F, hF⟩ := Int.eq_ofNat_of_zero_le (show 0 ≤ max 0 f by omega)
  have hF' : max 0 f = (F : Int) := hF
  have HF : Hid (max 0 f = (F : Int)) := hF
  clear hF
  cases hm : mapOK s ws
  · have CC := Lib.hid fun w' h => rb_check4 s a cap ws w' hw hm h
    have R : Hid (NextSpec s ws f on none) := fun h => by rw [hm] at h; cases h
    clear hm hw
    generalize ws.length = l at *
    go_enter Tryd.func21, Tryd.ntmps21
    go_wp2_with fail
    go_loopw [8] (fun i wr => i = .int .i64 (F : Nat) ∧ Hid (AtMap w wr s (.slice a l cap))) (fun _ _ => 0)
    case atStart => exact ⟨rfl, AtMap.new _ _ _⟩
    case round =>
      obtain ⟨rfl, hs⟩ := hrel
      have q0 := hs.out.q0
      have q1 := hs.out.q1
      by_cases hlt : (F : Int) < s
      · go_wp2_with fail
        refine (CC.out wr (HA.out.same hs.out.2)).mono ?_
        rintro e w2 ⟨rfl, k2⟩
        have K := Lib.hid (hs.out.2.trans k2)
        clear k2
        go_wp2_with fail
        exact bodyPost_ret (v := foundV none) (by simp [results, Tryd.results21, go_sem]) rfl ⟨none, rfl, R.out, K.out⟩
      · go_wp2_with fail
        exact bodyPost_ret (v := foundV none) (by simp [results, Tryd.results21, go_sem]) rfl ⟨none, rfl, R.out, hs.out.2⟩
  · have CC := Lib.hid fun w' h => rb_check0 s a cap ws w' hw hm h
    have p1 := mapOK_pos hm
    obtain ⟨S, rfl⟩ := Int.eq_ofNat_of_zero_le p1.1
    have p2 := mapOK_len hm
    rw [Int.toNat_natCast] at p2
    have BB := Lib.hid fun (n : Nat) (hn : n < S) w' h => rb_bit S a cap ws n w' h (by omega) (by omega)
    have hS : S ≤ 4096 := by omega
    have HM := Lib.hid hm
    clear hm hw p1 p2
    generalize ws.length = l at *
    go_enter Tryd.func21, Tryd.ntmps21
    go_wp2_with fail
    go_loopw [8] (fun i wr => ∃ n : Nat, F ≤ n ∧ Hid (∀ j, F ≤ j → j < n → bitN ws j = !on) ∧ i = .int .i64 (n : Nat) ∧ Hid (AtMap w wr S (.slice a l cap))) (fun i _ => S - (intOf i).toNat)
    case atStart => exact ⟨F, Nat.le_refl _, fun j h1 h2 => by omega, rfl, AtMap.new _ _ _⟩
    case round =>
      obtain ⟨n, hn, hp, rfl, hs⟩ := hrel
      have q0 := hs.out.q0
      have q1 := hs.out.q1
      by_cases hlt : n < S
      · have hlt' : (n : Int) < (S : Int) := by omega
        go_wp2_with fail
        refine (CC.out wr (HA.out.same hs.out.2)).mono ?_
        rintro e w2 ⟨rfl, k2⟩
        have hs2 := Lib.hid (hs.out.on k2)
        clear k2 q0 q1
        have q0 := hs2.out.q0
        have q1 := hs2.out.q1
        obtain ⟨r, hr⟩ : ∃ r, bitN ws n = r := ⟨_, rfl⟩
        have BC := Lib.hid (BB.out n hlt w2 (HA.out.same hs2.out.2))
        rw [hr] at BC
        by_cases hon : r = on
        · subst hon
          have R : Hid (NextSpec S ws f r (some n)) := ⟨HM.out, by have := HF.out; omega, hlt', hr, fun j h1 h2 => hp.out j (by have := HF.out; omega) h2⟩
          clear hr
          go_wp2_with fail
          refine BC.out.mono ?_
          rintro e w3 ⟨rfl, k3⟩
          have K := Lib.hid (hs2.out.2.trans k3)
          clear k3
          have hbb : (r == r) = true := by simp
          go_wp2_with fail
          exact bodyPost_ret (v := foundV (some n)) (by simp [results, Tryd.results21, go_sem]) rfl ⟨some n, rfl, R.out, K.out⟩
        · have hb : Hid (bitN ws n = !on) := by show _ = _; rw [hr]; cases r <;> cases on <;> simp_all
          have hbb : (r == on) = false := by cases r <;> cases on <;> simp_all
          clear hr
          go_wp2_with fail
          refine BC.out.mono ?_
          rintro e w3 ⟨rfl, k3⟩
          have hs3 := Lib.hid (hs2.out.on k3)
          clear k3
          go_wp2_with fail
          go_roundw
          case rel =>
            refine ⟨n + 1, by omega, ?_, by go_num, hs3.out⟩
            show ∀ j, F ≤ j → j < n + 1 → bitN ws j = !on
            intro j h1 h2
            by_cases h : j < n
            · exact hp.out j h1 h
            · rw [show j = n from by omega]; exact hb.out
          case measure => simp [intOf]; omega
      · have hlt' : ¬ (n : Int) < (S : Int) := by omega
        have R : Hid (NextSpec S ws f on none) := fun _ j h1 h2 => hp.out j (by have := HF.out; omega) (by omega)
        go_wp2_with fail
        exact bodyPost_ret (v := foundV none) (by simp [results, Tryd.results21, go_sem]) rfl ⟨none, rfl, R.out, hs.out.2⟩

end Go.Proofs.YtmolmamfmboeoaaDoor
