/- Texts in sectors: room, group, Parts, may. -/
import Derived.Test.YtlmpkonfclnceaaGreatWsP
import Derived.Test.YtlmpkonfclnceaaGreatGSecB
import Derived.Test.YtlmpkonfclnceaaGreatEl
import Derived.Lib.MinMax
namespace Go.Proofs.YtlmpkonfclnceaaGreat
open Go.RowKit Go.Sort

def strE : Enc (List Nat) := ⟨1, fun xs => [.string (strN xs)], fun _ => rfl, by decide, fun x v hv => by simp at hv; subst hv; rfl⟩
abbrev TxtsAt (w : World) (a : Option Addr) (l : List (List Nat)) : Prop := ElsAt strE w a l
theorem strN_len (xs : List Nat) : (strN xs).size = xs.length := by
  unfold strN
  show (List.toArray _).size = _
  simp
/-- One text in memory. -/
theorem TxtsAt.at {w : World} {a : Option Addr} {l : List (List Nat)} (h : TxtsAt w a l) {i : Nat} (hi : i < l.length) :
    ∃ b off s, a = some ⟨b, off, none⟩ ∧ b < w.heap.size ∧ l[i]? = some s ∧ w.cell? ⟨b, off + i, none⟩ = some (.string (strN s)) := by
  obtain ⟨b, off, rfl, hb⟩ := h.there (fun e => by rw [e] at hi; simp at hi)
  have hx : l[i]? = some l[i] := List.getElem?_eq_getElem hi
  refine ⟨b, off, l[i], rfl, hb, hx, ?_⟩
  have := h.get hx 0 (u := .string (strN l[i])) rfl
  simpa [strE] using this
theorem TxtsAt.tail {w : World} {b off : Nat} {l : List (List Nat)} (h : TxtsAt w (some ⟨b, off, none⟩) l) (k : Nat) : TxtsAt w (some ⟨b, off + k, none⟩) (l.drop k) := by
  have := ElsAt.drop h k
  rw [show k * strE.n = k from Nat.mul_one k] at this
  exact this
theorem min_need (s : List Nat) : ∃ m : Nat, min (s.length : Int) 238 = (m : Int) ∧ need s = 1 + m ∧ m ≤ 238 := ⟨min s.length 238, by omega, rfl, by omega⟩
theorem ws_room (u : Nat) (hu : u ≤ 239) (s : List Nat) (w : World) :
    Calls Tryz.prog 86 #[.int .i64 (u : Nat), .string (strN s)] w fun e w' => e = .returned (.bool (decide (u + need s ≤ 239))) ∧ w' = w := by
  have hz := strN_len s
  obtain ⟨m, hm, e, hm8⟩ := min_need s
  rw [e]
  by_cases h2 : u + (1 + m) ≤ 239
  · rw [decide_eq_true h2]
    have g3 : (u : Int) + 1 + (m : Int) ≤ 239 := by omega
    go_enter Tryz.func86, Tryz.ntmps86
    go_wp2_with fail
    go_ret
    exact ⟨rfl, rfl⟩
  · rw [decide_eq_false h2]
    have g3 : ¬ (u : Int) + 1 + (m : Int) ≤ 239 := by omega
    go_enter Tryz.func86, Tryz.ntmps86
    go_wp2_with fail
    go_ret
    exact ⟨rfl, rfl⟩
theorem ws_may (e : Int) (w : World) :
    Calls Tryz.prog 71 #[.int .i64 e] w fun r w' => r = .returned (.bool (decide (1 ≤ e) && decide (e ≤ 1099511627776))) ∧ w' = w := by
  by_cases h1 : 1 ≤ e
  · rw [decide_eq_true h1]
    by_cases h2 : e ≤ 1099511627776
    · rw [decide_eq_true h2]
      go_enter Tryz.func71, Tryz.ntmps71
      go_wp2_with fail
      go_ret
      exact ⟨rfl, rfl⟩
    · rw [decide_eq_false h2]
      go_enter Tryz.func71, Tryz.ntmps71
      go_wp2_with fail
      go_ret
      exact ⟨rfl, rfl⟩
  · rw [decide_eq_false h1]
    go_enter Tryz.func71, Tryz.ntmps71
    go_wp2_with fail
    go_ret
    exact ⟨rfl, rfl⟩
set_option maxRecDepth 100000 in
set_option maxHeartbeats 800000 in
theorem ws_group (a : Option Addr) (n c : Nat) (l : List (List Nat)) (hn : n = l.length) (hl : l.length ≤ 1000000) (w : World) (hat : TxtsAt w a l) :
    Calls Tryz.prog 70 #[.slice a n c] w fun e w' => e = .returned (.int .i64 (grp 0 l : Nat)) ∧ w' = w := by
  subst hn
  go_enter Tryz.func70, Tryz.ntmps70
  go_wp2_with fail
  go_loop [3, 8] (fun x t => ∃ i u : Nat, t = .int .i64 i ∧ x = .int .i64 u ∧ i ≤ l.length ∧ u ≤ 239 ∧ grp 0 l = i + grp u (l.drop i)) (fun _ t => l.length - (intOf t).toNat)
  case atStart => exact ⟨0, 0, rfl, rfl, by omega, by omega, by simp⟩
  case round =>
    obtain ⟨i, u, rfl, rfl, hi, hu, hg⟩ := hrel
    by_cases hgo : i < l.length
    · obtain ⟨b, off, s, rfl, -, hs, hc⟩ := hat.at hgo
      have hd : l.drop i = s :: l.drop (i + 1) := by
        rw [List.drop_eq_getElem_cons hgo]
        congr 1
        rw [List.getElem?_eq_getElem hgo] at hs
        exact Option.some.inj hs
      have hz := strN_len s
      rw [hd] at hg
      simp only [grp] at hg
      have g1 : (i : Int) < (l.length : Int) := by omega
      have g0 : (0 : Int) ≤ (i : Int) := by omega
      by_cases h2 : u + need s ≤ 239
      · rw [if_pos h2] at hg
        have HG := Lib.hid hg
        have RM := Lib.hid (ws_room u hu s w)
        rw [decide_eq_true h2] at RM
        clear hg hd hs
        obtain ⟨m, hm, e, hm8⟩ := min_need s
        rw [e] at h2 HG
        clear e
        go_wp2_with fail
        refine RM.out.mono ?_
        rintro e w' ⟨rfl, rfl⟩
        go_wp2_with fail
        go_round
        case rel => exact ⟨i + 1, u + (1 + m), by go_num, by go_num, by omega, by omega, by rw [HG.out]; omega⟩
        case measure => simp [intOf]; omega
      · rw [if_neg h2] at hg
        have HG := Lib.hid hg
        have RM := Lib.hid (ws_room u hu s w)
        rw [decide_eq_false h2] at RM
        clear hg hd hs
        go_wp2_with fail
        refine RM.out.mono ?_
        rintro e w' ⟨rfl, rfl⟩
        go_wp2_with fail
        go_ret
        exact ⟨by rw [HG.out]; rfl, rfl⟩
    · have e : i = l.length := by omega
      have HG := Lib.hid hg
      clear hg
      go_wp2_with fail
      go_ret
      exact ⟨by rw [HG.out, e, List.drop_length]; rfl, rfl⟩
def lenV : Value → Nat
  | .slice _ n _ => n
  | _ => 0
theorem lenV_slice (a : Option Addr) (n c : Nat) : lenV (.slice a n c) = n := rfl
/-- The texts behind the first k, as a slice. -/
theorem txts_cut {w : World} {b off n c : Nat} {l : List (List Nat)} (h : TxtsAt w (some ⟨b, off, none⟩) l) (hn : n = l.length) (hc : n ≤ c) (k : Nat) (_hk : k ≤ n) :
    TxtsAt w (if c = k then some ⟨b, off, none⟩ else some ⟨b, off + k, none⟩) (l.drop k) := by
  by_cases q : c = k
  · rw [List.drop_eq_nil_of_le (by omega)]; exact .inl rfl
  · rw [if_neg q]; exact h.tail k
set_option maxRecDepth 100000 in
set_option maxHeartbeats 800000 in
theorem ws_parts (a : Option Addr) (n c : Nat) (l : List (List Nat)) (hn : n = l.length) (hc : n ≤ c) (hl : l.length ≤ 1000000) (w : World) (hat : TxtsAt w a l) :
    Calls Tryz.prog 45 #[.slice a n c] w fun e w' => e = .returned (.int .i64 (prt l : Nat)) ∧ w' = w := by
  have HAT := Lib.hid hat
  have HN := Lib.hid hn
  have hp := prt_le l
  clear hat hn
  go_enter Tryz.func45, Tryz.ntmps45
  go_wp2_with fail
  go_loop [0, 3] (fun sv t => ∃ (a' : Option Addr) (n' c' j : Nat) (l' : List (List Nat)), sv = .slice a' n' c' ∧ t = .int .i64 j ∧ n' = l'.length ∧ n' ≤ c' ∧ l'.length ≤ l.length ∧ TxtsAt w a' l' ∧ prt l = j + prt l') (fun sv _ => lenV sv)
  case atStart => exact ⟨a, n, c, 0, l, rfl, rfl, HN.out, hc, Nat.le_refl _, HAT.out, by omega⟩
  case round =>
    obtain ⟨a', n', c', j, l', rfl, rfl, hn', hc', hll, hat', hp'⟩ := hrel
    have AT := Lib.hid hat'
    have HP := Lib.hid hp'
    have HLL := Lib.hid hll
    have HN' := Lib.hid hn'
    clear hat' hp'
    by_cases hz : 0 < n'
    · have g1 : (0 : Int) < (n' : Int) := by omega
      have hne : l' ≠ [] := by intro q; rw [q] at hn'; simp at hn'; omega
      have GR := Lib.hid (ws_group a' n' c' l' hn' (by omega) w AT.out)
      have hk := grp_le 0 l'
      have hk0 := (gs_cons l' hne).2
      have hpc := prt_cons l' hne
      obtain ⟨b, off, rfl, -⟩ := AT.out.there hne
      have hj : j + 1 ≤ 1000000 := by have := HP.out; omega
      obtain ⟨k, hkk⟩ : ∃ k, grp 0 l' = k := ⟨_, rfl⟩
      rw [hkk] at GR hk hk0 hpc
      have CUT := Lib.hid (txts_cut AT.out hn' hc' k (by omega))
      have HPC := Lib.hid hpc
      have g2 : (k : Int) ≤ (n' : Int) := by omega
      have g3 : (0 : Int) ≤ (k : Int) := by omega
      have HK : Hid (k ≤ l'.length) := hk
      have hdl : (l'.drop k).length = n' - k := by rw [List.length_drop, hn']
      have HDL := Lib.hid hdl
      clear hkk hpc hk hne hdl hn' hll
      by_cases hck : c' = k
      · rw [if_pos hck] at CUT
        subst hck
        go_wp2_with fail
        with_reducible refine GR.out.mono ?_
        rintro e w' ⟨rfl, rfl⟩
        go_wp2_with fail
        go_round
        case rel => exact ⟨_, _, _, j + 1, l'.drop _, rfl, by go_num, (by have := HDL.out; omega), by omega, by rw [HDL.out]; have := HK.out; have := HLL.out; have := HN'.out; omega, CUT.out, by rw [HP.out, HPC.out]; omega⟩
        case measure => simp only [lenV_slice]; omega
      · rw [if_neg hck] at CUT
        go_wp2_with fail
        with_reducible refine GR.out.mono ?_
        rintro e w' ⟨rfl, rfl⟩
        go_wp2_with fail
        go_round
        case rel => exact ⟨_, _, _, j + 1, l'.drop _, rfl, by go_num, (by have := HDL.out; omega), by omega, by rw [HDL.out]; have := HK.out; have := HLL.out; have := HN'.out; omega, CUT.out, by rw [HP.out, HPC.out]; omega⟩
        case measure => simp only [lenV_slice]; omega
    · have e : l' = [] := List.eq_nil_of_length_eq_zero (by omega)
      have g1 : ¬ (0 : Int) < (n' : Int) := by omega
      have HP2 : Hid (prt l = j) := by show _ = _; rw [HP.out, e]; rfl
      clear hn' e
      go_wp2_with fail
      go_ret
      exact ⟨by rw [HP2.out]; rfl, rfl⟩
end Go.Proofs.YtlmpkonfclnceaaGreat
