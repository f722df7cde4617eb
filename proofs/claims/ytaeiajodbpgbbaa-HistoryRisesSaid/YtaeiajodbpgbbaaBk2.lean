/- A log, gone through from its end. -/
import Derived.Test.YtaeiajodbpgbbaaBk1
import Derived.RangeFuncNested
import Derived.RangeFuncBound
import Derived.RangeFuncCalls
import Derived.RangeFuncLeaves
import Derived.Shelf.Abstract
import Derived.Shelf.RegionOpen
import Derived.OwnWalkIn
import Derived.TacticsInMore
import Derived.LoopNIn
import Derived.LoopIn
namespace Go.Proofs.Ytaeiajodbpgbbaa
open Go.RowKit Go.Sort Go.Shelf
attribute [local go_sem] Oper.semAt_some

theorem bw_make (a : Option Addr) (n c : Nat) (w : World) :
    Calls Try.prog 47 #[.slice a n c] w fun e w' => e = .returned (.func (.func 59) #[] #[.pointer (some ⟨w.heap.size, 0, none⟩)]) ∧ w' = w.alloc (.cells #[.slice a n c] 71) := by
  go_enter Try.func47, Try.ntmps47
  go_wp2
  go_ret
  exact ⟨rfl, rfl⟩
/-- All places, from the last one on. -/
def revF (n : Nat) : List (Fin n) := (List.finRange n).reverse
theorem revF_len (n : Nat) : (revF n).length = n := by simp [revF]
theorem revF_get {n j : Nat} (h : j < n) : (revF n)[n - (j + 1)]? = some ⟨j, h⟩ := by
  unfold revF
  rw [List.getElem?_reverse (by simp; omega)]
  simp
  rw [show n - 1 - (n - (j + 1)) = j from by omega]
  simp [h]
theorem revF_take {n j : Nat} (h : j < n) : (revF n).take (n - j) = (revF n).take (n - (j + 1)) ++ [⟨j, h⟩] := by
  rw [show n - j = n - (j + 1) + 1 from by omega, List.take_add_one, revF_get h]
  rfl
/-- What the iterator hands on. -/
def encX (L : List HEl) (x : Fin L.length) : Array Value := #[.int .i64 ((x.1 : Nat) : Int), .agg #[.int .i64 (L.get x).t, .slice (L.get x).a (L.get x).n (L.get x).c]]
set_option maxRecDepth 100000 in
set_option maxHeartbeats 1000000 in
theorem bw_in (n : Nat) (hn : 1 ≤ n) (l Bs n0 b off cap : Nat) (L : List HEl) (hl : L.length ≤ 1000) (hb : b < n0) (hBn : Bs < n0) (J Jx : List (Fin L.length) → World → Prop)
    (hY : ∀ pre x W, J pre W → pre.length < L.length → YieldAt Fence.wide (n - 1) Try.prog l (encX L x) W fun e W' =>
      (e = .returned (.bool true) ∧ J (pre ++ [x]) W' ∧ Below n0 W W') ∨ (e = .returned (.bool false) ∧ Jx (pre ++ [x]) W'))
    (W : World) (hBs : W.cell? ⟨Bs, 0, none⟩ = some (.slice (some ⟨b, off, none⟩) L.length cap)) (hat : ElsAt lgE W (some ⟨b, off, none⟩) L) (h0 : J [] W) :
    CallsIn Fence.wide n Try.prog 59 #[.func (.yield l) #[] #[], .pointer (some ⟨Bs, 0, none⟩)] W fun e W' => (∃ v, e = .returned v) ∧
      ((∃ ys, ys = revF L.length ∧ J ys W') ∨ (∃ pre, pre <+: revF L.length ∧ Jx pre W')) := by
  have HAT := Lib.hid (show ∀ W', Below n0 W W' → ∀ j (h : j < L.length), W'.cell? ⟨b, off + j * 2, none⟩ = some (.int .i64 (L.get ⟨j, h⟩).t) ∧ W'.cell? ⟨b, off + j * 2 + 1, none⟩ = some (.slice (L.get ⟨j, h⟩).a (L.get ⟨j, h⟩).n (L.get ⟨j, h⟩).c) from fun W' hk j h => by
    have hx : L[j]? = some (L.get ⟨j, h⟩) := by rw [List.getElem?_eq_getElem h]; rfl
    have c0 := hat.get hx 0 (u := .int .i64 (L.get ⟨j, h⟩).t) rfl
    have c1 := hat.get hx 1 (u := .slice (L.get ⟨j, h⟩).a (L.get ⟨j, h⟩).n (L.get ⟨j, h⟩).c) rfl
    exact ⟨(hk.cell (p := ⟨b, off + j * 2, none⟩) hb).trans c0, (hk.cell (p := ⟨b, off + j * 2 + 1, none⟩) hb).trans c1⟩)
  have HBS := Lib.hid (show ∀ W', Below n0 W W' → W'.cell? ⟨Bs, 0, none⟩ = some (.slice (some ⟨b, off, none⟩) L.length cap) from fun W' hk => (hk.cell (p := ⟨Bs, 0, none⟩) hBn).trans hBs)
  have HY := Lib.hid hY
  have H0 := Lib.hid h0
  clear hat hY h0
  refine callsIn_of_wp Try.func59 rfl trivial ?_ rfl
  simp only [Try.ntmps59, List.size_toArray, List.length_cons, List.length_nil, Nat.reduceAdd, Nat.reduceSub, Array.replicate_succ, Array.replicate_zero, List.push_toArray, List.append_toArray, List.nil_append, List.cons_append]
  have g4 : IntKind.i64.wrap ((L.length : Int) - 1) = (L.length : Int) - 1 := by rw [IntKind.wrap_i64]; omega
  gi_wp2
  gi_loopw [3] (fun i wr => ∃ (j : Nat) (z : Int), i = .int .i64 z ∧ z = (j : Int) - 1 ∧ j ≤ L.length ∧ J ((revF L.length).take (L.length - j)) wr ∧ Below n0 W wr)
    (fun i _ => (intOf i + 1).toNat)
  case atStart => exact ⟨L.length, _, rfl, rfl, Nat.le_refl _, by simpa using H0.out, Below.refl _ _⟩
  case round =>
    obtain ⟨j, z, rfl, hz, hj, hJs, hk⟩ := hrel
    rcases j with _ | j
    · have gz : ¬ (0 : Int) ≤ z := by omega
      clear hz
      have HJ := Lib.hid (show J (revF L.length) wr from by simpa [List.take_of_length_le, revF_len] using hJs)
      gi_wp2
      go_end0
      exact ⟨⟨_, rfl⟩, .inl HJ.out⟩
    · obtain rfl : z = (j : Int) := by omega
      have hjl : j < L.length := hj
      obtain ⟨c0, c1⟩ := HAT.out wr hk j hjl
      have cB := HBS.out wr hk
      have TK := Lib.hid (revF_take hjl)
      obtain ⟨fn, tmps, assign, body, hy, hR⟩ := HY.out _ ⟨j, hjl⟩ wr hJs (by rw [List.length_take, revF_len]; omega)
      unfold encX at hy
      dsimp only at hy
      generalize L.get ⟨j, hjl⟩ = x at *
      have K := Lib.hid hk
      have g1 : (j : Int) < (L.length : Int) := by omega
      have g0 : (0 : Int) ≤ (j : Int) := by omega
      have g5 : IntKind.i64.wrap ((j : Int) - 1) = (j : Int) - 1 := by rw [IntKind.wrap_i64]; omega
      clear hk hJs hz
      gi_wp2
      refine hR.mono ?_
      rintro e W3 (⟨rfl, hJ3, hk3⟩ | ⟨rfl, hJx3⟩)
      · rw [← TK.out] at hJ3
        gi_wp2
        go_roundw
        case rel => exact ⟨j, _, rfl, rfl, by omega, hJ3, K.out.trans hk3⟩
        case measure => simp [intOf]
      · rw [← TK.out] at hJx3
        gi_wp2
        refine bodyPost_ret (results_none rfl _ _ _) rfl ?_
        exact ⟨⟨_, rfl⟩, .inr ⟨_, List.take_prefix _ _, hJx3⟩⟩
theorem bw_nil (n : Nat) (l Bs : Nat) (J : List (Fin 0) → World → Prop) (W : World) (c : Nat) (hBs : W.cell? ⟨Bs, 0, none⟩ = some (.slice none 0 c)) (h0 : J [] W) :
    CallsIn Fence.wide n Try.prog 59 #[.func (.yield l) #[] #[], .pointer (some ⟨Bs, 0, none⟩)] W fun e W' => (∃ v, e = .returned v) ∧ J [] W' := by
  have H0 := Lib.hid h0
  clear h0
  refine callsIn_of_wp Try.func59 rfl trivial ?_ rfl
  simp only [Try.ntmps59, List.size_toArray, List.length_cons, List.length_nil, Nat.reduceAdd, Nat.reduceSub, Array.replicate_succ, Array.replicate_zero, List.push_toArray, List.append_toArray, List.nil_append, List.cons_append]
  gi_wp2
  gi_loopw [3] (fun i wr => ∃ z : Int, i = .int .i64 z ∧ z = -1 ∧ J [] wr) (fun _ _ => 0)
  case atStart => exact ⟨_, rfl, rfl, H0.out⟩
  case round =>
    obtain ⟨z, rfl, hz, hJs⟩ := hrel
    have gz : ¬ (0 : Int) ≤ z := by omega
    clear hz
    gi_wp2
    go_end0
    exact ⟨⟨_, rfl⟩, hJs⟩
theorem bw_stops (n : Nat) (hn : 1 ≤ n) (Bs n0 : Nat) (v : Value) (L : List HEl) (hl : L.length ≤ 1000) (w : World) (hBn : Bs < n0) (hn0 : n0 ≤ w.heap.size) (base : Nat) (ho : OwnE lgE w base 92 v L) (hv : ∀ g, v.ownBlock = some g → g < n0) (hBs : w.cell? ⟨Bs, 0, none⟩ = some v) :
    SeqStopsK Fence.wide n Try.prog 59 #[.pointer (some ⟨Bs, 0, none⟩)] (encX L) (Below n0) (fun ys => ys = revF L.length) (fun pre => pre <+: revF L.length) L.length w := fun l J Jx W hW _ _ hY h0 => by
  have hB := (hW.cell (p := ⟨Bs, 0, none⟩) (Nat.lt_of_lt_of_le hBn hn0)).trans hBs
  have hs : Same w W := Kept.of_below hW
  have hoW := ho.same hs
  rcases hoW.2 with ⟨rfl, h0'⟩ | ⟨g, cap, cur, rfl, h1, h2, h3, h4, h5, h6⟩
  · have hL : L = [] := List.eq_nil_of_length_eq_zero h0'
    subst hL
    exact (bw_nil n l Bs J W 0 hB h0).mono fun e W' ⟨he, hj⟩ => ⟨he, .inl ⟨_, rfl, hj⟩⟩
  · exact bw_in n hn l Bs n0 g 0 cap L hl (hv g rfl) hBn J Jx hY W hB (elsAt_of h2 h6) h0
end Go.Proofs.Ytaeiajodbpgbbaa
