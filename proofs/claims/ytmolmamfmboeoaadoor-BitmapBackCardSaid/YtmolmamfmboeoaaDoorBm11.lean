/- Walks over package bitmap: runs, Put. -/
import Derived.Test.YtmolmamfmboeoaaDoorRuns
import Derived.Test.YtmolmamfmboeoaaDoorBm6
import Derived.Test.YtmolmamfmboeoaaDoorAuto
import Derived.RangeFuncNested
import Derived.RangeFuncBound
import Derived.RangeFuncCalls
import Derived.RangeFuncLeaves
import Derived.Shelf.Abstract
import Derived.Shelf.RegionOpen
import Derived.OwnWalkIn
import Derived.TacticsInMore
import Derived.LoopNIn
import Derived.LoopIn
namespace Go.Proofs.YtmolmamfmboeoaaDoor
open Go.RowKit Go.Shelf
attribute [local go_sem] Oper.semAt_some

/-- What a round leaves as it was: what lay below n0, and the block that the runs read their map from. -/
def KeptBox (n0 B : Nat) (W W' : World) : Prop := Below n0 W W' ∧ W'.heap[B]? = W.heap[B]?
def bOf : Value → Bool
  | .bool b => b
  | _ => false
theorem Same.grown {w w' : World} (h : Same w w') : w.grownBy w' none := ⟨h.os, h.tape, h.output, h.size, fun k hk _ => h.block k hk (fun h => h)⟩

theorem NatsAt.below {w w' : World} {k : IntKind} {a : Option Addr} {xs : List Nat} {n0 : Nat} (h : NatsAt w k a xs) (hb : Below n0 w w') (ha : xs = [] ∨ ∀ x, a = some x → x.block < n0) : NatsAt w' k a xs := by
  rcases h with h | ⟨b, off, rfl, hlt, hc⟩
  · exact .inl h
  rcases ha with h | ha
  · exact .inl h
  · exact .inr ⟨b, off, rfl, Nat.lt_of_lt_of_le hlt hb.size, fun i x hx => (hb.cell (p := ⟨b, off + i, none⟩) (ha ⟨b, off, none⟩ rfl)).trans (hc i x hx)⟩

/-- What Next tells, as the end of a run. -/
theorem next_end {s : Nat} {ws : List Nat} {f : Nat} {o : Bool} {r : Option Nat} (hm : mapOK s ws = true) (hf : f < s) (h : NextSpec s ws f (!o) r) :
    ∃ T : Nat, r.getD s = T ∧ f ≤ T ∧ T ≤ s ∧ (∀ j, f ≤ j → j < T → bitN ws j = o) ∧ (T < s → bitN ws T = !o) ∧ (r = some T ∨ r = none ∧ T = s) := by
  cases r with
  | none => exact ⟨s, rfl, by omega, Nat.le_refl _, fun j h1 h2 => by have := h hm j (by omega) (by omega); simpa using this, fun h => by omega, .inr ⟨rfl, rfl⟩⟩
  | some n =>
    obtain ⟨_, h1, h2, h3, h4⟩ := h
    exact ⟨n, rfl, by omega, by omega, fun j h5 h6 => by have := h4 j (by omega) h6; simpa using this, fun _ => h3, .inl rfl⟩

theorem run_measure (s : Nat) (ws : List Nat) (f T : Nat) (o : Bool) (t1 : f ≤ T) (t2 : T ≤ s) (hlt : f < s) (t4 : T < s → bitN ws T = !o) :
    2 * (s - T) + (if bitN ws T = !o then 0 else 1) < 2 * (s - f) + (if bitN ws f = o then 0 else 1) := by
  by_cases h : f = T
  · subst h
    have := t4 hlt
    rw [if_pos this, this, if_neg (by cases o <;> decide)]
    omega
  · split <;> split <;> omega
theorem run_joined {pre : List Int} {d : Nat} {l R : List Nat} {f T : Nat} (h : pre ++ (d :: l).map (fun x : Nat => (x : Int)) = R.map (fun x : Nat => (x : Int))) (hd : d = T - f) (hf : f ≤ T) :
    pre ++ [(T : Int) - (f : Int)] ++ l.map (fun x : Nat => (x : Int)) = R.map (fun x : Nat => (x : Int)) := by
  rw [← h, hd]
  have : (T : Int) - (f : Int) = ((T - f : Nat) : Int) := by omega
  simp [this]

set_option maxRecDepth 100000 in
set_option maxHeartbeats 1000000 in
theorem runs_in (n : Nat) (hn : 1 ≤ n) (l B n0 : Nat) (s : Nat) (a : Option Addr) (cap : Nat) (ws : List Nat) (J Jx : List Int → World → Prop) (hw : Words ws) (hm : mapOK s ws = true) (ha : ws = [] ∨ ∀ x, a = some x → x.block < n0) (hg : 0 < n0) (hs : s ≤ 4096)
    (hJ : ∀ pre W W', J pre W → W.grownBy W' none → J pre W')
    (hY : ∀ pre x W, J pre W → pre.length < (runsL s ws).length → YieldAt Fence.wide (n - 1) Tryd.prog l #[.int .i64 x] W fun e W' =>
      (e = .returned (.bool true) ∧ J (pre ++ [x]) W' ∧ KeptBox n0 B W W') ∨ (e = .returned (.bool false) ∧ Jx (pre ++ [x]) W'))
    (W : World) (hB : Blk W B #[.int .i64 (s : Nat), .slice a ws.length cap] 27) (hat : NatsAt W .u64 a ws) (hT : TabOK W) (h0 : J [] W) :
    CallsIn Fence.wide n Tryd.prog 59 #[.func (.yield l) #[] #[], .pointer (some ⟨B, 0, none⟩)] W fun e W' => (∃ v, e = .returned v) ∧
      ((∃ ys, ys = (runsL s ws).map (fun x : Nat => (x : Int)) ∧ J ys W') ∨ (∃ pre, pre <+: (runsL s ws).map (fun x : Nat => (x : Int)) ∧ Jx pre W')) := by
  obtain ⟨R, hR⟩ : ∃ R, runsL s ws = R := ⟨_, rfl⟩
  rw [hR] at hY ⊢
  have NX := Lib.hid fun (f : Nat) (o : Bool) w' h1 h2 => bm_next s a cap ws f o w' hw h1 h2
  have HR := Lib.hid hR; have HM := Lib.hid hm; have HA := Lib.hid ha; have HJ := Lib.hid hJ; have HY := Lib.hid hY
  have HB := Lib.hid hB; have AT := Lib.hid hat; have TT := Lib.hid hT; have H0 := Lib.hid h0
  clear hR hm ha hJ hY hB hat hT h0 hw
  generalize ws.length = L at *
  refine callsIn_of_wp Tryd.func59 rfl trivial ?_ rfl
  simp only [Tryd.ntmps59, List.size_toArray, List.length_cons, List.length_nil, Nat.reduceAdd, Nat.reduceSub, Array.replicate_succ, Array.replicate_zero, List.push_toArray, List.append_toArray, List.nil_append, List.cons_append]
  gi_wp2
  gi_loopw [3, 4, 5, 6] (fun on fr to is wr => ∃ (pre : List Int) (f : Nat) (o : Bool) (u v : Value), on = .bool o ∧ fr = .int .i64 (f : Nat) ∧ to = u ∧ is = v ∧ f ≤ s ∧
      Hid (pre ++ (rle o 0 ((bitsL s ws).drop f)).map (fun x : Nat => (x : Int)) = R.map (fun x : Nat => (x : Int))) ∧ Hid (Blk wr B #[.int .i64 (s : Nat), .slice a L cap] 27) ∧ Hid (NatsAt wr .u64 a ws) ∧ Hid (TabOK wr) ∧ Hid (J pre wr))
    (fun on fr _ _ _ => 2 * (s - (intOf fr).toNat) + (if bitN ws (intOf fr).toNat = bOf on then 0 else 1))
  case atStart => exact ⟨[], 0, false, _, _, rfl, rfl, rfl, rfl, Nat.zero_le _, by show _ = _; rw [← HR.out]; rfl, HB.out, AT.out, TT.out, H0.out⟩
  case round =>
    obtain ⟨pre, f, o, u, v, rfl, rfl, rfl, rfl, hf, hP, hb, ht, htt, hj⟩ := hrel
    have q0 : wr.cell? ⟨B, 0, none⟩ = some (.int .i64 (s : Nat)) := hb.out.cell 0 rfl
    have q1 : wr.cell? ⟨B, 1, none⟩ = some (.slice a L cap) := hb.out.cell 1 rfl
    by_cases hlt : f < s
    · have hlt' : (f : Int) < (s : Int) := by omega
      gi_wp2_with fail
      refine ⟨trivial, ?_⟩
      refine (callsIn_wide.2 (NX.out f (!o) wr htt.out ht.out)).mono ?_
      rintro e w2 ⟨r, rfl, hn, k⟩
      obtain ⟨T, -, t1, t2, t3, t4, t5⟩ := next_end HM.out hlt hn
      have hj2 := Lib.hid (HJ.out _ _ _ hj.out k.grown)
      have hb2 := Lib.hid (hb.out.kept k (fun h => h))
      have ht2 := Lib.hid (ht.out.same k)
      have htt2 := Lib.hid (htt.out.same k)
      have ST := Lib.hid (rle_step o s ws f T t1 t2 hlt t3 t4)
      have hlen : Hid (pre.length < R.length) := by
        show _ < _
        have e := congrArg List.length hP.out
        rw [ST.out] at e
        simp at e
        omega
      obtain ⟨fn, tmps, assign, body, hy, hR⟩ := HY.out pre ((T : Int) - (f : Int)) w2 hj2.out hlen.out
      clear q0 q1 k hn
      have q0 : w2.cell? ⟨B, 0, none⟩ = some (.int .i64 (s : Nat)) := hb2.out.cell 0 rfl
      have T4 := Lib.hid t4; have T3 := Lib.hid t3
      clear t3 t4
      have hbb : f < T ∨ f = T := by omega
      have PP : Hid (pre ++ [(T : Int) - (f : Int)] ++ (rle (!o) 0 ((bitsL s ws).drop T)).map (fun x : Nat => (x : Int)) = R.map (fun x : Nat => (x : Int))) := by
        have e := hP.out
        rw [ST.out] at e
        exact run_joined e rfl t1
      have MS := Lib.hid (run_measure s ws f T o t1 t2 hlt T4.out)
      have ES : Hid (∀ W3 : World, KeptBox n0 B w2 W3 → Blk W3 B #[.int .i64 (s : Nat), .slice a L cap] 27 ∧ NatsAt W3 .u64 a ws ∧ TabOK W3) := fun W3 hk3 =>
        ⟨hk3.2.trans hb2.out, ht2.out.below hk3.1 HA.out, fun i hi => (hk3.1.cell (p := ⟨0, i, none⟩) hg).trans (htt2.out i hi)⟩
      clear T4 T3
      have t6 := Lib.hid t5
      clear t5
      rcases t6.out with rfl | ⟨rfl, rfl⟩
      all_goals
        gi_wp2
        refine hR.mono ?_
        rintro e W3 (⟨rfl, hJ3, hk3⟩ | ⟨rfl, hJx3⟩)
        · gi_wp2
          go_roundw
          case rel =>
            obtain ⟨e1, e2, e3⟩ := ES.out W3 hk3
            exact ⟨pre ++ [(T : Int) - (f : Int)], T, !o, _, _, rfl, rfl, rfl, rfl, t2, PP.out, e1, e2, e3, hJ3⟩
          case measure => exact MS.out
        · gi_wp2
          refine bodyPost_ret (results_none rfl _ _ _) rfl ?_
          exact ⟨⟨_, rfl⟩, .inr ⟨_, ⟨_, PP.out⟩, hJx3⟩⟩
    · gi_wp2
      go_end0
      refine ⟨⟨_, rfl⟩, .inl ⟨pre, ?_, hj.out⟩⟩
      rw [← hP.out, List.drop_of_length_le (by rw [bitsL_len]; omega)]
      simp [rle]

end Go.Proofs.YtmolmamfmboeoaaDoor
