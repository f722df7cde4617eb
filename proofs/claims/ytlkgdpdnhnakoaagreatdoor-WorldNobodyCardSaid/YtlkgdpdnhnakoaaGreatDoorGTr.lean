/- GTr: Tn2, TrV, TrB. -/
import Derived.Test.YtlkgdpdnhnakoaaGreatDoorAuto
import Derived.Test.YtlkgdpdnhnakoaaGreatDoorChecked
import Derived.Test.YtlkgdpdnhnakoaaGreatDoorMapI
import Derived.Test.YtlkgdpdnhnakoaaGreatDoorEl
import Derived.Test.YtlkgdpdnhnakoaaGreatDoorTrN
namespace Go.Proofs.YtlkgdpdnhnakoaaGreatDoor
open Go.RowKit
theorem Blk.put3 {w : World} {b : Nat} {v0 v1 v2 u0 u1 u2 : Value} {t : TypeId} (h : Blk w b #[v0, v1, v2] t) : Blk (((w.setCell ⟨b, 0, none⟩ u0).setCell ⟨b, 1, none⟩ u1).setCell ⟨b, 2, none⟩ u2) b #[u0, u1, u2] t := ((h.set 0 u0).set 1 u1).set 2 u2
end Go.Proofs.YtlkgdpdnhnakoaaGreatDoor
namespace Go.Proofs.YtlkgdpdnhnakoaaGreatDoor
open Go.RowKit
set_option maxRecDepth 100000 in
theorem vic1 (x y : Int) (d : Bool) (w : World) :
    Calls Tryz.prog 306 #[.agg #[.int .i64 x, .int .i64 y, .bool d]] w fun e w' => e = .returned (.bool (y == 0)) ∧ Same w w' := by
  go_enter Tryz.func306, Tryz.ntmps306
  go_wp2_with fail
  go_ret
  exact ⟨rfl, (Kept.refl _ _).alloc _⟩
set_option maxRecDepth 100000 in
theorem ixi_one (i i' c : Nat) (w : World) (i0 : w.cell? ⟨i, i', none⟩ = some (.int .i64 1)) (i1 : w.cell? ⟨i, i' + 1, none⟩ = some (.int .i64 0)) (i2 : w.cell? ⟨i, i' + 2, none⟩ = some (.bool false)) :
    Calls Tryz.prog 305 #[.slice (some ⟨i, i', none⟩) 1 c, .func (.func 306) #[] #[]] w fun e w' => e = .returned (.int .i64 0) ∧ Same w w' := by
  have V1 := Lib.hid vic1
  go_enter Tryz.func305, Tryz.ntmps305
  go_wp2_with fail
  go_loopw [8] (fun t wr => t = .int .i64 0 ∧ wr = w) (fun _ _ => 0)
  case atStart => exact ⟨rfl, rfl⟩
  case round =>
    obtain ⟨rfl, rfl⟩ := hrel
    go_wp2_with fail
    refine (V1.out 1 0 false wr).mono ?_
    rintro e w2 ⟨rfl, k⟩
    have K := Lib.hid k
    clear k V1
    go_wp2_with fail
    go_ret
    exact ⟨rfl, K.out⟩
set_option maxRecDepth 100000 in
theorem lru_over1 (r : Int) (hr : 1 ≤ r) (hr2 : r ≤ 4096) (a : Option Addr) (c : Nat) (w : World) :
    Calls Tryz.prog 307 #[.agg #[.int .i64 r, .slice a 1 c]] w fun e w' => e = .returned (.int .i64 0) ∧ Same w w' := by
  go_enter Tryz.func307, Tryz.ntmps307
  go_wp2_with fail
  go_ret
  have e : max (0 : Int) (1 - max 0 r) = 0 := by omega
  exact ⟨by first | rfl | (show Ending.returned (Value.int .i64 (max 0 (1 - max 0 r))) = _; rw [e]), (Kept.refl _ _).alloc _⟩
set_option maxRecDepth 100000 in
theorem lru_victim1 (r : Int) (hr : 1 ≤ r) (hr2 : r ≤ 4096) (i i' c : Nat) (w : World) (i0 : w.cell? ⟨i, i', none⟩ = some (.int .i64 1)) (i1 : w.cell? ⟨i, i' + 1, none⟩ = some (.int .i64 0)) (i2 : w.cell? ⟨i, i' + 2, none⟩ = some (.bool false)) :
    Calls Tryz.prog 219 #[.agg #[.int .i64 r, .slice (some ⟨i, i', none⟩) 1 c]] w fun e w' => e = .returned (.tuple #[.agg #[.int .i64 0, .int .i64 0, .bool false], .bool false]) ∧ Same w w' := by
  have IX := Lib.hid (fun W (k : Same w W) => ixi_one i i' c W ((k.cell (p := ⟨i, i', none⟩) (blk_lt i0) (fun h => h)).trans i0) ((k.cell (p := ⟨i, i' + 1, none⟩) (blk_lt i0) (fun h => h)).trans i1) ((k.cell (p := ⟨i, i' + 2, none⟩) (blk_lt i0) (fun h => h)).trans i2))
  have OV := Lib.hid (fun W => lru_over1 r hr hr2 (some ⟨i, i', none⟩) c W)
  clear hr hr2 i0 i1 i2
  go_enter Tryz.func219, Tryz.ntmps219
  go_wp2_with fail
  refine Calls.fr2 ?_; intro W F' K' hz'; have F := Lib.hid F'; have K := Lib.hid K'; have hz := Lib.hid hz'; clear F' K' hz'; obtain ⟨p0, f0, p1, f1, -⟩ := F.out.rules; have z0 := F.out.1.lt; have z1 := F.out.2.1.lt
  refine (IX.out W K.out).mono ?_
  rintro e w2 ⟨rfl, k⟩
  have K' := Lib.hid (K.out.trans k); have F' := Lib.hid (F.out.same k); clear K F p0 f0 z0 p1 f1 z1 k; have K := K'; have F := F'; clear K' F'; obtain ⟨p0, f0, p1, f1, -⟩ := F.out.rules; have z0 := F.out.1.lt; have z1 := F.out.2.1.lt
  clear IX
  go_wp2_with fail
  refine (OV.out w2).mono ?_
  rintro e w3 ⟨rfl, k⟩
  have K' := Lib.hid (K.out.trans k); have F' := Lib.hid (F.out.same k); clear K F p0 f0 z0 p1 f1 z1 k; have K := K'; have F := F'; clear K' F'; obtain ⟨p0, f0, p1, f1, -⟩ := F.out.rules; have z0 := F.out.1.lt; have z1 := F.out.2.1.lt
  clear OV
  go_wp2_with fail
  refine bodyPost_ret (results_two_tmp rfl _ _ (w.heap.size + 1) 350 #[.int .i64 0, .int .i64 0, .bool false] _ rfl (Blk.put3 (v0 := .int .i64 0) (v1 := .int .i64 0) (v2 := .bool false) F.out.2.1) Tryz.underlying350 rfl (by kernel_rfl)) rfl ?_
  exact ⟨rfl, by repeat (first | with_reducible exact K.out | refine Kept.setNew ?_ (by dsimp only; omega) _)⟩
set_option maxRecDepth 100000 in
theorem tr_evict {w : World} {s t t' l l' m m' i i' c : Nat} {r id : Int} {dirty : Bool} (h : TrIn w s t t' l l' m m' i i' c r id dirty) (hr : 1 ≤ r) (hr2 : r ≤ 4096) :
    Calls Tryz.prog 132 #[.pointer (some ⟨t, t', none⟩)] w fun e w' => (∃ x, e = .returned x) ∧ Same w w' := by
  have VI := Lib.hid (lru_victim1 r hr hr2 i i' c w h.i0 h.i1 h.i2)
  have t2 := h.t2
  have t3 := h.t3
  clear hr hr2 h
  go_enter Tryz.func132, Tryz.ntmps132
  go_wp2_with fail
  go_loopw [] (fun wr => wr = w) (fun _ => 0)
  case atStart => rfl
  case round =>
    obtain rfl := hrel
    go_wp2_with fail
    refine VI.out.mono ?_
    rintro e w2 ⟨rfl, k⟩
    have K := Lib.hid k
    clear k VI
    go_wp2_with fail
    refine bodyPost_ret (results_none rfl _ _ _) rfl ?_
    exact ⟨⟨_, rfl⟩, by have hk := K.out.size; repeat (first | with_reducible exact K.out | with_reducible refine Kept.alloc ?_ _ | refine Kept.setNew ?_ (by dsimp only; omega) _)⟩
end Go.Proofs.YtlkgdpdnhnakoaaGreatDoor
namespace Go.Proofs.YtlkgdpdnhnakoaaGreatDoor
open Go.RowKit
namespace Ev
noncomputable def lNode : List (Nat × Lt) := [(87, .cells [(0, [.I .u8 0, .I .u8 0])] 2 (some 1))]
noncomputable def lHead : List (Nat × Lt) := [(81, .cells [(0, [.I .u8 0, .I .u8 0, .I .u8 1, .I .u8 2, .I .u8 0, .I .u8 0])] 6 (some 1))]
def aNode : List AV := [.V (.G [.I .i64 0, .L none 0 (.k 0), .L none 0 (.k 0), .L none 0 (.k 0), .L none 0 (.k 0)])]
def aHead : List AV := [.V (.G [.I .i64 0, .I .i64 0, .I .i64 2, .I .i64 0, .L none 0 (.k 0)])]
noncomputable def zNode : AV := .U [.C (.L (some (87, 0)) 2 (.e 0)), .C (.I .i64 0)]
noncomputable def zHead : AV := .V (.C (.L (some (81, 0)) 6 (.e 0)))
theorem node_ran : ltRun zNode lNode (nat_lit 200) ((clO (tabOf Tryz.prog) numG (ixF (factQ []) (biQ [] [] [])) (iyV entP) izP (nat_lit 100000) (nat_lit 300)).call 308 aNode (h1 (nat_lit 0))) = true := by kernel_rfl
theorem head_ran : ltRun zHead lHead (nat_lit 200) ((clO (tabOf Tryz.prog) numG (ixF (factQ []) (biQ [] [] [])) (iyV entP) izP (nat_lit 100000) (nat_lit 300)).call 97 aHead (h1 (nat_lit 0))) = true := by kernel_rfl
/-- Bytes that a run laid. -/
theorem bytes_of {vals : Nat → Nat × Nat} {ob : Obj} {V : Vn} {h : Hp Xo} {w' : World} (s : Sim (varX tabG ob vals []) numG V h w') {b n : Nat} {t : T Ce} (g : h.t.get b = some (.cells t n (some 1))) {l : List Nat} (hl : l.length = n) (hc : ∀ i, i < n → t.get i = some (.I .u8 (l.getD i 0 : Nat))) {v : Value} (hv : (Ce.L (some (b, 0)) n (.e 0)).rel V v) :
    ∃ p c, V b = some p ∧ v = .slice (some ⟨p.bl, p.of, none⟩) n c ∧ n ≤ c ∧ NatsAt w' .u8 (some ⟨p.bl, p.of, none⟩) l := by
  obtain ⟨p, q1, q2, rfl⟩ := hv
  refine ⟨p, p.cp - 0, q1, rfl, by omega, ?_⟩
  match l, hl with
  | [], hl => exact .inl rfl
  | x :: l, hl =>
    obtain ⟨v0, c0, -, -⟩ := cellOf s g q1 (i := 0) (by rw [← hl]; exact Nat.succ_pos _) (hc 0 (by rw [← hl]; exact Nat.succ_pos _))
    refine .inr ⟨p.bl, p.of, rfl, World.block_lt_of_cell? w' _ c0, fun i y hy => ?_⟩
    have hi : i < n := by rw [← hl]; exact (List.getElem?_eq_some_iff.1 hy).1
    obtain ⟨v1, c1, r1, -⟩ := cellOf s g q1 hi (hc i hi)
    rw [List.getD_eq_getElem?_getD, hy] at r1
    have r1 : v1 = .int .u8 (y : Nat) := r1
    rw [c1, r1]
theorem argsN {V : Vn} : All2 (AV.rel V) aNode [.agg #[.int .i64 0, .slice none 0 0, .slice none 0 0, .slice none 0 0, .slice none 0 0]] := ⟨⟨[.int .i64 0, .slice none 0 0, .slice none 0 0, .slice none 0 0, .slice none 0 0], ⟨rfl, rfl, rfl, rfl, rfl, trivial⟩, rfl⟩, trivial⟩
theorem argsH {V : Vn} : All2 (AV.rel V) aHead [.agg #[.int .i64 0, .int .i64 0, .int .i64 2, .int .i64 0, .slice none 0 0]] := ⟨⟨[.int .i64 0, .int .i64 0, .int .i64 2, .int .i64 0, .slice none 0 0], ⟨rfl, rfl, rfl, rfl, rfl, trivial⟩, rfl⟩, trivial⟩
end Ev
open Ev in
theorem node_put (w : World) (hT : TabOK w) :
    Calls Tryz.prog 308 #[.agg #[.int .i64 0, .slice none 0 0, .slice none 0 0, .slice none 0 0, .slice none 0 0]] w fun e w' => ∃ a c, e = .returned (.tuple #[.slice (some a) 2 c, .int .i64 0]) ∧ 2 ≤ c ∧ NatsAt w' .u8 (some a) [0, 0] ∧ w.heap.size ≤ a.block ∧ Same w w' := by
  refine (runL (k := 0) node_ran (vals := fun _ => (0, 0)) (fun _ h => by cases h) (fun _ h => by cases h) (fun _ h => by cases h) (fun _ h => by cases h) (entP_ok _) w hT 0 argsN).mono ?_
  rintro e w' ⟨u, V, ob, rfl, ⟨vs, hvs, rfl⟩, k, S, hV, hs, hnew⟩
  match vs, hvs with
  | [a, b], ⟨h1, h2, _⟩ =>
  have h2 : b = .int .i64 0 := h2
  subst h2
  have g : (litH lNode (nat_lit 200)).t.get 87 = some (.cells (rowsT [(0, [.I .u8 0, .I .u8 0])]) 2 (some 1)) := by kernel_rfl
  obtain ⟨p, c, e1, rfl, e2, e3⟩ := bytes_of S g (l := [0, 0]) rfl (fun i hi => by
    match i, hi with
    | 0, _ => exact (by kernel_rfl : (rowsT [(0, [.I .u8 0, .I .u8 0])]).get 0 = some (.I .u8 0))
    | 1, _ => exact (by kernel_rfl : (rowsT [(0, [.I .u8 0, .I .u8 0])]).get 1 = some (.I .u8 0))) h1
  exact ⟨_, c, rfl, e2, e3, hnew 87 _ _ (by decide +kernel) g e1 (List.mem_singleton.2 rfl), k⟩
open Ev in
theorem head_put (w : World) (hT : TabOK w) :
    Calls Tryz.prog 97 #[.agg #[.int .i64 0, .int .i64 0, .int .i64 2, .int .i64 0, .slice none 0 0]] w fun e w' => ∃ a c, e = .returned (.slice (some a) 6 c) ∧ 6 ≤ c ∧ NatsAt w' .u8 (some a) [0, 0, 1, 2, 0, 0] ∧ w.heap.size ≤ a.block ∧ Same w w' := by
  refine (runL (k := 0) head_ran (vals := fun _ => (0, 0)) (fun _ h => by cases h) (fun _ h => by cases h) (fun _ h => by cases h) (fun _ h => by cases h) (entP_ok _) w hT 0 argsH).mono ?_
  rintro e w' ⟨u, V, ob, rfl, hz, k, S, hV, hs, hnew⟩
  have g : (litH lHead (nat_lit 200)).t.get 81 = some (.cells (rowsT [(0, [.I .u8 0, .I .u8 0, .I .u8 1, .I .u8 2, .I .u8 0, .I .u8 0])]) 6 (some 1)) := by kernel_rfl
  obtain ⟨p, c, e1, rfl, e2, e3⟩ := bytes_of S g (l := [0, 0, 1, 2, 0, 0]) rfl (fun i hi => by
    match i, hi with
    | 0, _ => exact (by kernel_rfl : (rowsT [(0, [.I .u8 0, .I .u8 0, .I .u8 1, .I .u8 2, .I .u8 0, .I .u8 0])]).get 0 = some (.I .u8 0))
    | 1, _ => exact (by kernel_rfl : (rowsT [(0, [.I .u8 0, .I .u8 0, .I .u8 1, .I .u8 2, .I .u8 0, .I .u8 0])]).get 1 = some (.I .u8 0))
    | 2, _ => exact (by kernel_rfl : (rowsT [(0, [.I .u8 0, .I .u8 0, .I .u8 1, .I .u8 2, .I .u8 0, .I .u8 0])]).get 2 = some (.I .u8 1))
    | 3, _ => exact (by kernel_rfl : (rowsT [(0, [.I .u8 0, .I .u8 0, .I .u8 1, .I .u8 2, .I .u8 0, .I .u8 0])]).get 3 = some (.I .u8 2))
    | 4, _ => exact (by kernel_rfl : (rowsT [(0, [.I .u8 0, .I .u8 0, .I .u8 1, .I .u8 2, .I .u8 0, .I .u8 0])]).get 4 = some (.I .u8 0))
    | 5, _ => exact (by kernel_rfl : (rowsT [(0, [.I .u8 0, .I .u8 0, .I .u8 1, .I .u8 2, .I .u8 0, .I .u8 0])]).get 5 = some (.I .u8 0))) hz
  exact ⟨_, c, rfl, e2, e3, hnew 81 _ _ (by decide +kernel) g e1 (List.mem_singleton.2 rfl), k⟩
end Go.Proofs.YtlkgdpdnhnakoaaGreatDoor
