/- GDb: Dc7, Dc8. -/
import Derived.Test.YtnjmdldhgconmaaGreatDoorCrA
import Derived.Test.YtnjmdldhgconmaaGreatDoorGDa
import Derived.Laws.CopyOwn
import Derived.Deep.RegionHeld3
import Derived.Lib.QuietBelow
import Derived.Deep.QuietTactic
import Derived.BigQuiet
import Derived.Lib.AppendStr
namespace Go.Proofs.YtnjmdldhgconmaaGreatDoor
open Go.RowKit

def cpyCall (o : Oper) : Bool :=
  match o.op with
  | .call { callee := .builtin .copy, .. } => true
  | _ => false
def CpyOK (P : Program) (A : Array TypeId) (ty : TypeId) (X : Array Value) (w : World) : Prop := ∃ v' w', (Builtin.copy_ A ty X).run P w = .ok v' w'
def cpyV (P : Program) (A : Array TypeId) (ty : TypeId) (X : Array Value) (w : World) : Value :=
  match (Builtin.copy_ A ty X).run P w with
  | .ok v' _ => v'
  | .halt _ _ => undef
def cpyW (P : Program) (A : Array TypeId) (ty : TypeId) (X : Array Value) (w : World) : World :=
  match (Builtin.copy_ A ty X).run P w with
  | .ok _ w' => w'
  | .halt _ w' => w'
theorem cpy_run {P : Program} {A : Array TypeId} {ty : TypeId} {X : Array Value} {w : World} (h : CpyOK P A ty X w) : (Builtin.copy_ A ty X).run P w = .ok (cpyV P A ty X w) (cpyW P A ty X w) := by
  obtain ⟨v', w', e⟩ := h
  unfold cpyV cpyW
  rw [e]
theorem cpy_of {P : Program} {A : Array TypeId} {ty : TypeId} {X : Array Value} {w : World} {v' : Value} {w' : World} (e : (Builtin.copy_ A ty X).run P w = .ok v' w') : CpyOK P A ty X w ∧ cpyV P A ty X w = v' ∧ cpyW P A ty X w = w' := by
  refine ⟨⟨v', w', e⟩, ?_, ?_⟩
  · unfold cpyV; rw [e]
  · unfold cpyW; rw [e]
structure IsCpy (o : Oper) : Prop where
  is : cpyCall o = true
theorem isCpy_lit (dst : Option Tmp) (args : Array Operand) (argTypes : Array TypeId) (ty : TypeId) (pos : String) (after : Array Edge) (guard : Option (Nat × Bool)) :
    IsCpy { dst := dst, op := .call { callee := .builtin .copy, args := args, argTypes := argTypes }, type := ty, pos := pos, after := after, guard := guard } := ⟨rfl⟩
theorem exec_cpy {P : Program} {ρ : Operand → Value} {o : Oper} {w : World} (h : IsCpy o) (h2 : CpyOK P (appA o) o.type (appX ρ o) w) :
    (execOp ρ o).run P w = .ok (.value (cpyV P (appA o) o.type (appX ρ o) w)) (cpyW P (appA o) o.type (appX ρ o) w) := by
  have hrun := cpy_run h2
  obtain ⟨dst, op, ty, pos, after, guard⟩ := o
  have h := h.is
  unfold cpyCall at h
  split at h
  · rename_i args argTypes e
    simp only at e
    subst e
    simp only [appA, appX] at hrun ⊢
    simp only [execOp, resolve, invoke, builtin, Sem.run_bind, Sem.run_pure, Result.andThen_ok, hrun]
  · cases h
theorem semAt_cpy {P : Program} {ρ : Operand → Value} {o : Oper} {w : World} {r : Option Nat} (h : IsCpy o) (h2 : CpyOK P (appA o) o.type (appX ρ o) w) :
    (Oper.semAt r ρ o).run P w = .ok (.value (cpyV P (appA o) o.type (appX ρ o) w)) (cpyW P (appA o) o.type (appX ρ o) w) := by
  rw [Oper.semAt_eq _ _ _ (fun c e => by have h := h.is; unfold cpyCall at h; rw [e] at h; cases h)]
  exact exec_cpy h h2

theorem take_splice {α : Type} (L X cs : List α) (o n : Nat) (hX : L.take n = X) (hn : X.length = n) (ho : o + cs.length ≤ n) :
    (L.take o ++ cs ++ L.drop (o + cs.length)).take n = X.take o ++ cs ++ X.drop (o + cs.length) := by
  have hL : L = X ++ L.drop n := by rw [← hX]; exact (List.take_append_drop n L).symm
  rw [hL, List.take_append_of_le_length (l₁ := X) (by omega), List.drop_append_of_le_length (l₁ := X) (by omega), ← List.append_assoc]
  rw [List.take_append_of_le_length (by simp; omega)]
  exact List.take_of_length_le (by simp; omega)
theorem run_copyN {P : Program} (w : World) (dT sT ty e : TypeId) (k : IntKind) (hu : P.underlying dT = some (.slice e)) (hs : (P.info? e).map (·.size) = some 1) (base g o n cap dl dc : Nat) (xs : List Nat)
    (hown : OwnN w base e k (.slice (some ⟨g, 0, none⟩) n cap) xs) (hn : xs.length = n) (ao : Option Addr) (m c : Nat) (ys : List Nat) (hm : m = ys.length) (hat : NatsAt w k ao ys) (hfit : o + ys.length ≤ n) (hdl : ys.length ≤ dl) :
    ∃ w', (Builtin.copy_ #[dT, sT] ty #[.slice (some ⟨g, o, none⟩) dl dc, .slice ao m c]).run P w = .ok (.int .i64 ((ys.length : Nat) : Int)) w' ∧ OwnN w' base e k (.slice (some ⟨g, 0, none⟩) n cap) (xs.take o ++ ys ++ xs.drop (o + ys.length)) ∧ Kept (fun j => j = g) w w' := by
  subst hm
  cases ys with
  | nil =>
    refine ⟨w, run_copy_none (P := P) w dT sT ty e (some ⟨g, o, none⟩) ao dl dc 0 c hu hs (by simp), ?_, Kept.refl _ _⟩
    simpa using hown
  | cons y ys =>
    generalize hY : y :: ys = Y at *
    have hY0 : Y ≠ [] := by rw [← hY]; simp
    obtain ⟨b, off, rfl, hb, hc⟩ := hat.resolve_left hY0
    rcases hown.2 with ⟨h0, _⟩ | ⟨g', cap', cur, e', h1, h2, h3, h4, h5, h6⟩
    · cases h0
    · cases e'
      have hl : (Y.map fun x : Nat => Value.int k ((x : Nat) : Int)).length = Y.length := List.length_map _
      have hsrc : ∀ j v, (Y.map fun x : Nat => Value.int k ((x : Nat) : Int))[j]? = some v → w.cell? ((⟨b, off, none⟩ : Addr).add j) = some v := by
        intro j v hv
        rw [List.getElem?_map] at hv
        obtain ⟨x, hx, rfl⟩ := Option.map_eq_some_iff.1 hv
        have := hc j x hx
        unfold Addr.add
        split
        · subst j; simpa using this
        · exact this
      have hrun := run_copy_row (P := P) w dT sT ty e g o dl dc ⟨b, off, none⟩ Y.length c cur e (Y.map fun x : Nat => Value.int k ((x : Nat) : Int)) hu hs h2 (by rw [hl]; exact (Nat.min_eq_left hdl).symm) hsrc (by rw [hl]; omega) (by intro v hv; obtain ⟨x, _, rfl⟩ := List.mem_map.1 hv; rfl)
      rw [hl] at hrun
      refine ⟨_, hrun, ⟨?_, .inr ⟨g, cap, _, ?_, h1, setRow_heap w g cur _ e _ h2, ?_, h4, ?_, ?_⟩⟩, ⟨rfl, rfl, rfl, by simp [World.setRow], fun j _ hj => setRow_other w g j _ hj⟩⟩
      · simp
      · congr 1
        simp; omega
      · simp; omega
      · simp; omega
      · rw [List.length_append, List.length_append, List.length_take, List.length_drop]
        rw [show (min o xs.length + Y.length + (xs.length - (o + Y.length))) * 1 = xs.length from by omega]
        have ht := take_splice cur.toList (xs.map fun x : Nat => Value.int k ((x : Nat) : Int)) (Y.map fun x : Nat => Value.int k ((x : Nat) : Int)) o xs.length (by simpa using h6) (by simp) (by rw [hl]; omega)
        rw [hl] at ht
        simpa using ht
def innerS (b : List Nat) (n : Nat) : List Nat := [b.length / 256, b.length % 256, 0, 0] ++ b ++ List.replicate (n - b.length) 0
/-- Bytes sealed, with room for n. -/
def sealS (b : List Nat) (n : Nat) : List Nat := fourOf (crcOf (innerS b n)) ++ innerS b n
theorem innerS_len {b : List Nat} {n : Nat} (h : b.length ≤ n) : (innerS b n).length = 4 + n := by simp [innerS]; omega
theorem sealS_len {b : List Nat} {n : Nat} (h : b.length ≤ n) : (sealS b n).length = 8 + n := by simp [sealS, fourOf, innerS_len h]; omega
theorem innerS_bts {b : List Nat} {n : Nat} (h : b.length ≤ n) (hn : n ≤ 65528) (hb : Bts b) : Bts (innerS b n) := by
  unfold innerS
  refine Bts.app (Bts.app ?_ hb) ?_
  · intro x hx
    simp at hx
    omega
  · intro x hx
    rw [List.eq_of_mem_replicate hx]; decide
theorem fourOf_bts {r : Nat} (h : r < 4294967296) : Bts (fourOf r) := by
  intro x hx
  simp [fourOf] at hx
  omega
theorem sealS_bts {b : List Nat} {n : Nat} (h : b.length ≤ n) (hn : n ≤ 65528) (hb : Bts b) : Bts (sealS b n) :=
  (fourOf_bts (crcOf_lt _ (innerS_bts h hn hb))).app (innerS_bts h hn hb)
/-- The steps of Seal. -/
theorem seal_steps (x y n : Nat) : ((List.replicate (8 + n) 0).set 4 x).set 5 y = [0, 0, 0, 0, x, y, 0, 0] ++ List.replicate n 0 := by
  rw [← List.replicate_append_replicate]
  rfl
theorem seal_copy (b : List Nat) (x y n : Nat) :
    ([0, 0, 0, 0, x, y, 0, 0] ++ List.replicate n 0).take 8 ++ b ++ ([0, 0, 0, 0, x, y, 0, 0] ++ List.replicate n 0).drop (8 + b.length) = [0, 0, 0, 0] ++ ([x, y, 0, 0] ++ b ++ List.replicate (n - b.length) 0) := by
  rw [List.take_append_of_le_length (by simp), List.drop_append]
  simp [List.drop_replicate]
theorem seal_four (f l : List Nat) (hf : f.length = 4) : ([0, 0, 0, 0] ++ l).take 0 ++ f ++ ([0, 0, 0, 0] ++ l).drop (0 + f.length) = f ++ l := by
  rw [hf]; simp

section
attribute [local go_sem ↓] exec_cpy semAt_cpy
attribute [local go_sem] isCpy_lit appA appX
set_option maxRecDepth 100000 in
set_option maxHeartbeats 800000 in
/-- Seal, at a block's size. -/
theorem cr_sealS (a : Option Addr) (n c m z : Nat) (hz : z = 8 + m) (b : List Nat) (hn : n = b.length) (hb : Bts b) (hnil : n ≤ c) (hbig : b.length ≤ m) (h1 : 1 ≤ m) (hm : m ≤ 65528) (w : World) (hat : NatsAt w .u8 a b) :
    Calls Tryz.prog 451 #[.slice a n c, .int .i64 (z : Int)] w fun e w' => ∃ v, e = .returned (.tuple #[v, .int .i64 0]) ∧ OwnN w' w.heap.size 5 .u8 v (sealS b m) ∧ Same w w' := by
  subst hn
  have h8 : ¬ (z : Int) < 8 := by omega
  have h65 : ¬ (65536 : Int) < (z : Int) := by omega
  have hbi : ¬ ((z : Int) - 8) < (b.length : Int) := by omega
  have HE := Lib.hid (sealS_len hbig)
  obtain ⟨i0, hi, hz0, hz1, hz2⟩ := info_parts (show (Tryz.prog.info? 5).map (fun i => (i.zero, i.size, i.bytes)) = some (some (.int .u8 0), 1, 1) by kernel_rfl)
  obtain ⟨w1, hrun, hown, hgr⟩ := run_make_full (P := Tryz.prog) w w.heap.size 25 5 i0 (.int .u8 0) 1 Tryz.underlying25 hi hz0 hz1 .i64 .i64 z (by rw [hz2]; omega) (by simp [maxLen]; omega) (Nat.le_refl _)
  have ho := OwnN.made hown
  have hrep : (List.replicate z 0).length = z := List.length_replicate
  have hmk : (Instr.makeSlice 25 (.int .i64 (z : Int)) (.int .i64 (z : Int))).run Tryz.prog w = .ok (.slice (some ⟨w.heap.size, 0, none⟩) z z) w1 := hrun
  have K1 : Same w w1 := ⟨hgr.os, hgr.tape, hgr.output, hgr.size, fun k hk _ => hgr.block k hk (by simp)⟩
  have c4 := ho.cell (j := 4) (x := 0) List.length_replicate (by rw [List.getElem?_replicate, if_pos (by omega)])
  have c5 := ho.cell (j := 5) (x := 0) List.length_replicate (by rw [List.getElem?_replicate, if_pos (by omega)])
  have f4 := fun i => ho.free List.length_replicate i
  have e4 : (b.length : Int) / 256 = ((b.length / 256 : Nat) : Int) := by omega
  have e5 : (b.length : Int) % 256 = ((b.length % 256 : Nat) : Int) := by omega
  have o5 : OwnN ((w1.setCell ⟨w.heap.size, 4, none⟩ (.int .u8 ((b.length : Int) / 256))).setCell ⟨w.heap.size, 5, none⟩ (.int .u8 ((b.length : Int) % 256))) w.heap.size 5 .u8 (.slice (some ⟨w.heap.size, 0, none⟩) z z) ([0, 0, 0, 0, b.length / 256, b.length % 256, 0, 0] ++ List.replicate m 0) := by
    rw [e4, e5, ← seal_steps, ← hz]
    exact (ho.set List.length_replicate 4 _).set (by rw [List.length_set]; exact List.length_replicate) 5 _
  have k5 : Kept (fun j => j = w.heap.size) w1 ((w1.setCell ⟨w.heap.size, 4, none⟩ (.int .u8 ((b.length : Int) / 256))).setCell ⟨w.heap.size, 5, none⟩ (.int .u8 ((b.length : Int) % 256))) := ((Kept.refl _ _).setG _ _).setG _ _
  have K5 : Same w ((w1.setCell ⟨w.heap.size, 4, none⟩ (.int .u8 ((b.length : Int) / 256))).setCell ⟨w.heap.size, 5, none⟩ (.int .u8 ((b.length : Int) % 256))) := K1.step k5 (fun i hi q => by omega)
  obtain ⟨w3, hcp, o3, k3⟩ := run_copyN (P := Tryz.prog) _ 25 25 3 5 .u8 Tryz.underlying25 (by kernel_rfl) w.heap.size w.heap.size 8 z z (z - 8) (z - 8) _ o5 (by simp; omega) a b.length c b rfl (hat.same K5) (by omega) (by omega)
  rw [seal_copy] at o3
  obtain ⟨aok, aV, aW⟩ := cpy_of hcp
  have K3 := Lib.hid (K5.step k3 (fun i hi q => by omega))
  have hI : [b.length / 256, b.length % 256, 0, 0] ++ b ++ List.replicate (m - b.length) 0 = innerS b m := rfl
  rw [hI] at o3
  have O3 := Lib.hid o3
  have N3 := Lib.hid (show NatsAt w3 .u8 (some ⟨w.heap.size, 4, none⟩) (innerS b m) from by have := o3.nats.drop 4; rw [Nat.zero_add] at this; exact this)
  have IL := Lib.hid (innerS_len hbig)
  have IB := Lib.hid (innerS_bts hbig hm hb)
  have hgl := (ho.lt).2
  have g4 : (4 : Int) < (z : Int) := by omega
  have hne : ¬ z = 8 := by omega
  have g5 : (5 : Int) < (z : Int) := by omega
  have g6 : 8 ≤ z := by omega
  have g7 : 4 ≤ z := by omega
  have g8 : (8 : Int) ≤ (z : Int) := by omega
  have g9 : (4 : Int) ≤ (z : Int) := by omega
  have HZ := Lib.hid hz
  have HM := Lib.hid hm
  have hlb : (b.length : Int) < 65536 := by omega
  clear hz hm hrep hi hz0 hz1 hz2 hgr hown ho hrun hcp o3 k3 o5 k5 K5 K1 e4 e5 hI
  obtain ⟨I, hI⟩ : ∃ I, innerS b m = I := ⟨_, rfl⟩
  have HSE : Hid (sealS b m = fourOf (crcOf I) ++ I) := by show sealS b m = _; unfold sealS; rw [hI]
  rw [hI] at O3 N3 IL IB
  clear hI
  go_enter Tryz.func451, Tryz.ntmps451
  go_wp2_with fail
  refine (cr_of _ (z - 4) _ I (by rw [IL.out]; have := HZ.out; omega) IB.out w3 N3.out (by have := HZ.out; have := HM.out; omega)).mono ?_
  rintro e w' ⟨rfl, rfl⟩
  go_wp2_with fail
  refine (cr_four (crcOf I) (crcOf_lt I IB.out) _).mono ?_
  rintro e w4 ⟨g4, rfl, n4, hg4, k4⟩
  obtain ⟨w6, hcp, o6, k6⟩ := run_copyN (P := Tryz.prog) w4 25 25 3 5 .u8 Tryz.underlying25 (by kernel_rfl) w.heap.size w.heap.size 0 z z z z _ (O3.out.same k4) (by rw [List.length_append, IL.out, HZ.out]; show 4 + (4 + m) = 8 + m; omega) (some ⟨g4, 0, none⟩) 4 4 (fourOf (crcOf I)) rfl n4 (by simp [fourOf]; have := HZ.out; omega) (by simp [fourOf]; have := HZ.out; omega)
  rw [seal_four _ _ rfl] at o6
  obtain ⟨aok2, aV2, aW2⟩ := cpy_of hcp
  have K6 := Lib.hid ((K3.out.trans k4).step k6 (fun i hi q => by omega))
  have O6 := Lib.hid o6
  clear hcp o6 k6 k4 n4 K3 O3 N3 aok aV aW
  go_wp2_with fail
  go_ret2
  refine ⟨.slice (some ⟨w.heap.size, 0, none⟩) z z, rfl, ?_, K6.out⟩
  rw [HSE.out]; exact O6.out
end
end Go.Proofs.YtnjmdldhgconmaaGreatDoor

namespace Go.Proofs.YtnjmdldhgconmaaGreatDoor
open Go.RowKit

theorem strCells_strN (xs : List Nat) (h : Bts xs) : Lib.strCells (strN xs) = xs.map fun x => Value.int .u8 ((x : Nat) : Int) := by
  unfold Lib.strCells
  have e : (strN xs).data.toList = xs.map UInt8.ofNat := by unfold strN; simp
  rw [e, List.map_map]
  apply List.map_congr_left
  intro x hx
  have := h x hx
  simp [Nat.mod_eq_of_lt this]
/-- A string's bytes, appended. -/
theorem run_append_str {P : Program} (w : World) (t u ty e : TypeId) (base : Nat) (ht : P.underlying t = some (.slice e)) (hu : P.underlying u = some .string) (hi : (P.info? e).map (fun i => (i.zero, i.size, i.bytes)) = some (some (.int .u8 0), 1, 1))
    (v : Value) (xs : List Nat) (hown : OwnN w base e .u8 v xs) (ys : List Nat) (hy : Bts ys) (hbytes : xs.length + ys.length ≤ 140737488355328) (hbase : base ≤ w.heap.size) :
    ∃ v' w', (Builtin.append_ #[t, u] ty #[v, .string (strN ys)]).run P w = .ok v' w' ∧ OwnN w' base e .u8 v' (xs ++ ys) ∧ w.grownBy w' v.ownBlock := by
  obtain ⟨i, hi, hz0, hz1, hz2⟩ := info_parts hi
  obtain ⟨v', w', hr, ho, hg, -⟩ := Lib.run_append_own_string (P := P) w base t u ty e i ht hu hi hz0 hz1 hz2 v xs.length _ hown (strN ys) (by rw [strN_len]; unfold maxLen; omega) (by rw [strN_len]; exact hbytes) hbase
  refine ⟨v', w', hr, ?_, hg⟩
  unfold OwnN
  rw [List.length_append, List.map_append, ← strCells_strN ys hy, ← strN_len ys]
  exact ho
theorem zeroCells_one (k : IntKind) (n : Nat) : Builtin.zeroCells (Value.int k 0).cells n = (List.replicate n (Value.int k 0)).toArray := by
  rw [show (Value.int k 0).cells = #[Value.int k 0] from rfl]
  unfold Builtin.zeroCells
  apply Array.ext'
  apply List.ext_getElem?
  intro j
  simp [List.getElem?_replicate]
  by_cases h : j < n
  · simp [h, Nat.mod_one]
  · simp [h]
/-- Zeros, appended: as the string of so many zeros. -/
theorem append_zeros_eq {P : Program} (w : World) (t tn u ty e : TypeId) (kn kq : IntKind) (ht : P.underlying t = some (.slice e)) (htn : P.underlying tn = some (.int kn)) (hu : P.underlying u = some .string) (hi : (P.info? e).map (fun i => (i.zero, i.size, i.bytes)) = some (some (.int .u8 0), 1, 1))
    (a : Option Addr) (l c n : Nat) (hlc : l ≤ c) (hn : l + n ≤ 140737488355328) :
    (Builtin.append_ #[t, tn] ty #[.slice a l c, .int kq n]).run P w = (Builtin.append_ #[t, u] ty #[.slice a l c, .string (strN (List.replicate n 0))]).run P w := by
  obtain ⟨i, hi, hz0, hz1, hz2⟩ := info_parts hi
  have hw : IntKind.i64.wrap (n : Int) = n := by rw [IntKind.wrap_i64]; omega
  have hneg : ¬ ((n : Int) < 0) := by omega
  have hb : ¬ (281474976710656 < (n : Int)) := by omega
  have hs : (strN (List.replicate n 0)).size = n := by rw [strN_len, List.length_replicate]
  have hf : ∀ W : World, (Builtin.firstCells 1 n (.string (strN (List.replicate n 0)))).run P W = .ok (List.replicate n (Value.int .u8 0)).toArray W := by
    intro W
    have := Lib.run_firstCells_string (P := P) W 1 (strN (List.replicate n 0))
    rw [hs, strCells_strN _ (fun x hx => by have := List.eq_of_mem_replicate hx; omega), List.map_replicate] at this
    exact this
  have hz : Builtin.zeroCells (Value.int .u8 0).cells n = (List.replicate n (Value.int .u8 0)).toArray := zeroCells_one _ _
  have h63 : ¬ (9223372036854775807 < ((l : Int) + (n : Int))) := by omega
  by_cases hle : l + n ≤ c
  · by_cases h0 : n = 0
    · subst h0
      have hz0' : IntKind.i64.wrap 0 = 0 := by decide
      simp at hle hf
      have hs : (strN []).size = 0 := hs
      simp [Builtin.append_, run_underlying ht, run_underlying htn, run_underlying hu, sizeOf, typeInfo, hi, hz1, asInt, asIntOf, hz0', Builtin.lenOf, hs, hle, hf]
    · simp [Builtin.append_, run_underlying ht, run_underlying htn, run_underlying hu, sizeOf, typeInfo, zeroValue, hi, hz0, hz1, hz2, asInt, asIntOf, hw, hneg, hb, hz, h0, hle, Builtin.lenOf, hs, hf]
  · have h48 : ¬ (281474976710656 < Builtin.nextslicecap (l + n) c) := by
      have := growslice_fits (bytes := 1) (need := l + n) (old := c) (by omega) (by omega)
      omega
    have h0 : n ≠ 0 := by omega
    simp [Builtin.append_, run_underlying ht, run_underlying htn, run_underlying hu, sizeOf, typeInfo, zeroValue, hi, hz0, hz1, hz2, asInt, asIntOf, hw, hneg, hb, hz, h0, h63, h48, hle, Builtin.lenOf, hs, hf]
/-- Zeros, appended to bytes of one's own. -/
theorem run_append_zeros {P : Program} (w : World) (t tn u ty e : TypeId) (kn kq : IntKind) (base : Nat) (ht : P.underlying t = some (.slice e)) (htn : P.underlying tn = some (.int kn)) (hu : P.underlying u = some .string) (hi : (P.info? e).map (fun i => (i.zero, i.size, i.bytes)) = some (some (.int .u8 0), 1, 1))
    (v : Value) (xs : List Nat) (hown : OwnN w base e .u8 v xs) (n : Nat) (hbytes : xs.length + n ≤ 140737488355328) (hbase : base ≤ w.heap.size) :
    ∃ v' w', (Builtin.append_ #[t, tn] ty #[v, .int kq n]).run P w = .ok v' w' ∧ OwnN w' base e .u8 v' (xs ++ List.replicate n 0) ∧ w.grownBy w' v.ownBlock := by
  obtain ⟨v', w', hr, ho, hg⟩ := run_append_str (P := P) w t u ty e base ht hu hi v xs hown (List.replicate n 0) (fun x hx => by have := List.eq_of_mem_replicate hx; omega) (by rw [List.length_replicate]; exact hbytes) hbase
  refine ⟨v', w', ?_, ho, hg⟩
  obtain ⟨a, cap, rfl, h1, h2, h3, h4, _⟩ := hown.read
  rw [append_zeros_eq (P := P) w t tn u ty e kn kq ht htn hu hi a _ cap n h1 hbytes]
  exact hr
/-- Bytes, appended to bytes of one's own; nil, whatever its room. -/
theorem run_appendB {P : Program} (w : World) (t ty e : TypeId) (base : Nat) (k : IntKind) (bytes : Nat) (ht : P.underlying t = some (.slice e)) (hi : (P.info? e).map (fun i => (i.zero, i.size, i.bytes)) = some (some (.int k 0), 1, bytes)) (hby : 1 ≤ bytes)
    (v : Value) (xs : List Nat) (hown : OwnN w base e k v xs) (ao : Option Addr) (m c : Nat) (ys : List Nat) (hm : m = ys.length) (hat : NatsAt w k ao ys)
    (hbytes : (xs.length + ys.length) * bytes ≤ 140737488355328) (hbase : base ≤ w.heap.size) :
    ∃ v' w', (Builtin.append_ #[t, t] ty #[v, .slice ao m c]).run P w = .ok v' w' ∧ OwnN w' base e k v' (xs ++ ys) ∧ w.grownBy w' v.ownBlock ∧ (v'.ownBlock = v.ownBlock ∨ v'.ownBlock = some w.heap.size) := by
  cases ao with
  | some ad => exact run_appendN w t ty base e k bytes ht hi hby v xs hown (some ad) m c ys hm hat (fun h => by cases h) hbytes hbase
  | none =>
    have hy : ys = [] := by rcases hat with h | ⟨_, _, h, _⟩; exact h; cases h
    subst hy
    obtain rfl := hm
    obtain ⟨i, hi', hz0, hz1, hz2⟩ := info_parts hi
    obtain ⟨a, cap, rfl, h1, -⟩ := hown.read
    refine ⟨_, w, ?_, (by rw [List.append_nil]; exact hown), World.grownBy.refl w _, .inl rfl⟩
    cases a with
    | none => simp [Builtin.append_, run_underlying ht, sizeOf, typeInfo, hi', Builtin.lenOf, Builtin.firstCells, h1]
    | some ad => simp [Builtin.append_, run_underlying ht, sizeOf, typeInfo, hi', Builtin.lenOf, Builtin.firstCells, h1, storeCells]
section
attribute [local go_sem ↓] exec_app semAt_app
attribute [local go_sem] isApp_lit appA appX
end
end Go.Proofs.YtnjmdldhgconmaaGreatDoor
