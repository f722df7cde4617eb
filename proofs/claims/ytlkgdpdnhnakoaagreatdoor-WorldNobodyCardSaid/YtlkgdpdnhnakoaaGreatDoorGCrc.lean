/- GCrc: Crc2, Crc3 (Crc1 is CrA). -/
import Derived.Test.YtlkgdpdnhnakoaaGreatDoorGSecB
import Derived.Test.YtlkgdpdnhnakoaaGreatDoorGCpy
import Derived.Test.YtlkgdpdnhnakoaaGreatDoorCrA
import Derived.Deep.RegionHeld3
import Derived.Lib.QuietBelow
import Derived.Deep.QuietTactic
import Derived.BigQuiet

namespace Go.Proofs.YtlkgdpdnhnakoaaGreatDoor
open Go.RowKit

/-- What is sealed: length, bytes, zeros. -/
def inner (b : List Nat) : List Nat := [b.length / 256, b.length % 256, 0, 0] ++ b ++ List.replicate (1016 - b.length) 0
def sealC (b : List Nat) : List Nat := fourOf (crcOf (inner b)) ++ inner b
theorem inner_len {b : List Nat} (h : b.length ≤ 1016) : (inner b).length = 1020 := by simp [inner]; omega
theorem sealC_len {b : List Nat} (h : b.length ≤ 1016) : (sealC b).length = 1024 := by simp [sealC, fourOf, inner_len h]
theorem inner_bts {b : List Nat} (h : b.length ≤ 1016) (hb : Bts b) : Bts (inner b) := by
  unfold inner
  refine Bts.app (Bts.app ?_ hb) ?_
  · intro x hx
    simp at hx
    omega
  · intro x hx
    rw [List.eq_of_mem_replicate hx]; decide
theorem fourOf_bts {r : Nat} (h : r < 4294967296) : Bts (fourOf r) := by
  intro x hx
  simp [fourOf] at hx
  omega
theorem sealC_bts {b : List Nat} (h : b.length ≤ 1016) (hb : Bts b) : Bts (sealC b) :=
  (fourOf_bts (crcOf_lt _ (inner_bts h hb))).app (inner_bts h hb)
def sealP (b : List Nat) : List Nat × Nat := if b.length ≤ 1016 then (sealC b, 0) else ([], 5)
/-- The steps of Seal. -/
theorem seal_steps (x y n : Nat) : ((List.replicate (8 + n) 0).set 4 x).set 5 y = [0, 0, 0, 0, x, y, 0, 0] ++ List.replicate n 0 := by
  rw [← List.replicate_append_replicate]
  rfl
theorem seal_copy (b : List Nat) (x y n : Nat) :
    ([0, 0, 0, 0, x, y, 0, 0] ++ List.replicate n 0).take 8 ++ b ++ ([0, 0, 0, 0, x, y, 0, 0] ++ List.replicate n 0).drop (8 + b.length) = [0, 0, 0, 0] ++ ([x, y, 0, 0] ++ b ++ List.replicate (n - b.length) 0) := by
  rw [List.take_append_of_le_length (by simp), List.drop_append]
  simp [List.drop_replicate]
theorem seal_four (f l : List Nat) (hf : f.length = 4) : ([0, 0, 0, 0] ++ l).take 0 ++ f ++ ([0, 0, 0, 0] ++ l).drop (0 + f.length) = f ++ l := by
  rw [hf]; simp

section
attribute [local go_sem ↓] exec_cpy semAt_cpy
attribute [local go_sem] isCpy_lit appA appX
set_option maxRecDepth 100000 in
set_option maxHeartbeats 800000 in
/-- Seal, at a block's size. -/
theorem cr_seal (a : Option Addr) (n c : Nat) (b : List Nat) (hn : n = b.length) (hb : Bts b) (hnil : n ≤ c) (w : World) (hat : NatsAt w .u8 a b) :
    Calls Tryz.prog 446 #[.slice a n c, .int .i64 1024] w fun e w' => ∃ a' c', e = .returned (.tuple #[.slice a' (sealP b).1.length c', .int .i64 ((sealP b).2 : Nat)]) ∧ NatsAt w' .u8 a' (sealP b).1 ∧ (sealP b).1.length ≤ c' ∧ (∀ x, a' = some x → w.heap.size ≤ x.block) ∧ Same w w' := by
  subst hn
  by_cases hbig : b.length ≤ 1016
  · have hbi : ¬ (1016 : Int) < (b.length : Int) := by omega
    have e1 : sealP b = (sealC b, 0) := if_pos hbig
    rw [e1]
    have HE := Lib.hid (sealC_len hbig)
    obtain ⟨i0, hi, hz0, hz1, hz2⟩ := info_parts (show (Tryz.prog.info? 5).map (fun i => (i.zero, i.size, i.bytes)) = some (some (.int .u8 0), 1, 1) by kernel_rfl)
    obtain ⟨w1, hrun, hown, hgr⟩ := run_make_full (P := Tryz.prog) w w.heap.size 56 5 i0 (.int .u8 0) 1 Tryz.underlying56 hi hz0 hz1 .i64 .i64 1024 (by rw [hz2]; decide) (by decide) (Nat.le_refl _)
    have ho := OwnN.made hown
    have hmk : (Instr.makeSlice 56 (.int .i64 1024) (.int .i64 1024)).run Tryz.prog w = .ok (.slice (some ⟨w.heap.size, 0, none⟩) 1024 1024) w1 := hrun
    have K1 : Same w w1 := ⟨hgr.os, hgr.tape, hgr.output, hgr.size, fun k hk _ => hgr.block k hk (by simp)⟩
    have c4 := ho.cell (j := 4) (x := 0) List.length_replicate (by rw [List.getElem?_replicate]; simp)
    have c5 := ho.cell (j := 5) (x := 0) List.length_replicate (by rw [List.getElem?_replicate]; simp)
    have f4 := fun i => ho.free List.length_replicate i
    have e4 : (b.length : Int) / 256 = ((b.length / 256 : Nat) : Int) := by omega
    have e5 : (b.length : Int) % 256 = ((b.length % 256 : Nat) : Int) := by omega
    have o5 : OwnN ((w1.setCell ⟨w.heap.size, 4, none⟩ (.int .u8 ((b.length : Int) / 256))).setCell ⟨w.heap.size, 5, none⟩ (.int .u8 ((b.length : Int) % 256))) w.heap.size 5 .u8 (.slice (some ⟨w.heap.size, 0, none⟩) 1024 1024) ([0, 0, 0, 0, b.length / 256, b.length % 256, 0, 0] ++ List.replicate 1016 0) := by
      rw [e4, e5, ← seal_steps]
      exact (ho.set List.length_replicate 4 _).set (by rw [List.length_set]; exact List.length_replicate) 5 _
    have k5 : Kept (fun j => j = w.heap.size) w1 ((w1.setCell ⟨w.heap.size, 4, none⟩ (.int .u8 ((b.length : Int) / 256))).setCell ⟨w.heap.size, 5, none⟩ (.int .u8 ((b.length : Int) % 256))) := ((Kept.refl _ _).setG _ _).setG _ _
    have K5 : Same w ((w1.setCell ⟨w.heap.size, 4, none⟩ (.int .u8 ((b.length : Int) / 256))).setCell ⟨w.heap.size, 5, none⟩ (.int .u8 ((b.length : Int) % 256))) := K1.step k5 (fun i hi q => by omega)
    obtain ⟨w3, hcp, o3, k3⟩ := run_copyN (P := Tryz.prog) _ 56 56 3 5 .u8 Tryz.underlying56 (by kernel_rfl) w.heap.size w.heap.size 8 1024 1024 1016 1016 _ o5 (by simp) a b.length c b rfl (hat.same K5) (by omega) hbig
    rw [seal_copy] at o3
    obtain ⟨aok, aV, aW⟩ := cpy_of hcp
    have K3 := Lib.hid (K5.step k3 (fun i hi q => by omega))
    have hI : [b.length / 256, b.length % 256, 0, 0] ++ b ++ List.replicate (1016 - b.length) 0 = inner b := rfl
    rw [hI] at o3
    have O3 := Lib.hid o3
    have N3 := Lib.hid (show NatsAt w3 .u8 (some ⟨w.heap.size, 4, none⟩) (inner b) from by have := o3.nats.drop 4; rw [Nat.zero_add] at this; exact this)
    have IL := Lib.hid (inner_len hbig)
    have IB := Lib.hid (inner_bts hbig hb)
    have hgl := (ho.lt).2
    have hlb : (b.length : Int) < 65536 := by omega
    clear hi hz0 hz1 hz2 hgr hown ho hrun hcp o3 k3 o5 k5 K5 K1 e4 e5 hI
    obtain ⟨I, hI⟩ : ∃ I, inner b = I := ⟨_, rfl⟩
    have HSE : Hid (sealC b = fourOf (crcOf I) ++ I) := by show sealC b = _; unfold sealC; rw [hI]
    rw [hI] at O3 N3 IL IB
    clear hI
    go_enter Tryz.func446, Tryz.ntmps446
    go_wp2_with fail
    refine (cr_of _ 1020 _ I IL.out.symm IB.out w3 N3.out (by omega)).mono ?_
    rintro e w' ⟨rfl, rfl⟩
    go_wp2_with fail
    refine (cr_four (crcOf I) (crcOf_lt I IB.out) _).mono ?_
    rintro e w4 ⟨g4, rfl, n4, hg4, k4⟩
    obtain ⟨w6, hcp, o6, k6⟩ := run_copyN (P := Tryz.prog) w4 56 56 3 5 .u8 Tryz.underlying56 (by kernel_rfl) w.heap.size w.heap.size 0 1024 1024 1024 1024 _ (O3.out.same k4) (by rw [List.length_append, IL.out]; rfl) (some ⟨g4, 0, none⟩) 4 4 (fourOf (crcOf I)) rfl n4 (by simp [fourOf]) (by simp [fourOf])
    rw [seal_four _ _ rfl] at o6
    obtain ⟨aok2, aV2, aW2⟩ := cpy_of hcp
    have K6 := Lib.hid ((K3.out.trans k4).step k6 (fun i hi q => by omega))
    have O6 := Lib.hid o6
    clear hcp o6 k6 k4 n4 K3 O3 N3 aok aV aW
    go_wp2_with fail
    go_ret2
    refine ⟨some ⟨w.heap.size, 0, none⟩, 1024, ?_, ?_, ?_, (fun x hx => by cases hx; exact Nat.le_refl _), K6.out⟩
    · rw [HE.out]; rfl
    · show NatsAt w6 .u8 _ (sealC b)
      rw [HSE.out]; exact O6.out.nats
    · show (sealC b).length ≤ 1024
      rw [HE.out]; omega
  · have hbi : (1016 : Int) < (b.length : Int) := by omega
    have e1 : sealP b = ([], 5) := if_neg hbig
    rw [e1]
    go_enter Tryz.func446, Tryz.ntmps446
    go_wp2_with fail
    go_ret2
    exact ⟨none, 0, rfl, .inl rfl, Nat.le_refl _, (fun x hx => by cases hx), Kept.refl _ _⟩
end
end Go.Proofs.YtlkgdpdnhnakoaaGreatDoor

namespace Go.Proofs.YtlkgdpdnhnakoaaGreatDoor
open Go.RowKit Go.Sort

/-- The form of what is sealed. -/
def formOK (b : List Nat) : Prop := b.getD 6 0 = 0 ∧ b.getD 7 0 = 0 ∧ ∀ x ∈ b.drop (8 + (256 * b.getD 4 0 + b.getD 5 0)), x = 0
instance (b : List Nat) : Decidable (formOK b) := inferInstanceAs (Decidable (_ ∧ _ ∧ _))
def openP (b : List Nat) : List Nat × Nat :=
  if b.take 4 = fourOf (crcOf (b.drop 4)) then
    (if 256 * b.getD 4 0 + b.getD 5 0 ≤ 1016 then (if formOK b then ((b.drop 8).take (256 * b.getD 4 0 + b.getD 5 0), 0) else ([], 4)) else ([], 4))
  else ([], 10)
end Go.Proofs.YtlkgdpdnhnakoaaGreatDoor
