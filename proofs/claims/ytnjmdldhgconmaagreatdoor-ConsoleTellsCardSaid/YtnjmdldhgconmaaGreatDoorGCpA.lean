/- GCpA: Cp0, Cp1, Cp2, Cp3, Cp4, Cp5. -/
import Derived.Test.YtnjmdldhgconmaaGreatDoorGCn
import Derived.Test.YtnjmdldhgconmaaGreatDoorDc0
import Derived.Test.YtnjmdldhgconmaaGreatDoorGOrd
import Derived.Test.YtnjmdldhgconmaaGreatDoorSl2
import Derived.Test.YtnjmdldhgconmaaGreatDoorShelfC
import Derived.Sort.EncStr
import Derived.Deep.Cut
import Derived.Test.YtnjmdldhgconmaaGreatDoorGDb
import Derived.Lib.Builder
import Derived.Laws.Externs
import Derived.Lib.AppendStr
import Derived.Test.YtnjmdldhgconmaaGreatDoorHeldT
namespace Go.Proofs.YtnjmdldhgconmaaGreatDoor
open Go.RowKit Go.Sort
attribute [local go_sem ↓] exec_app semAt_app
attribute [local go_sem] isApp_lit appA appX

theorem conv_byt (l : Tx) (w : World) : ∃ c w', (convert 9 25 (encStr l)).run Tryz.prog w = .ok (.slice (some ⟨w.heap.size, 0, none⟩) l.length c) w' ∧ NatsAt w' .u8 (some ⟨w.heap.size, 0, none⟩) (natsU l) ∧ l.length ≤ c ∧ Same w w' := by
  have h := conv_bytes (natsU l) (natsU_bts l) w
  rw [strN_natsU, natsU_len] at h
  exact h
theorem has_pre (l : Tx) (p : Tx) (w : World) : Calls Tryz.prog 46 #[encStr l, encStr p] w fun e w' => e = .returned (.bool (Lib.hasPrefix l p)) ∧ w' = w :=
  Tryz.strings_HasPrefix ⟨l.toArray⟩ ⟨p.toArray⟩ w

set_option maxRecDepth 100000 in
set_option maxHeartbeats 800000 in
theorem co_plain (l : Tx) (hl : l.length ≤ 1000000) (w : World) :
    Calls Tryz.prog 27 #[encStr l] w fun e w' => e = .returned (.bool (plainT l)) ∧ Same w w' := by
  obtain ⟨cc, w1, hcv, hat, -, hk1⟩ := conv_byt l w
  have AT := Lib.hid hat; have K1 := Lib.hid hk1
  have z1 : w.heap.size ≤ w1.heap.size := hk1.size
  clear hat hk1
  go_enter Tryz.func27, Tryz.ntmps27
  go_wp2_with fail
  clear hcv
  go_loopw [8] (fun t wr => ∃ i : Nat, t = .int .i64 i ∧ i ≤ l.length ∧ (l.take i).all okC = true ∧ wr = w1) (fun t _ => l.length - (intOf t).toNat)
  case atStart => exact ⟨0, rfl, by omega, rfl, rfl⟩
  case round =>
    obtain ⟨i, rfl, hi, ho, rfl⟩ := hrel
    have HO := Lib.hid ho
    clear ho
    by_cases hgo : i < l.length
    · have g1 : (i : Int) < (l.length : Int) := by omega
      have g0 : (0 : Int) ≤ (i : Int) := by omega
      obtain ⟨ab, ao, y, hae, hab, hx, hc⟩ := AT.out.at (i := i) (by rw [natsU_len]; exact hgo)
      obtain ⟨rfl, rfl⟩ : w.heap.size = ab ∧ 0 = ao := by
        simp only [Option.some.injEq, Addr.mk.injEq, and_true] at hae
        exact hae
      rw [Nat.zero_add] at hc
      have hxy : (l[i]).toNat = y := by
        simp only [natsU, List.getElem?_map, List.getElem?_eq_getElem hgo, Option.map_some] at hx
        exact Option.some.inj hx
      clear hae hx
      by_cases hy : 33 ≤ y ∧ y ≤ 126
      · have TK := Lib.hid (show (l.take (i + 1)).all okC = true from by
          rw [List.take_add_one, List.getElem?_eq_getElem hgo, List.all_append, HO.out]
          simp [okC, hxy, hy.1, hy.2])
        have y1 : ¬ (y : Int) ≤ 32 := by omega
        have y2 : ¬ (126 : Int) < (y : Int) := by omega
        go_wp2_with fail
        go_roundw
        case rel => exact ⟨i + 1, by go_num, by omega, TK.out, trivial⟩
        case measure => simp [intOf]; omega
      · have PF := Lib.hid (show plainT l = false from by
          cases h : plainT l with
          | false => rfl
          | true =>
            have h1 := (plain_facts h).1
            rw [List.all_eq_true] at h1
            have h2 := h1 l[i] (List.getElem_mem hgo)
            simp only [okC, hxy, Bool.and_eq_true, decide_eq_true_eq] at h2
            exact absurd h2 hy)
        by_cases hy1 : y ≤ 32
        · have y1 : (y : Int) ≤ 32 := by omega
          go_wp2_with fail
          go_ret
          exact ⟨by rw [PF.out]; rfl, K1.out⟩
        · have y1 : ¬ (y : Int) ≤ 32 := by omega
          have y2 : (126 : Int) < (y : Int) := by omega
          go_wp2_with fail
          go_ret
          exact ⟨by rw [PF.out]; rfl, K1.out⟩
    · have g1 : ¬ (i : Int) < (l.length : Int) := by omega
      have e : i = l.length := by omega
      subst e
      rw [List.take_length] at HO
      have PE : Hid (l ≠ [] → plainT l = (!(Lib.hasPrefix l [45]) && !(Lib.hasPrefix l [120, 58]))) := by
        intro h0
        unfold plainT
        rw [HO.out, pre45, preX_eq]
        have : (l == []) = false := by simpa using h0
        rw [this]
        simp
      have P1 := Lib.hid (fun w => has_pre l [45] w)
      have P2 := Lib.hid (fun w => has_pre l [120, 58] w)
      obtain ⟨b1, hb1⟩ : ∃ b, Lib.hasPrefix l [45] = b := ⟨_, rfl⟩
      obtain ⟨b2, hb2⟩ : ∃ b, Lib.hasPrefix l [120, 58] = b := ⟨_, rfl⟩
      rw [hb1] at PE P1
      rw [hb2] at PE P2
      clear hb1 hb2
      by_cases h0 : l = []
      · subst h0
        go_wp2_with fail
        go_ret
        exact ⟨rfl, K1.out⟩
      · have PQ := Lib.hid (PE.out h0)
        have hie : List.isEmpty l = false := by simpa using h0
        clear PE h0
        go_wp2_with fail
        refine (P1.out _).mono ?_
        rintro e w3 ⟨rfl, rfl⟩
        cases b1 with
        | true =>
          go_wp2_with fail
          go_ret
          exact ⟨by rw [PQ.out]; rfl, K1.out⟩
        | false =>
          go_wp2_with fail
          refine (P2.out _).mono ?_
          rintro e w3 ⟨rfl, rfl⟩
          go_wp2_with fail
          go_ret
          exact ⟨by rw [PQ.out]; rfl, K1.out⟩
end Go.Proofs.YtnjmdldhgconmaaGreatDoor

namespace Go.Proofs.YtnjmdldhgconmaaGreatDoor
open Go.RowKit Go.Sort

/-- A Builder in block b: its slice of bytes v, what they are. -/
def BuAt (w : World) (B b : Nat) (v : Value) (xs : List Nat) : Prop :=
  (∃ p, (p = .pointer none ∨ p = .pointer (some ⟨b, 0, none⟩)) ∧ Blk w b #[p, v] 71) ∧ OwnN w B 5 .u8 v xs ∧ v.ownBlock ≠ some b
theorem bu_shape {w : World} {b : Nat} {p v : Value} (h : Blk w b #[p, v] 71) : w.shape? b = some (71, 2) := by
  unfold World.shape?
  rw [h]
  rfl

set_option maxRecDepth 100000 in
theorem bu_check (B b : Nat) (v : Value) (xs : List Nat) (w : World) (h : BuAt w B b v xs) :
    Calls Tryz.prog 53 #[.pointer (some ⟨b, 0, none⟩)] w fun e w' => e = .returned (.tuple #[]) ∧ Blk w' b #[.pointer (some ⟨b, 0, none⟩), v] 71 ∧ OwnN w' B 5 .u8 v xs ∧ Kept (fun k => k = b) w w' := by
  obtain ⟨⟨p, hp, hb⟩, ho, hv⟩ := h
  have p0 := cell_blk hb 0
  have f0 := Blk.free hb 0
  have hsh := bu_shape hb
  obtain ⟨j, hj, hjs⟩ : ∃ j, Tryz.prog.info? 71 = some j ∧ j.size = 2 := Option.map_eq_some_iff.1 (show (Tryz.prog.info? 71).map (fun i => i.size) = some 2 by kernel_rfl)
  have HO := Lib.hid ho; have HV := Lib.hid hv; have HB := Lib.hid hb; have HJ := Lib.hid hjs; have HSH := Lib.hid hsh; have HJJ := Lib.hid hj
  clear ho hv hb hjs hsh hj
  rcases hp with rfl | rfl
  · go_enter Tryz.func53, Tryz.ntmps53
    go_wp2_with fail
    rw [Lib.run_to_unsafe w ⟨b, 0, none⟩ Tryz.underlying69 Tryz.underlying129 HJJ.out (by rw [HJ.out]; decide) HSH.out (Nat.zero_lt_succ 1)]
    simp only [Result.andThen]
    rw [Oper.upon_value]
    go_wp2_with fail
    rw [run_callFunc_extern Tryz.func72 (by kernel_rfl) (by kernel_rfl) (by kernel_rfl) (e := Extern.AbiNoEscape.same) (by kernel_rfl)]
    rw [Lib.run_noEscape]
    simp only [Result.andThen]
    rw [Oper.upon_value]
    go_wp2_with fail
    rw [Lib.run_from_unsafe w ⟨b, 0, none⟩ Tryz.underlying129 Tryz.underlying69 HJJ.out HSH.out (by kernel_rfl)]
    simp only [Result.andThen]
    rw [Oper.upon_value]
    go_wp2_with fail
    go_end0
    exact ⟨rfl, HB.out.set 0 _, HO.out.kept ((Kept.refl (fun k => k = b) w).setCell (p := ⟨b, 0, none⟩) (fun _ => rfl) _) (fun g hg e => HV.out (by rw [hg]; exact congrArg some e)), (Kept.refl (fun k => k = b) w).setCell (p := ⟨b, 0, none⟩) (fun _ => rfl) _⟩
  · go_enter Tryz.func53, Tryz.ntmps53
    go_wp2_with fail
    rw [Lib.run_neq_ptr_same w _ Tryz.underlying69 HJJ.out]
    go_wp2
    go_end0
    exact ⟨rfl, HB.out, HO.out, Kept.refl _ _⟩
/-- A text's cells are its numbers. -/
theorem strCells_nats (l : Tx) : Lib.strCells ⟨l.toArray⟩ = (natsU l).map fun x => Value.int .u8 ((x : Nat) : Int) := by
  unfold Lib.strCells natsU
  rw [List.map_map]
  rfl
theorem bu_not {w : World} {B b : Nat} {v : Value} {xs : List Nat} {cs : Array Value} (hb : Blk w b cs 71) (ho : OwnN w B 5 .u8 v xs) : v.ownBlock ≠ some b := by
  intro e
  rcases ho.2 with ⟨rfl, _⟩ | ⟨g, cap, cur, rfl, _, hg, _⟩
  · cases e
  · obtain rfl : g = b := by simpa [Value.ownBlock] using e
    have hb' : w.heap[g]? = some (.cells cs 71 (0, 0)) := hb
    rw [hb'] at hg
    simp only [Option.some.injEq, Obj.cells.injEq] at hg
    exact absurd hg.2.1 (by decide)

set_option maxRecDepth 100000 in
theorem bu_wstr (B b : Nat) (v : Value) (xs : List Nat) (l : Tx) (w : World) (h : BuAt w B b v xs) (hlen : xs.length + l.length ≤ 100000000) (hB : B ≤ w.heap.size) :
    Calls Tryz.prog 34 #[.pointer (some ⟨b, 0, none⟩), encStr l] w fun e w' => ∃ v', e = .returned (.tuple #[.int .i64 l.length, .nilIface]) ∧ BuAt w' B b v' (xs ++ natsU l) ∧ Kept (fun k => k = b ∨ v.ownBlock = some k) w w' := by
  have CK := Lib.hid (bu_check B b v xs w h)
  have HV := Lib.hid h.2.2
  obtain ⟨j, hj, hjs⟩ := Option.map_eq_some_iff.1 (show (Tryz.prog.info? 5).map (fun i => (i.zero, i.size, i.bytes)) = some (some (.int .u8 0), 1, 1) by kernel_rfl)
  simp only [Prod.mk.injEq] at hjs
  obtain ⟨j0, j1, j2⟩ := hjs
  have J := Lib.hid hj; have J0 := Lib.hid j0; have J1 := Lib.hid j1; have J2 := Lib.hid j2
  have hs : (⟨l.toArray⟩ : ByteArray).size = l.length := by simp [ByteArray.size]
  have HS := Lib.hid hs
  clear h hj j0 j1 j2 hs
  go_enter Tryz.func34, Tryz.ntmps34
  go_wp2_with fail
  refine CK.out.mono ?_
  rintro e w1 ⟨rfl, hb, ho, hk⟩
  have z0 := hk.size
  have p0 := cell_blk hb 1
  have HB := Lib.hid hb; have HO := Lib.hid ho; have HK := Lib.hid hk
  clear hb ho hk
  go_wp2_with (at_builtin; refine Lib.wpList_append_own_string _ rfl _ _ 25 9 rfl B 5 j Tryz.underlying25 Tryz.underlying9 J.out J0.out J1.out J2.out v xs.length _ rfl HO.out ⟨l.toArray⟩ rfl (by rw [HS.out]; simp only [maxLen]; omega) (by rw [HS.out]; omega) (by omega) ?_)
  intro v' w2 ho2 hg _
  have hb2 : Blk w2 b #[.pointer (some ⟨b, 0, none⟩), v] 71 := (hg.block b HB.out.lt (fun e => HV.out e.symm)).trans HB.out
  have ho3 : OwnN w2 B 5 .u8 v' (xs ++ natsU l) := by
    rw [strCells_nats, ← List.map_append] at ho2
    unfold OwnN
    rw [List.length_append, natsU_len]
    exact ho2
  have q0 := cell_blk hb2 1
  have f0 := Blk.free hb2 1
  have K2 := Lib.hid ((HK.out.mono (fun _ _ h => Or.inl h : ∀ k, k < w.heap.size → k = b → (k = b ∨ v.ownBlock = some k))).grown hg (fun k hk _ => .inr hk))
  have HB2 := Lib.hid hb2; have HO2 := Lib.hid ho3
  obtain ⟨ao, n', cap, rfl⟩ : ∃ ao n' cap, v' = .slice ao n' cap := by
    rcases HO2.out.2 with ⟨hv, _⟩ | ⟨g, cap, cur, hv, _⟩
    · exact ⟨_, _, _, hv⟩
    · exact ⟨_, _, _, hv⟩
  clear ho2 hg hb2 ho3 HO HB HK
  go_wp2_with fail
  go_ret2
  have hb3 : Blk (w2.setCell ⟨b, 1, none⟩ (.slice ao n' cap)) b #[.pointer (some ⟨b, 0, none⟩), .slice ao n' cap] 71 := HB2.out.set 1 _
  have ho3 := HO2.out.kept ((Kept.refl (fun k => k = b) w2).setCell (p := ⟨b, 1, none⟩) (fun _ => rfl) (.slice ao n' cap)) (fun g hg e => bu_not HB2.out HO2.out (by rw [hg]; exact congrArg some e))
  exact ⟨_, rfl, ⟨⟨_, .inr rfl, hb3⟩, ho3, bu_not hb3 ho3⟩, K2.out.setCell (fun _ => .inl rfl) _⟩
attribute [local go_sem ↓] exec_app semAt_app
attribute [local go_sem] isApp_lit appA appX
set_option maxRecDepth 100000 in
theorem bu_write (B b : Nat) (v : Value) (xs : List Nat) (a : Option Addr) (n c : Nat) (ys : List Nat) (w : World) (h : BuAt w B b v xs) (hn : n = ys.length) (hat : NatsAt w .u8 a ys) (ha : ∀ x, a = some x → x.block ≠ b) (hlen : xs.length + ys.length ≤ 100000000) (hB : B ≤ w.heap.size) :
    Calls Tryz.prog 35 #[.pointer (some ⟨b, 0, none⟩), .slice a n c] w fun e w' => ∃ v', e = .returned (.tuple #[.int .i64 n, .nilIface]) ∧ BuAt w' B b v' (xs ++ ys) ∧ Kept (fun k => k = b ∨ v.ownBlock = some k) w w' ∧ (v'.ownBlock = v.ownBlock ∨ ∃ k, v'.ownBlock = some k ∧ w.heap.size ≤ k) := by
  have CK := Lib.hid (bu_check B b v xs w h)
  have HV := Lib.hid h.2.2
  have AT := Lib.hid hat; have HA := Lib.hid ha; have HN := Lib.hid hn
  clear h hat ha hn
  go_enter Tryz.func35, Tryz.ntmps35
  go_wp2_with fail
  refine CK.out.mono ?_
  rintro e w1 ⟨rfl, hb, ho, hk⟩
  have z0 := hk.size
  have p0 := cell_blk hb 1
  obtain ⟨v', w2, hrun, ho2, hg, hv2⟩ := run_appendB (P := Tryz.prog) w1 25 25 5 B .u8 1 Tryz.underlying25 (by kernel_rfl) (by decide) v xs ho a n c ys HN.out (AT.out.kept hk (fun x e => HA.out x e)) (by omega) (by omega)
  have hb2 : Blk w2 b #[.pointer (some ⟨b, 0, none⟩), v] 71 := (hg.block b hb.lt (fun e => HV.out e.symm)).trans hb
  have q0 := cell_blk hb2 1
  have f0 := Blk.free hb2 1
  obtain ⟨aok, aV, aW⟩ := app_of hrun
  have K2 := Lib.hid ((hk.mono (fun _ _ h => Or.inl h : ∀ k, k < w.heap.size → k = b → (k = b ∨ v.ownBlock = some k))).grown hg (fun k hk _ => .inr hk))
  have V2 := Lib.hid (show v'.ownBlock = v.ownBlock ∨ ∃ k, v'.ownBlock = some k ∧ w.heap.size ≤ k from hv2.imp id fun e => ⟨_, e, z0⟩)
  have HB2 := Lib.hid hb2; have HO2 := Lib.hid ho2
  obtain ⟨ao, n', cap, rfl⟩ : ∃ ao n' cap, v' = .slice ao n' cap := by
    rcases HO2.out.2 with ⟨hv, _⟩ | ⟨g, cap, cur, hv, _⟩
    · exact ⟨_, _, _, hv⟩
    · exact ⟨_, _, _, hv⟩
  clear ho2 hg hb2 hrun ho hb hk hv2 CK
  go_wp2_with fail
  go_ret2
  have hb3 : Blk (w2.setCell ⟨b, 1, none⟩ (.slice ao n' cap)) b #[.pointer (some ⟨b, 0, none⟩), .slice ao n' cap] 71 := HB2.out.set 1 _
  have ho3 := HO2.out.kept ((Kept.refl (fun k => k = b) w2).setCell (p := ⟨b, 1, none⟩) (fun _ => rfl) (.slice ao n' cap)) (fun g hg e => bu_not HB2.out HO2.out (by rw [hg]; exact congrArg some e))
  exact ⟨_, rfl, ⟨⟨_, .inr rfl, hb3⟩, ho3, bu_not hb3 ho3⟩, K2.out.setCell (fun _ => .inl rfl) _, V2.out⟩
end Go.Proofs.YtnjmdldhgconmaaGreatDoor

namespace Go.Proofs.YtnjmdldhgconmaaGreatDoor
open Go.RowKit Go.Sort
attribute [local go_sem ↓] exec_app semAt_app
attribute [local go_sem] isApp_lit appA appX

theorem cutC {P : Program} {c : Code} {Q : Exit → Act → World → Prop} {a : Act} {w : World} (R : World → Prop) (h : R w) (k : ∀ wn, R wn → Code.wp P c Q a wn) : Code.wp P c Q a w := k w h
theorem natsU_app (a b : Tx) : natsU (a ++ b) = natsU a ++ natsU b := by simp [natsU]
theorem hexT_snoc (a : Tx) (c : UInt8) : hexT (a ++ [c]) = hexT a ++ [hexD (c.toNat / 16), hexD (c.toNat % 16)] := by simp [hexT, List.flatMap_append]
theorem BuAt.kept {w w' : World} {B b : Nat} {v : Value} {xs : List Nat} {fp : Nat → Prop} (h : BuAt w B b v xs) (k : Kept fp w w') (hb : ¬ fp b) (hv : ∀ g, v.ownBlock = some g → ¬ fp g) : BuAt w' B b v xs := by
  obtain ⟨⟨p, hp, hB⟩, ho, hn⟩ := h
  exact ⟨⟨p, hp, hB.kept k hb⟩, ho.kept k hv, hn⟩
theorem hex_byte (z : Int) (h : 0 ≤ z ∧ z < 16) (hb : z.toNat < (⟨#[48, 49, 50, 51, 52, 53, 54, 55, 56, 57, 97, 98, 99, 100, 101, 102]⟩ : ByteArray).size) :
    (((⟨#[48, 49, 50, 51, 52, 53, 54, 55, 56, 57, 97, 98, 99, 100, 101, 102]⟩ : ByteArray)[z.toNat]'hb).toNat : Int) = ((hexD z.toNat).toNat : Nat) := by
  have key : ∀ n : Fin 16, ((⟨#[48, 49, 50, 51, 52, 53, 54, 55, 56, 57, 97, 98, 99, 100, 101, 102]⟩ : ByteArray)[n.val]'n.isLt).toNat = (hexD n.val).toNat := by decide
  have := key ⟨z.toNat, by omega⟩
  simpa using congrArg (fun n : Nat => (n : Int)) this
theorem and15 (y : Nat) (h : y < 256) : bits .and .u8 (y : Int) 15 = ((y % 16 : Nat) : Int) := by
  have key : ∀ n : Fin 256, bits .and .u8 (n.val : Int) 15 = ((n.val % 16 : Nat) : Int) := by decide +kernel
  exact key ⟨y, h⟩
theorem two_at (w : World) (x y : Nat) (t : TypeId) : NatsAt (w.alloc (.cells #[.int .u8 (x : Nat), .int .u8 (y : Nat)] t)) .u8 (some ⟨w.heap.size, 0, none⟩) [x, y] := by
  have hB := Blk.new w #[.int .u8 (x : Nat), .int .u8 (y : Nat)] t
  refine .inr ⟨w.heap.size, 0, rfl, hB.lt, fun i z hz => ?_⟩
  rw [cell_blk hB]
  match i, hz with
  | 0, hz => cases hz; rfl
  | 1, hz => cases hz; rfl
theorem co_str (B b : Nat) (v : Value) (l : Tx) (w : World) (h : BuAt w B b v (natsU l)) (hb : B ≤ b) (hB : B ≤ w.heap.size) :
    Calls Tryz.prog 36 #[.pointer (some ⟨b, 0, none⟩)] w fun e w' => e = .returned (encStr l) ∧ Below B w w' := by
  obtain ⟨⟨p, hp, hbl⟩, ho, hn⟩ := h
  have e : (natsU l).map (fun x => Value.int .u8 ((x : Nat) : Int)) = Lib.byteCells l := by
    unfold natsU Lib.byteCells
    rw [List.map_map]
    rfl
  have ho' : w.ownsRow B 5 1 v (Lib.byteCells l).length (Lib.byteCells l) := by
    have := ho
    unfold OwnN at this
    rw [e, natsU_len] at this
    rw [Lib.byteCells_length]
    exact this
  have hI : Lib.IsBuilderF 71 5 B b (Lib.byteCells l) w := by
    rcases hp with rfl | rfl
    · exact .inl ⟨hb, v, hbl, World.ownsRowF_of ho', hn⟩
    · exact .inr ⟨hb, v, hbl, World.ownsRowF_of ho', hn⟩
  exact (Tryz.Builder_String_any_f B b l w hI hB).mono fun e w' h => ⟨h.1, h.2.2⟩

set_option maxRecDepth 100000 in
set_option maxHeartbeats 1600000 in
theorem co_word (l : Tx) (hl : l.length ≤ 1000000) (w : World) :
    Calls Tryz.prog 12 #[encStr l] w fun e w' => e = .returned (encStr (wordT l)) ∧ Same w w' := by
  by_cases h0 : l = []
  · subst h0
    go_enter Tryz.func12, Tryz.ntmps12
    go_wp2_with fail
    go_ret
    exact ⟨rfl, Kept.refl _ _⟩
  have hie : List.isEmpty l = false := by simpa using h0
  have PL := Lib.hid (co_plain l hl w)
  cases hp : plainT l with
  | true =>
    have e := word_plain hp
    rw [hp] at PL
    rw [e]
    clear e hp h0
    go_enter Tryz.func12, Tryz.ntmps12
    go_wp2_with fail
    refine PL.out.mono ?_
    rintro e w1 ⟨rfl, hk⟩
    have K1 := Lib.hid hk
    clear hk PL
    go_wp2_with fail
    go_ret
    exact ⟨rfl, K1.out⟩
  | false =>
    have WE := Lib.hid (word_hex h0 hp)
    rw [hp] at PL
    clear hp h0
    go_enter Tryz.func12, Tryz.ntmps12
    go_wp2_with fail
    refine PL.out.mono ?_
    rintro e w1 ⟨rfl, hk⟩
    have K1 := Lib.hid hk
    have z1 := hk.size
    clear hk PL
    go_upto_region 6 with fail
    obtain ⟨b, hb⟩ : ∃ b, w1.heap.size = b := ⟨_, rfl⟩
    rw [hb]
    refine cutC (fun wn => BuAt wn b b (.slice none 0 0) [] ∧ Same w wn ∧ b < wn.heap.size) ⟨⟨⟨_, .inl rfl, Blk.new' _ _ _ hb.symm⟩, World.ownsRow_nil _ _ _ _, by simp [Value.ownBlock]⟩, K1.out.alloc _, by simp [hb]⟩ ?_
    rintro w2 ⟨hbu, hk2, hz2⟩
    have ZB : Hid (w.heap.size ≤ b) := by show _ ≤ _; omega
    have K2 := Lib.hid hk2
    have WS := Lib.hid (bu_wstr b b (.slice none 0 0) [] [120, 58] w2 hbu (by decide) (by omega))
    clear hbu hk2 K1 hb
    go_wp2_with fail
    refine WS.out.mono ?_
    rintro e w3 ⟨v3, rfl, hbu, hk⟩
    have hk3 : Same w w3 := K2.out.step hk (fun k hk => by rintro (rfl | h); · have := ZB.out; omega
                                                           · cases h)
    have z3 := hk.size
    obtain ⟨cc, w4, hcv, hat, -, hk4⟩ := conv_byt l w3
    have hbl : b < w3.heap.size := by omega
    have hbu4 := hbu.kept hk4 (fun h => h) (fun _ _ h => h)
    have hvm : v3.ownBlock ≠ some w3.heap.size := fun e => by have := (World.ownsRow.lt hbu.2.1 _ e).2; omega
    obtain ⟨m, hm⟩ : ∃ m, w3.heap.size = m := ⟨_, rfl⟩
    rw [hm] at hat hcv hvm
    have HM : Hid (b < m ∧ b < w4.heap.size) := by show _ ∧ _; have := hk4.size; omega
    have AT := Lib.hid hat; have K4 := Lib.hid (hk3.trans hk4); have BU := Lib.hid hbu4; have VM := Lib.hid hvm
    clear hat hk3 hk4 hbu hbu4 hk WS K2 hbl hz2 z3 hvm
    go_wp2_with fail
    clear hcv hm
    have ZM4 := Lib.hid (show m < w4.heap.size from by
      rcases AT.out with e | ⟨b', off, e, hlt, _⟩
      · have h1 := congrArg List.length e
        rw [natsU_len] at h1
        have h2 : l = [] := List.eq_nil_of_length_eq_zero h1
        rw [h2] at hie
        cases hie
      · cases e
        exact hlt)
    go_loopw [17] (fun t wr => ∃ (i : Nat) (v : Value), t = .int .i64 i ∧ i ≤ l.length ∧ BuAt wr b b v (natsU (120 :: 58 :: hexT (l.take i))) ∧ NatsAt wr .u8 (some ⟨m, 0, none⟩) (natsU l) ∧ v.ownBlock ≠ some m ∧ b ≤ wr.heap.size ∧ m < wr.heap.size ∧ Same w wr) (fun t _ => l.length - (intOf t).toNat)
    case atStart => exact ⟨0, v3, rfl, by omega, BU.out, AT.out, VM.out, Nat.le_of_lt HM.out.2, ZM4.out, K4.out⟩
    case round =>
      obtain ⟨i, v, rfl, hi, hbu, hat, hvm, hz, hzm, hk⟩ := hrel
      have BR := Lib.hid hbu; have ATR := Lib.hid hat; have VR := Lib.hid hvm; have KR := Lib.hid hk; have ZR := Lib.hid hz; have ZM := Lib.hid hzm
      clear hbu hat hvm hk hz hzm
      by_cases hgo : i < l.length
      · have g1 : (i : Int) < (l.length : Int) := by omega
        have g0 : (0 : Int) ≤ (i : Int) := by omega
        obtain ⟨ab, ao, y, hae, hab, hx, hc⟩ := ATR.out.at (i := i) (by rw [natsU_len]; exact hgo)
        obtain ⟨rfl, rfl⟩ : m = ab ∧ 0 = ao := by
          simp only [Option.some.injEq, Addr.mk.injEq, and_true] at hae
          exact hae
        rw [Nat.zero_add] at hc
        have hxy : (l[i]).toNat = y := by
          simp only [natsU, List.getElem?_map, List.getElem?_eq_getElem hgo, Option.map_some] at hx
          exact Option.some.inj hx
        have hy : y < 256 := by have := (l[i]).toNat_lt; omega
        have TK := Lib.hid (show natsU (120 :: 58 :: hexT (l.take (i + 1))) = natsU (120 :: 58 :: hexT (l.take i)) ++ [(hexD (y / 16)).toNat, (hexD (y % 16)).toNat] from by
          rw [List.take_add_one, List.getElem?_eq_getElem hgo]
          simp only [Option.toList_some]
          rw [hexT_snoc, hxy, ← List.cons_append, ← List.cons_append, natsU_app]
          rfl)
        have HXY := Lib.hid hxy
        clear hae hx hxy
        go_upto_region 10 with fail
        refine wp_region_T (S := fun _ => True) 7 (by kernel_rfl) trivial (fun hHeld hDn => ?_)
        refine wpT_zs 0 21 hHeld hDn fun hDn => ?_
        refine wpT_zs 3 24 hHeld hDn fun hDn => ?_
        refine wpT_zs 1 22 hHeld hDn fun hDn => ?_
        refine wpT_zs 4 25 hHeld hDn fun hDn => ?_
        refine wpT_zs 2 23 (v := .int .u8 ((hexD (y / 16)).toNat : Nat)) hHeld hDn (fun hDn => ?_) (hv := by
          intro w _
          go_simp
          rw [dif_pos (by omega), hex_byte _ (by omega), show ((y : Int) / 16).toNat = y / 16 by omega]
          rfl)
        refine wpT_zs 5 26 (v := .int .u8 ((hexD (y % 16)).toNat : Nat)) hHeld hDn (fun hDn => ?_) (hv := by
          intro w _
          go_simp
          simp only [and15 y hy]
          rw [dif_pos (by omega), hex_byte _ (by omega), show (((y % 16 : Nat) : Int)).toNat = y % 16 by omega]
          rfl)
        have kA : Same wr (wr.drew.alloc (.cells #[.int .u8 ((hexD (y / 16)).toNat : Nat), .int .u8 ((hexD (y % 16)).toNat : Nat)] 5)) := ((Kept.refl _ wr).drew).alloc _
        have WR := Lib.hid (bu_write b b v _ (some ⟨wr.drew.heap.size, 0, none⟩) 2 2 [(hexD (y / 16)).toNat, (hexD (y % 16)).toNat] _ (BR.out.kept kA (fun h => h) (fun _ _ h => h)) rfl (two_at wr.drew _ _ 5) (fun x e => by cases e; show wr.heap.size ≠ b; have := ZR.out; have := ZM.out; have := HM.out; omega) (by rw [natsU_len, List.length_cons, List.length_cons, hexT_len, List.length_take]; show _ + 2 ≤ _; omega) (by have := kA.size; have := ZR.out; omega))
        have KA := Lib.hid kA
        clear kA
        refine wpT_one (i := 6) rfl (by kernel_rfl) hDn (fun K' hK => ?_)
        go_simp
        refine hK.out _ _ trivial (fun hHeld2 hDn2 => ?_)
        clear hK K' hHeld hDn
        have hHeld := hHeld2; have hDn := hDn2
        clear hHeld2 hDn2
        refine wpT_last rfl (by kernel_rfl) hDn (fun K hK => ?_)
        go_simp
        refine WR.out.mono ?_
        rintro e w5 ⟨v5, rfl, hb5, hk5, hv5⟩
        have B5 := Lib.hid (show BuAt w5 b b v5 (natsU (120 :: 58 :: hexT (l.take (i + 1)))) from by rw [TK.out]; exact hb5)
        have zA := KA.out.size
        have zB := hk5.size
        have V5 := Lib.hid (show v5.ownBlock ≠ some m from fun e => by
          rcases hv5 with h | ⟨k, h, hk⟩
          · exact VR.out (h.symm.trans e)
          · have h2 : k = m := Option.some.inj (h.symm.trans e)
            have := ZM.out
            omega)
        have A5 := Lib.hid ((ATR.out.same KA.out).kept hk5 (fun x e h => by
          cases e
          rcases h with h | h
          · have : m = b := h
            have := HM.out
            omega
          · exact VR.out h))
        have K5 := Lib.hid ((KR.out.trans KA.out).step hk5 (fun k hk h => by
          have := ZB.out
          rcases h with h | h
          · omega
          · have := (World.ownsRow.lt BR.out.2.1 _ h).1
            omega))
        have Z5 := Lib.hid (show b ≤ w5.heap.size ∧ m < w5.heap.size by have := ZR.out; have := ZM.out; omega)
        clear hb5 hk5 hv5 TK WR
        refine hK.out _ _ (fun hDn' => ?_)
        clear hK K hDn hHeld; have hDn := hDn'; clear hDn'
        refine wpT_done (by kernel_rfl) ?_ _
        clear hDn
        go_wp2_with fail
        go_roundw
        case rel => exact ⟨i + 1, v5, by go_num, by omega, B5.out, A5.out, V5.out, Z5.out.1, Z5.out.2, K5.out⟩
        case measure => simp [intOf]; omega
      · have g1 : ¬ (i : Int) < (l.length : Int) := by omega
        have e : i = l.length := by omega
        subst e
        rw [List.take_length] at BR
        have ST := Lib.hid (co_str b b v (120 :: 58 :: hexT l) wr BR.out (Nat.le_refl _) ZR.out)
        clear BR
        go_wp2_with fail
        refine ST.out.mono ?_
        rintro e w6 ⟨rfl, h6⟩
        have K6 := Lib.hid (show Same w w6 from Kept.of_below (((KR.out.below (B := w.heap.size) (Nat.le_refl _) (fun _ _ h => h))).trans (h6.mono ZB.out)))
        clear h6 ST
        go_wp2_with fail
        go_ret
        exact ⟨by rw [WE.out]; rfl, K6.out⟩
end Go.Proofs.YtnjmdldhgconmaaGreatDoor

namespace Go.Proofs.YtnjmdldhgconmaaGreatDoor
open Go.RowKit Go.Sort

/-- A number, some of whose last digits are told. -/
def Digs (N k : Nat) (s : Tx) : Prop := (k = N ∧ s = []) ∨ (s ≠ [] ∧ (if k = 0 then s else digT k ++ s) = digT N)
theorem digs_step {N k : Nat} {s : Tx} (h : Digs N k s) (hg : 0 < k ∨ s = []) : Digs N (k / 10) (UInt8.ofNat (48 + k % 10) :: s) := by
  refine .inr ⟨by simp, ?_⟩
  rcases h with ⟨rfl, rfl⟩ | ⟨h1, h2⟩
  · by_cases hk : k < 10
    · rw [if_pos (by omega), dig_small hk, Nat.mod_eq_of_lt hk]
    · rw [if_neg (by omega), dig_more hk]
  · have hk0 : 0 < k := hg.resolve_right h1
    rw [if_neg (by omega)] at h2
    rw [← h2]
    by_cases hk : k < 10
    · rw [if_pos (by omega), dig_small hk, Nat.mod_eq_of_lt hk]; rfl
    · rw [if_neg (by omega), dig_more hk, List.append_assoc]; rfl
theorem digs_end {N : Nat} {s : Tx} (h : Digs N 0 s) (hs : s ≠ []) : s = digT N := by
  rcases h with ⟨_, h⟩ | ⟨_, h⟩
  · exact absurd h hs
  · simpa using h

theorem dig_len (m : Nat) : ∀ N : Nat, N < 10 ^ (m + 1) → (digT N).length ≤ m + 1 := by
  induction m with
  | zero => intro N h; rw [dig_small (by omega)]; simp
  | succ m ih =>
    intro N h
    by_cases hN : N < 10
    · rw [dig_small hN]; simp
    · rw [dig_more hN, List.length_append]
      have := ih (N / 10) (by rw [Nat.pow_succ] at h; omega)
      simp only [List.length_cons, List.length_nil]
      omega
theorem digs_len {N k : Nat} {t : Tx} (h : Digs N k t) (hN : (N : Int) ≤ 9223372036854775808) : t.length ≤ 30 := by
  have hd := dig_len 18 N (by omega)
  rcases h with ⟨_, rfl⟩ | ⟨_, h⟩
  · simp
  · have := congrArg List.length h
    split at this
    · omega
    · rw [List.length_append] at this; omega
theorem str_cons (c : UInt8) (t : Tx) : ((⟨#[c]⟩ : ByteArray) ++ (⟨t.toArray⟩ : ByteArray)) = ⟨(c :: t).toArray⟩ := by
  apply ByteArray.ext
  rw [ByteArray.data_append]
  simp
theorem str_dig (k : Nat) (t : Tx) : ((⟨#[48, 49, 50, 51, 52, 53, 54, 55, 56, 57, 97, 98, 99, 100, 101, 102]⟩ : ByteArray).extract (k % 10) (k % 10 + 1) ++ (⟨t.toArray⟩ : ByteArray)) = ⟨(UInt8.ofNat (48 + k % 10) :: t).toArray⟩ := by
  have key : ∀ d : Fin 10, (⟨#[48, 49, 50, 51, 52, 53, 54, 55, 56, 57, 97, 98, 99, 100, 101, 102]⟩ : ByteArray).extract d.val (d.val + 1) = ⟨#[UInt8.ofNat (48 + d.val)]⟩ := by decide +kernel
  rw [key ⟨k % 10, by omega⟩, str_cons]
def tmN (t : Value) : Nat := match t with
  | .string ⟨a⟩ => if a.size = 0 then 1 else 0
  | _ => 0
theorem tmN_nil : tmN (.string ⟨#[]⟩) = 1 := rfl
theorem tmN_cons (c : UInt8) (t : Tx) : tmN (.string ⟨(c :: t).toArray⟩) = 0 := by simp [tmN]
theorem tmN_enc (t : Tx) (h : t ≠ []) : tmN (encStr t) = 0 := by
  cases t with
  | nil => exact absurd rfl h
  | cons c t => exact tmN_cons c t

set_option maxRecDepth 100000 in
set_option maxHeartbeats 1600000 in
theorem co_num (n : Int) (h1 : -9223372036854775808 ≤ n) (h2 : n ≤ 9223372036854775807) (w : World) :
    Calls Tryz.prog 15 #[.int .i64 n] w fun e w' => e = .returned (encStr (numT n)) ∧ w' = w := by
  obtain ⟨N, hN⟩ : ∃ N : Nat, N = n.natAbs := ⟨_, rfl⟩
  have NT : Hid (numT n = if n < 0 then 45 :: digT N else digT N) := by
    show _ = _
    unfold numT
    split
    · congr 2; omega
    · congr 1; omega
  have hnn : n = if n < 0 then -(N : Int) else (N : Int) := by split <;> omega
  have hNl : (N : Int) ≤ 9223372036854775808 := by omega
  clear hN
  obtain ⟨s, hs⟩ : ∃ s : Bool, decide (n < 0) = s := ⟨_, rfl⟩
  cases s with
  | true =>
    have hneg : n < 0 := of_decide_eq_true hs
    rw [if_pos hneg] at hnn NT
    clear hs
    subst hnn
    rw [NT.out]
    clear NT
    go_enter Tryz.func15, Tryz.ntmps15
    have hw : IntKind.u64.wrap (-IntKind.u64.wrap (-(N : Int))) = (N : Int) := by
      simp only [IntKind.wrap, IntKind.signed, IntKind.bits]
      simp
      omega
    have hN0 : (0 : Int) < (N : Int) := by omega
    go_wp2_with fail
    clear hw
    go_loopw [3, 4] (fun u s wr => ∃ (k : Nat) (t : Tx), u = .int .u64 k ∧ s = encStr t ∧ k ≤ N ∧ Digs N k t ∧ wr = w) (fun u s _ => (intOf u).toNat + tmN s)
    case atStart => exact ⟨N, [], rfl, rfl, Nat.le_refl _, .inl ⟨rfl, rfl⟩, rfl⟩
    case round =>
      obtain ⟨k, t, rfl, rfl, hk, hd, rfl⟩ := hrel
      by_cases hgo : 0 < k ∨ t = []
      · have DS := Lib.hid (digs_step hd hgo)
        have hl := digs_len hd hNl
        clear hd
        by_cases hk0 : 0 < k
        · have g1 : (0 : Int) < (k : Int) := by omega
          go_upto_region 6 with fail
          go_wp2_with fail
          rw [str_dig, tmN_cons]
          refine ⟨⟨k / 10, _, by go_num, rfl, by omega, DS.out, trivial⟩, ?_⟩
          simp [intOf]
          omega
        · obtain rfl : t = [] := hgo.resolve_left hk0
          obtain rfl : k = 0 := by omega
          go_upto_region 6 with fail
          go_wp2_with fail
          rw [show ((⟨#[48, 49, 50, 51, 52, 53, 54, 55, 56, 57, 97, 98, 99, 100, 101, 102]⟩ : ByteArray).extract 0 1 ++ (⟨#[]⟩ : ByteArray)) = ⟨(UInt8.ofNat (48 + 0 % 10) :: ([] : Tx)).toArray⟩ from str_dig 0 [], tmN_cons]
          refine ⟨⟨0, _, rfl, rfl, by omega, DS.out, trivial⟩, ?_⟩
          rw [show tmN (encStr []) = 1 from rfl]
          simp [intOf]
      · have k0 : k = 0 := by omega
        subst k0
        have t0 : t ≠ [] := fun e => hgo (.inr e)
        have hie : List.isEmpty t = false := by simpa using t0
        obtain rfl := digs_end hd t0
        have hdl := dig_len 18 N (by omega)
        clear hgo t0 hd
        go_wp2_with fail
        go_ret; exact ⟨congrArg (fun s => Ending.returned (Value.string s)) (str_cons 45 (digT N)), rfl⟩
  | false =>
    have hneg : ¬ n < 0 := of_decide_eq_false hs
    rw [if_neg hneg] at hnn NT
    clear hs
    subst hnn
    rw [NT.out]
    clear hneg h1 NT
    go_enter Tryz.func15, Tryz.ntmps15
    go_wp2_with fail
    go_loopw [3, 4] (fun u s wr => ∃ (k : Nat) (t : Tx), u = .int .u64 k ∧ s = encStr t ∧ k ≤ N ∧ Digs N k t ∧ wr = w) (fun u s _ => (intOf u).toNat + tmN s)
    case atStart => exact ⟨N, [], rfl, rfl, Nat.le_refl _, .inl ⟨rfl, rfl⟩, rfl⟩
    case round =>
      obtain ⟨k, t, rfl, rfl, hk, hd, rfl⟩ := hrel
      by_cases hgo : 0 < k ∨ t = []
      · have DS := Lib.hid (digs_step hd hgo)
        have hl := digs_len hd hNl
        clear hd
        by_cases hk0 : 0 < k
        · have g1 : (0 : Int) < (k : Int) := by omega
          go_upto_region 6 with fail
          go_wp2_with fail
          rw [str_dig, tmN_cons]
          refine ⟨⟨k / 10, _, by go_num, rfl, by omega, DS.out, trivial⟩, ?_⟩
          simp [intOf]
          omega
        · obtain rfl : t = [] := hgo.resolve_left hk0
          obtain rfl : k = 0 := by omega
          go_upto_region 6 with fail
          go_wp2_with fail
          rw [show ((⟨#[48, 49, 50, 51, 52, 53, 54, 55, 56, 57, 97, 98, 99, 100, 101, 102]⟩ : ByteArray).extract 0 1 ++ (⟨#[]⟩ : ByteArray)) = ⟨(UInt8.ofNat (48 + 0 % 10) :: ([] : Tx)).toArray⟩ from str_dig 0 [], tmN_cons]
          refine ⟨⟨0, _, rfl, rfl, by omega, DS.out, trivial⟩, ?_⟩
          rw [show tmN (encStr []) = 1 from rfl]
          simp [intOf]
      · have k0 : k = 0 := by omega
        subst k0
        have t0 : t ≠ [] := fun e => hgo (.inr e)
        have hie : List.isEmpty t = false := by simpa using t0
        obtain rfl := digs_end hd t0
        have hdl := dig_len 18 N (by omega)
        clear hgo t0 hd
        go_wp2_with fail
        go_ret; exact ⟨rfl, rfl⟩
end Go.Proofs.YtnjmdldhgconmaaGreatDoor

namespace Go.Proofs.YtnjmdldhgconmaaGreatDoor
open Go.RowKit Go.Sort
attribute [local go_sem ↓] exec_app semAt_app
attribute [local go_sem] isApp_lit appA appX

section
variable {P : Program} {md : Region.Mode} {ops : Array Oper} {Q : Exit → Act → World → Prop} {S : World → Prop} {s : Nat}
/-- One alone comes up, behind s. -/
theorem wpT_oneF {i : Nat} {o : Oper} {f : Nat} {l : Array Bool} {a : Act} {w : World} (his : (i == s) = false) (hl : l.getD s false = true) (ho : ops[i]? = some o) (hr : Region.ready md ops l = [i]) (hD : DownL md ops l)
    (h : ∀ K' : Act → World → Prop, Shut (∀ a w, (DownL md ops (l.setIfInBounds i true) → wpT P md ops Q S s f (l.setIfInBounds i true) a w) → K' a w) → if Region.wanted o (yielded ops a.tmps) = true then Oper.wp P o a w K' Q else K' (a.put o.dst undef) w) :
    wpT P md ops Q S s (f + 1) l a w := by
  refine ⟨fun q => (by rw [q] at hr; cases hr), fun j hj => ?_⟩
  have hji : j = i := by rw [hr] at hj; simpa using hj
  subst hji
  exact wpOp_step ho (fun K' hK => h K' (fun a w hW => hK a w ⟨.inr (by rw [getD_set_ne false (by simpa using his)]; exact hl), hW (hD.next hj)⟩))
end
/-- What unhex tells. -/
def unhexP (l : Tx) : Tx × Bool := if l = [] ∨ l.length % 2 ≠ 0 then ([], false) else match unhexT l with
  | some s => (s, true)
  | none => ([], false)
theorem str_at0 (a : UInt8) (r : Tx) (h : 0 < (⟨(a :: r).toArray⟩ : ByteArray).size) : ((⟨(a :: r).toArray⟩ : ByteArray)[0]'h) = a := rfl
theorem str_at1 (a b : UInt8) (r : Tx) (h : 1 < (⟨(a :: b :: r).toArray⟩ : ByteArray).size) : ((⟨(a :: b :: r).toArray⟩ : ByteArray)[1]'h) = b := rfl
theorem str_drop2 (a b : UInt8) (r : Tx) (n : Nat) (hn : n = r.length + 2) : (⟨(a :: b :: r).toArray⟩ : ByteArray).extract 2 n = ⟨r.toArray⟩ := by
  apply ByteArray.ext
  rw [ByteArray.data_extract]
  subst hn
  simp
theorem idx_byte (c : UInt8) (w : World) : Calls Tryz.prog 45 #[encStr hexS, .int .u8 (c.toNat : Nat)] w fun e w' => e = .returned (.int .i64 (if halfN c ≤ 15 then (halfN c : Int) else -1)) ∧ w' = w := by
  have h := Tryz.strings_IndexByte ⟨hexS.toArray⟩ (c.toNat : Nat) w
  have e : ((c.toNat : Nat) : Int).toNat.toUInt8 = c := by simp
  rw [e, show (⟨hexS.toArray⟩ : ByteArray).data.toList = hexS from rfl, hex_index] at h
  exact h
theorem or_hex (a b : Nat) (ha : a ≤ 15) (hb : b ≤ 15) : bits .or .i64 ((a : Int) * 16) (b : Int) = ((16 * a + b : Nat) : Int) := by
  have key : ∀ a b : Fin 16, bits .or .i64 ((a.val : Int) * 16) (b.val : Int) = ((16 * a.val + b.val : Nat) : Int) := by decide +kernel
  exact key ⟨a, by omega⟩ ⟨b, by omega⟩

set_option maxRecDepth 100000 in
set_option maxHeartbeats 1600000 in
theorem co_unhex (l : Tx) (hl : l.length ≤ 1000000) (w : World) :
    Calls Tryz.prog 26 #[encStr l] w fun e w' => e = .returned (.tuple #[encStr (unhexP l).1, .bool (unhexP l).2]) ∧ Same w w' := by
  obtain ⟨r, hr⟩ : ∃ r, unhexP l = r := ⟨_, rfl⟩
  by_cases h0 : l = []
  · subst h0
    go_enter Tryz.func26, Tryz.ntmps26
    go_wp2_with fail
    go_ret2
    exact ⟨rfl, Kept.refl _ _⟩
  have hie : List.isEmpty l = false := by simpa using h0
  by_cases h2 : l.length % 2 = 1
  · have hr2 : r = ([], false) := by rw [← hr]; unfold unhexP; rw [if_pos (.inr (by omega))]
    rw [hr, hr2]
    clear hr hr2 h0
    go_enter Tryz.func26, Tryz.ntmps26
    go_wp2_with fail
    go_ret2
    exact ⟨rfl, Kept.refl _ _⟩
  have HR := Lib.hid (show (unhexT l).elim (([], false) : Tx × Bool) (fun s => (s, true)) = unhexP l by
    unfold unhexP
    rw [if_neg (by rintro (h | h); · exact h0 h
                   · omega)]
    cases unhexT l <;> rfl)
  have h2' : l.length % 2 = 0 := by omega
  clear hr h2 h0
  go_enter Tryz.func26, Tryz.ntmps26
  go_wp2_with fail
  go_loopw [0, 4] (fun s0 v wr => ∃ (rest t : Tx), s0 = encStr rest ∧ rest.length % 2 = 0 ∧ t.length + rest.length ≤ 1000000 ∧ unhexT l = (unhexT rest).map (t ++ ·) ∧ OwnN wr w.heap.size 5 .u8 v (natsU t) ∧ Same w wr) (fun s0 _ _ => match s0 with | .string a => a.size | _ => 0)
  case atStart => exact ⟨l, [], rfl, h2', by simpa using hl, by cases unhexT l <;> rfl, World.ownsRow_nil _ _ _ _, Kept.refl _ _⟩
  case round =>
    obtain ⟨rest, t, rfl, he, hlen, hu, ho, hk⟩ := hrel
    have HO := Lib.hid ho; have HK := Lib.hid hk; have HU := Lib.hid hu
    clear ho hk hu
    match rest, he, hlen, HU with
    | [], he, hlen, HU =>
      have HRR := Lib.hid (show unhexP l = (t, true) by rw [← HR.out, HU.out]; simp [unhexT])
      obtain ⟨ao, n', cap, rfl, hn, -, hat, -⟩ := HO.out.rd
      have hcv := conv_str ao n' cap (natsU t) wr hn.out hat
      rw [strN_natsU] at hcv
      clear hn HO hat
      go_wp2_with fail
      go_ret2
      exact ⟨by rw [HRR.out]; rfl, HK.out⟩
    | [_], he, _, _ => simp at he
    | a :: b :: r, he, hlen, HU =>
      simp only [List.length_cons] at he hlen
      have IA := Lib.hid (fun w => idx_byte a w)
      have IB := Lib.hid (fun w => idx_byte b w)
      obtain ⟨ia, hia⟩ : ∃ x : Int, (if halfN a ≤ 15 then (halfN a : Int) else -1) = x := ⟨_, rfl⟩
      obtain ⟨ib, hib⟩ : ∃ x : Int, (if halfN b ≤ 15 then (halfN b : Int) else -1) = x := ⟨_, rfl⟩
      rw [hia] at IA
      rw [hib] at IB
      have HIA := Lib.hid hia; have HIB := Lib.hid hib
      clear hia hib
      go_upto_region 6 with fail
      refine wp_region_T (S := fun _ => True) 2 (by kernel_rfl) trivial (fun hHeld hDn => ?_)
      refine wpT_zs 0 19 hHeld hDn fun hDn => ?_
      refine wpT_zs 1 20 (v := .int .u8 (a.toNat : Nat)) hHeld hDn (fun hDn => ?_) (hv := by intro w _; go_simp; rw [dif_pos (by omega)]; rfl)
      refine wpT_zw 3 22 hHeld hDn fun hDn => ?_
      refine wpT_zw 4 23 (v := .int .u8 (b.toNat : Nat)) hHeld hDn (fun hDn => ?_) (hv := by intro w _; go_simp; rw [dif_pos (by omega)]; rfl)
      refine wpT_last rfl (by kernel_rfl) hDn (fun K hK => ?_)
      go_simp
      refine (IA.out _).mono ?_
      rintro e w5 ⟨rfl, rfl⟩
      refine hK.out _ _ (fun hDn' => ?_)
      clear hK K hDn hHeld; have hDn := hDn'; clear hDn'
      refine wpT_oneF (i := 5) rfl (by kernel_rfl) rfl (by kernel_rfl) hDn (fun K hK => ?_)
      go_simp
      refine (IB.out _).mono ?_
      rintro e w6 ⟨rfl, rfl⟩
      refine hK.out _ _ (fun hDn' => ?_)
      clear hK K hDn; have hDn := hDn'; clear hDn'
      refine wpT_ze 6 5 hDn fun hDn => ?_
      refine wpT_ze 7 6 hDn fun hDn => ?_
      refine wpT_done (by kernel_rfl) ?_ _
      clear hDn IA IB
      have hia := HIA.out; have hib := HIB.out
      clear HIA HIB
      by_cases hab : halfN a ≤ 15 ∧ halfN b ≤ 15
      · rw [if_pos hab.1] at hia
        rw [if_pos hab.2] at hib
        subst hia hib
        have g1 : ¬ (halfN a : Int) < 0 := by omega
        have g2 : ¬ (halfN b : Int) < 0 := by omega
        have hor := or_hex _ _ hab.1 hab.2
        obtain ⟨z, hz⟩ : ∃ z : Nat, 16 * halfN a + halfN b = z := ⟨_, rfl⟩
        have hz255 : z ≤ 255 := by omega
        have UZ := Lib.hid (show unhexT l = (unhexT r).map ((t ++ [UInt8.ofNat z]) ++ ·) by
          rw [HU.out, unhexT, if_pos hab, hz]
          cases unhexT r <;> simp)
        have NZ := Lib.hid (show natsU (t ++ [UInt8.ofNat z]) = natsU t ++ [z] by
          rw [natsU_app]
          simp [natsU, Nat.mod_eq_of_lt (show z < 256 by omega)])
        rw [hz] at hor
        clear hz HU
        have kB : Same wr (wr.alloc (.cells #[.int .u8 (z : Nat)] 5)).drew := ((Kept.refl _ wr).alloc _).drew
        obtain ⟨v5, w5, hrun, h5, g5, -⟩ := app_facts (P := Tryz.prog) (wr.alloc (.cells #[.int .u8 (z : Nat)] 5)).drew 25 25 w.heap.size 5 .u8 1 Tryz.underlying25 info8 (by decide) u4 (natsU t) (HO.out.same kB) (some ⟨wr.heap.size, 0, none⟩) 1 1 [z] rfl ((one_at wr z _).same ((Kept.refl _ _).drew)) (fun e => by cases e) (by rw [natsU_len]; show (_ + 1) * 1 ≤ _; omega) (Nat.le_trans HK.out.size kB.size)
        obtain ⟨aok, aV, aW⟩ := app_of hrun
        have K5 := Lib.hid ((HK.out.trans kB).grownNew g5 (fun k hk => by have := (World.ownsRow.lt HO.out _ hk).1; omega))
        have H5 := Lib.hid h5
        clear hrun h5 g5 kB HO HK
        have hd2 := str_drop2 a b r (r.length + 2) rfl
        go_wp2_with fail
        exact ⟨_, _, _, _, ⟨r, rfl, by omega, t ++ [UInt8.ofNat z], by rw [List.length_append]; show _ + 1 + _ ≤ _; omega, UZ.out, by rw [NZ.out]; exact H5.out, K5.out⟩, rfl, rfl, rfl, rfl⟩
      · have HRR := Lib.hid (show unhexP l = ([], false) by rw [← HR.out, HU.out, unhexT, if_neg hab]; rfl)
        by_cases ha : halfN a ≤ 15
        · rw [if_pos ha] at hia
          rw [if_neg (fun h => hab ⟨ha, h⟩)] at hib
          subst hia hib
          have g1 : ¬ (halfN a : Int) < 0 := by omega
          go_wp2_with fail
          go_ret2
          exact ⟨by rw [HRR.out]; rfl, HK.out.drew⟩
        · rw [if_neg ha] at hia
          subst hia
          go_wp2_with fail
          go_ret2
          exact ⟨by rw [HRR.out]; rfl, HK.out.drew⟩
end Go.Proofs.YtnjmdldhgconmaaGreatDoor

namespace Go.Proofs.YtnjmdldhgconmaaGreatDoor
open Go.RowKit Go.Sort

theorem cut_pre (l p : Tx) (w : World) : Calls Tryz.prog 25 #[encStr l, encStr p] w fun e w' => e = .returned (.tuple #[encStr (Lib.trimPrefix l p), .bool (Lib.hasPrefix l p)]) ∧ w' = w :=
  Tryz.strings_CutPrefix ⟨l.toArray⟩ ⟨p.toArray⟩ w
theorem trim_x {l : Tx} (h : preX l = true) : Lib.trimPrefix l [120, 58] = l.drop 2 := by
  rw [← preX_eq] at h
  unfold Lib.trimPrefix
  rw [if_pos h]
  rfl
theorem unhexP_len (l : Tx) : (unhexP l).1.length ≤ l.length := by
  unfold unhexP
  split
  · simp
  · cases h : unhexT l with
    | none => simp
    | some s => have := unhex_len h; simp only; omega
/-- What Unword tells. -/
def unwordP (l : Tx) : Value := .tuple #[encStr ((unwordT l).getD []), .bool (unwordT l).isSome]

set_option maxRecDepth 100000 in
set_option maxHeartbeats 1600000 in
theorem co_unword (l : Tx) (hl : l.length ≤ 1000000) (w : World) :
    Calls Tryz.prog 8 #[encStr l] w fun e w' => e = .returned (unwordP l) ∧ Same w w' := by
  by_cases h45 : l = [45]
  · subst h45
    have CP := Lib.hid (cut_pre [45] [120, 58] w)
    go_enter Tryz.func8, Tryz.ntmps8
    go_wp2_with fail
    refine CP.out.mono ?_
    rintro e w1 ⟨rfl, rfl⟩
    go_wp2_with fail
    go_ret2
    exact ⟨rfl, Kept.refl _ _⟩
  have CP := Lib.hid (cut_pre l [120, 58] w)
  rw [preX_eq] at CP
  cases hx : preX l with
  | true =>
    rw [hx, trim_x hx] at CP
    have UH := Lib.hid (fun w => co_unhex (l.drop 2) (by rw [List.length_drop]; omega) w)
    have UE : Hid (unwordP l = if (unhexP (l.drop 2)).2 = true ∧ wordT (unhexP (l.drop 2)).1 = l then .tuple #[encStr (unhexP (l.drop 2)).1, .bool true] else .tuple #[encStr [], .bool false]) := by
      show _ = _
      unfold unwordP unwordT unhexP
      rw [if_neg h45, if_pos hx]
      by_cases he : l.drop 2 = [] ∨ (l.drop 2).length % 2 ≠ 0
      · rw [if_pos he]
        rcases he with he | he
        · rw [he]; rfl
        · rw [unhex_odd (by omega)]; rfl
      · rw [if_neg he]
        cases hu : unhexT (l.drop 2) with
        | none => rfl
        | some s =>
          have hl2 := unhex_len hu
          have hs : s ≠ [] := fun e => by
            subst e
            exact he (.inl (List.eq_nil_of_length_eq_zero (by simpa using hl2)))
          simp only
          by_cases hq : wordT s = l
          · rw [if_pos ⟨hs, hq⟩, if_pos ⟨trivial, hq⟩]; rfl
          · rw [if_neg (fun q => hq q.2), if_neg (fun q => hq q.2)]; rfl
    obtain ⟨us, uo, hu⟩ : ∃ us uo, unhexP (l.drop 2) = (us, uo) := ⟨_, _, rfl⟩
    have UL : Hid (us.length ≤ 1000000) := by
      have := unhexP_len (l.drop 2)
      rw [hu, List.length_drop] at this
      show _ ≤ _
      simp only at this
      omega
    rw [hu] at UH UE
    simp only at UH UE
    clear hu hx
    have hb45 : (l == [45]) = false := by simpa using h45
    have WD := Lib.hid (fun w => co_word us UL.out w)
    clear h45 UL
    go_enter Tryz.func8, Tryz.ntmps8
    go_wp2_with fail
    refine CP.out.mono ?_
    rintro e w1 ⟨rfl, rfl⟩
    go_wp2_with fail
    refine (UH.out _).mono ?_
    rintro e w2 ⟨rfl, k2⟩
    have K2 := Lib.hid k2
    clear k2 UH CP
    cases uo with
    | false =>
      rw [if_neg (fun q => by cases q.1)] at UE
      clear WD
      go_wp2_with fail
      go_ret2
      exact ⟨by rw [UE.out]; rfl, K2.out⟩
    | true =>
      go_wp2_with fail
      refine (WD.out _).mono ?_
      rintro e w3 ⟨rfl, k3⟩
      have K3 := Lib.hid (K2.out.trans k3)
      clear k3 K2 WD
      by_cases hq : wordT us = l
      · rw [if_pos ⟨trivial, hq⟩] at UE
        have hqb : (wordT us == l) = true := by simpa using hq
        clear hq
        go_wp2_with fail
        go_ret2
        exact ⟨by rw [UE.out]; rfl, K3.out⟩
      · rw [if_neg (fun q => hq q.2)] at UE
        have hqb : (wordT us == l) = false := by simpa using hq
        clear hq
        go_wp2_with fail
        go_ret2
        exact ⟨by rw [UE.out]; rfl, K3.out⟩
  | false =>
    rw [hx] at CP
    obtain ⟨tp, htp⟩ : ∃ tp, Lib.trimPrefix l [120, 58] = tp := ⟨_, rfl⟩
    rw [htp] at CP
    have PL := Lib.hid (fun w => co_plain l hl w)
    have hb45 : (l == [45]) = false := by simpa using h45
    have UE : Hid (unwordP l = if plainT l = true then .tuple #[encStr l, .bool true] else .tuple #[encStr [], .bool false]) := by
      show _ = _
      unfold unwordP unwordT
      rw [if_neg h45, hx]
      simp only [Bool.false_eq_true, if_false]
      split <;> rfl
    clear htp h45 hx
    go_enter Tryz.func8, Tryz.ntmps8
    go_wp2_with fail
    refine CP.out.mono ?_
    rintro e w1 ⟨rfl, rfl⟩
    clear CP
    go_wp2_with fail
    refine (PL.out _).mono ?_
    rintro e w2 ⟨rfl, k2⟩
    have K2 := Lib.hid k2
    clear k2 PL
    obtain ⟨pb, hpb⟩ : ∃ b, plainT l = b := ⟨_, rfl⟩
    rw [hpb] at UE
    rw [hpb]
    clear hpb
    cases pb with
    | true =>
      rw [if_pos rfl] at UE
      go_wp2_with fail
      go_ret2
      exact ⟨by rw [UE.out]; rfl, K2.out⟩
    | false =>
      rw [if_neg (by decide)] at UE
      go_wp2_with fail
      go_ret2
      exact ⟨by rw [UE.out]; rfl, K2.out⟩
end Go.Proofs.YtnjmdldhgconmaaGreatDoor
