/- What every right program tells of five events. -/
import Derived.Test.YtaeiajodbpgbbaaBk9
import Derived.Test.YtaeiajodbpgbbaaHv15
import Derived.Test.YtaeiajodbpgbbaaRisP
namespace Go.Proofs.Ytaeiajodbpgbbaa
open Go.RowKit Go.Sort Go.Shelf

def aw0 : List HEv := [⟨0, 0, 1, [], [], false⟩, ⟨2, 0, 0, [107], [118], true⟩, ⟨3, 0, 2, [], [], false⟩, ⟨0, 1, 3, [], [], false⟩, ⟨1, 1, 0, [107], [118], true⟩]
def aw1 : List HEv := [⟨0, 0, 1, [], [], false⟩, ⟨2, 0, 0, [107], [118], true⟩, ⟨3, 0, 2, [], [], false⟩, ⟨0, 1, 3, [], [], false⟩, ⟨1, 1, 0, [107], [], false⟩]
theorem aw_c0 : chkB bk0 0 aw0 = (5, 0) := by decide
theorem aw_c1 : chkB bk0 0 aw1 = (4, 10) := by decide
theorem aw_cm : cmts aw1 = [2] := by decide
theorem aw_ov : ovlB aw1 0 1 = false := by decide
def awF : SMap := fun k => if k = [107] then some [118] else none
theorem aw_st : stF aw1 2 = awF := by
  unfold stF
  rw [show aw1.filter (cmf 2) = [⟨3, 0, 2, [], [], false⟩] from rfl]
  show (mrg ltT [_] []).foldl _ _ = _
  rw [mrg_nil]
  rfl
theorem aw_sn : snF aw1 0 = awF := by
  rfl
theorem aw_of {L : List HPr} (h : PrsOf awF L) : L = [([107], [118])] := by
  refine h.one ⟨by simp, fun k v => ?_⟩
  unfold awF
  simp only [List.mem_singleton, Prod.mk.injEq]
  split
  · rename_i q
    simp [q, eq_comm]
  · rename_i q
    simp [q]
def awC (v : List UInt8) (is : Bool) : Array Value := #[.int .u8 0, .int .i64 0, .int .i64 1, encStr [], encStr [], .bool false, .int .u8 2, .int .i64 0, .int .i64 0, encStr [107], encStr [118], .bool true, .int .u8 3, .int .i64 0, .int .i64 2, encStr [], encStr [], .bool false, .int .u8 0, .int .i64 1, .int .i64 3, encStr [], encStr [], .bool false, .int .u8 1, .int .i64 1, .int .i64 0, encStr [107], encStr v, .bool is]
theorem aw_kb0 : KeysB aw0 := by unfold KeysB aw0; decide
theorem aw_vb0 : ValsB aw0 := by unfold ValsB aw0; decide
theorem aw_kb1 : KeysB aw1 := by unfold KeysB aw1; decide
theorem aw_vb1 : ValsB aw1 := by unfold ValsB aw1; decide
theorem awC_at0 {w : World} {g : Nat} (h : Blk w g (awC [118] true) 42) : ElsAt evE w (some ⟨g, 0, none⟩) aw0 := elsAt_of h rfl
theorem awC_at1 {w : World} {g : Nat} (h : Blk w g (awC [] false) 42) : ElsAt evE w (some ⟨g, 0, none⟩) aw1 := elsAt_of h rfl
def AwS (w : World) (e : Ending) (w' : World) : Prop := (∃ a c, e = .returned (.slice a 1 c) ∧ ElsAt prE w' a [([107], [118])]) ∧ Same w w'
theorem aw_prs {g : SMap} {w w' : World} {e : Ending} (h : PrsPost w g e w') (hg : g = awF) : AwS w e w' := by
  obtain ⟨⟨v, L, rfl, h1, h2, h3⟩, h4⟩ := h
  subst hg
  obtain rfl := aw_of h1
  obtain ⟨a, n, c, rfl, hn, -, hat⟩ := h3.rd2
  have := hn.out
  simp at this
  subst this
  exact ⟨⟨a, c, rfl, hat.out⟩, h4⟩
set_option maxRecDepth 100000 in
set_option maxHeartbeats 4000000 in
theorem awOK : AwOK := by
  intro w
  go_enter Try.func6, Try.ntmps6
  go_upto_region 2 with fail
  obtain ⟨g, hg⟩ : ∃ g, w.heap.size = g := ⟨_, rfl⟩
  rw [hg]
  refine cutWl (fun wn => Blk wn g (awC [118] true) 42 ∧ Same w wn) ⟨Blk.new' _ _ _ hg.symm, (Kept.refl _ _).alloc _⟩ ?_
  rintro w1 ⟨hb, hk⟩
  have B1 := Lib.hid hb
  have K1 := Lib.hid hk
  have HG := Lib.hid hg
  clear hb hk hg
  have CK := Lib.hid ((bk_check (some ⟨g, 0, none⟩) 5 5 aw0 rfl (by decide) aw_kb0 aw_vb0 w1 (awC_at0 B1.out)).mono (fun e w' (h : ChkPost w1 _ e w') => show e = .returned (.tuple #[.int .i64 5, .int .i64 0]) ∧ Same w1 w' from ⟨by have := h.1; rw [aw_c0] at this; exact this, h.2⟩))
  go_wp2_with fail
  with_reducible refine CK.out.mono ?_
  rintro e w2 ⟨rfl, k2⟩
  have B2 := Lib.hid (B1.out.kept k2 (fun h => h))
  have K2 := Lib.hid (K1.out.trans k2)
  clear k2 CK B1 K1
  have f2 := fun i => Blk.free B2.out i
  have c29 : w2.cell? ⟨g, 29, none⟩ = some (.bool true) := cell_blk B2.out 29
  have c28 : w2.cell? ⟨g, 28, none⟩ = some (encStr [118]) := cell_blk B2.out 28
  have z2 := B2.out.lt
  go_upto_region 4 with fail
  refine cutWl (fun wn => Blk wn g (awC [] false) 42 ∧ Same w wn) ⟨(B2.out.set 29 (.bool false)).set 28 (encStr []), (K2.out.setNew (by dsimp only; have := HG.out; omega) _).setNew (by dsimp only; have := HG.out; omega) _⟩ ?_
  rintro w3 ⟨hb, hk⟩
  have B3 := Lib.hid hb
  have K3 := Lib.hid hk
  clear hb hk c28 c29 f2 z2 B2 K2
  have CK := Lib.hid ((bk_check (some ⟨g, 0, none⟩) 5 5 aw1 rfl (by decide) aw_kb1 aw_vb1 w3 (awC_at1 B3.out)).mono (fun e w' (h : ChkPost w3 _ e w') => show e = .returned (.tuple #[.int .i64 4, .int .i64 10]) ∧ Same w3 w' from ⟨by have := h.1; rw [aw_c1] at this; exact this, h.2⟩))
  have ST := Lib.hid (fun w' (k : Same w3 w') => (hv_State (some ⟨g, 0, none⟩) 5 5 aw1 rfl (by decide) aw_kb1 2 w' ((awC_at1 B3.out).same k)).mono (fun e w'' h => aw_prs h aw_st))
  have SN := Lib.hid (fun w' (k : Same w3 w') => (hv_Snapshot (some ⟨g, 0, none⟩) 5 5 aw1 rfl (by decide) aw_kb1 0 w' ((awC_at1 B3.out).same k) (fun x hx => by cases hx; exact Nat.lt_of_lt_of_le B3.out.lt k.size)).mono (fun e w'' h => aw_prs h aw_sn))
  have CM := Lib.hid (fun w' (k : Same w3 w') => hv_commits (some ⟨g, 0, none⟩) 5 5 aw1 rfl (by decide) w' ((awC_at1 B3.out).same k))
  have OV := Lib.hid (fun w' (k : Same w3 w') => hv_Overlap (some ⟨g, 0, none⟩) 5 5 aw1 rfl (by decide) 0 1 w' ((awC_at1 B3.out).same k))
  rw [aw_cm] at CM
  rw [aw_ov] at OV
  have KK := Lib.hid (Kept.refl (fun _ => False) w3)
  go_wp2_with fail
  with_reducible refine CK.out.mono ?_
  rintro e w4 ⟨rfl, k4⟩
  have K4 := Lib.hid k4
  clear k4 CK KK
  go_wp2_with fail
  with_reducible refine (ST.out _ K4.out).mono ?_
  rintro e w5 ⟨⟨a5, c5, rfl, at5⟩, k5⟩
  have K5 := Lib.hid (K4.out.trans k5)
  have A5 := Lib.hid at5
  clear k5 at5 K4 ST
  go_wp2_with fail
  with_reducible refine (SN.out _ K5.out).mono ?_
  rintro e w6 ⟨⟨a6, c6, rfl, at6⟩, k6⟩
  have K6 := Lib.hid (K5.out.trans k6)
  have A6 := Lib.hid (A5.out.same k6)
  clear k6 at6 K5 A5 SN
  go_wp2_with fail
  with_reducible refine (CM.out _ K6.out).mono ?_
  rintro e w7 ⟨⟨v, rfl, ho⟩, k7⟩
  obtain ⟨a7, n7, c7, rfl, hn7, -, at7⟩ := ho.rd2
  have hn7 := hn7.out
  simp at hn7
  subst hn7
  have K7 := Lib.hid (K6.out.trans k7)
  have A7 := Lib.hid (A6.out.same k7)
  clear k7 ho K6 A6 CM
  obtain ⟨b5, o5, rfl, -, hc5⟩ := pr_at A7.out (i := 0) (by decide)
  obtain ⟨-, d1⟩ := hc5 _ (Kept.refl _ _)
  obtain ⟨b7, o7, rfl, -, hc7⟩ := in_at at7.out (i := 0) (by decide)
  have d2 := hc7 _ (Kept.refl _ _)
  simp only [Nat.zero_mul, Nat.add_zero, List.getElem_cons_zero] at d1 d2
  clear hc5 hc7 at7
  go_wp2_with fail
  with_reducible refine (OV.out _ K7.out).mono ?_
  rintro e w8 ⟨rfl, k8⟩
  have K8 := Lib.hid (K3.out.trans (K7.out.trans k8))
  clear k8 OV d1 d2
  go_wp2_with fail
  go_ret
  exact ⟨rfl, K8.out⟩
end Go.Proofs.Ytaeiajodbpgbbaa
