/- Sets of keys: Add, Meet. -/
import Derived.Test.YtaeiajodbpgbbaaCf1
import Derived.Test.YtaeiajodbpgbbaaHv9
namespace Go.Proofs.Ytaeiajodbpgbbaa
open Go.RowKit Go.Sort Go.Shelf

/-- Where a key goes among the first ones. -/
def posK (ks : List (List UInt8)) (key : List UInt8) : Nat → Nat
  | 0 => 0
  | i + 1 => if Op.bytesLess (ks.getD i []) key = true then i + 1 else posK ks key i
/-- A key put into a set. -/
def addK (ks : List (List UInt8)) (key : List UInt8) : List (List UInt8) := if key ∈ ks then ks else ks.take (posK ks key ks.length) ++ key :: ks.drop (posK ks key ks.length)
theorem mem_addK (ks : List (List UInt8)) (key k : List UInt8) : k ∈ addK ks key ↔ k = key ∨ k ∈ ks := by
  unfold addK
  split
  · rename_i h
    exact ⟨.inr, fun q => q.elim (fun z => z ▸ h) id⟩
  · generalize posK ks key ks.length = i
    rw [List.mem_append, List.mem_cons]
    constructor
    · rintro (h | h | h)
      · exact .inr (List.mem_of_mem_take h)
      · exact .inl h
      · exact .inr (List.mem_of_mem_drop h)
    · rintro (h | h)
      · exact .inr (.inl h)
      · rw [← List.take_append_drop i ks, List.mem_append] at h
        exact h.imp id .inr
theorem addK_len (ks : List (List UInt8)) (key : List UInt8) : (addK ks key).length ≤ ks.length + 1 := by
  unfold addK
  split
  · omega
  · simp; omega
/-- What Add tells. -/
def AddPost (w : World) (key : List UInt8) (ks : List (List UInt8)) (e : Ending) (w' : World) : Prop := (∃ v, e = .returned v ∧ OwnE stE w' w.heap.size 9 v (addK ks key)) ∧ Same w w'
set_option maxRecDepth 100000 in
set_option maxHeartbeats 800000 in
theorem cf_add (a : Option Addr) (n c : Nat) (ks : List (List UInt8)) (hn : n = ks.length) (hl : n ≤ 500) (key : List UInt8) (w : World) (hat : ElsAt stE w a ks) (hp : PlainA a c) :
    Calls Try.prog 38 #[.slice a n c, encStr key] w (AddPost w key ks) := by
  have CL := Lib.hid (cl_str a n c ks hn (by omega) w hat hp)
  have CO := Lib.hid (fun w' (k : Same w w') => co_str a n c ks hn (by omega) key w' (hat.same k))
  have LN := Lib.hid (show ks.length ≤ 500 from by omega)
  clear hn hat hp
  go_enter Try.func38, Try.ntmps38
  go_wp2_with fail
  with_reducible refine CL.out.mono ?_
  rintro e w1 ⟨⟨v, rfl, ho⟩, k1⟩
  have K1 := Lib.hid k1
  have HO := Lib.hid ho
  clear ho k1 CL
  go_wp2_with fail
  with_reducible refine (CO.out w1 K1.out).mono ?_
  rintro e w2 ⟨rfl, hw2⟩
  subst hw2
  clear CO
  by_cases hin : key ∈ ks
  · have e1 : decide (key ∈ ks) = true := decide_eq_true hin
    rw [e1]
    have HI := Lib.hid hin
    clear hin e1
    go_wp2_with fail
    go_ret
    exact ⟨⟨_, rfl, by unfold addK; rw [if_pos HI.out]; exact HO.out⟩, K1.out⟩
  · have e1 : decide (key ∈ ks) = false := decide_eq_false hin
    rw [e1]
    have HI := Lib.hid hin
    clear hin e1
    obtain ⟨a1, l1, c1, rfl, hl1, -, ha1⟩ := OwnE.rd2 HO.out
    have hl500 : l1 ≤ 500 := by have := hl1.out; have := LN.out; omega
    go_wp2_with fail
    go_loopw [6] (fun t wr => ∃ (i : Nat), t = .int .i64 i ∧ i ≤ l1 ∧ posK ks key ks.length = posK ks key i ∧ wr = w2) (fun t _ => (intOf t).toNat)
    case atStart => exact ⟨l1, rfl, by omega, by rw [hl1.out], rfl⟩
    case round =>
      obtain ⟨i, rfl, hi, hpos, rfl⟩ := hrel
      have HPOS := Lib.hid hpos
      clear hpos
      have fin : posK ks key i = i → Calls Try.prog 50 #[.slice a1 l1 c1, .int .i64 (i : Nat), .slice (some ⟨wr.heap.size, 0, none⟩) 1 1] (wr.alloc (.cells #[encStr key] 9)) (AddPost w key ks) := fun hpi => by
        have k2 : Same wr (wr.alloc (.cells #[encStr key] 9)) := (Kept.refl _ _).alloc _
        have hs := K1.out.size
        refine (ins_own (HO.out.same k2) (Nat.le_trans hs k2.size) (by have := LN.out; omega) i (by have := hl1.out; omega) key wr.heap.size (Blk.new _ _ _) (fun g hg => by have := (HO.out.far g hg).2; omega)).mono ?_
        rintro e w' ⟨⟨v', rfl, ho⟩, k⟩
        refine ⟨⟨v', rfl, ?_⟩, (K1.out.trans k2).step k (fun j hj q => by omega)⟩
        unfold addK
        rw [if_neg HI.out, HPOS.out, hpi]
        exact ho
      have FIN := Lib.hid fin
      clear fin
      by_cases h0 : i = 0
      · subst h0
        have FIN := Lib.hid (FIN.out rfl)
        simp only [Int.natCast_zero] at FIN
        go_wp2_with fail
        with_reducible refine FIN.out.mono ?_
        rintro e w' hp
        have HP := Lib.hid hp
        obtain ⟨⟨v', rfl, -⟩, -⟩ := hp
        go_wp2_with fail
        go_ret
        exact HP.out
      · obtain ⟨j, rfl⟩ : ∃ j, i = j + 1 := ⟨i - 1, by omega⟩
        have hjl : j < ks.length := by have := hl1.out; omega
        obtain ⟨b, off, rfl, hbl, hc⟩ := st_at ha1.out hjl
        have c0 := hc _ (Kept.refl _ _)
        obtain ⟨x, hx⟩ : ∃ x, ks[j] = x := ⟨_, rfl⟩
        rw [hx] at c0
        have g1 : (j : Int) < (l1 : Int) := by omega
        have g0 : (0 : Int) ≤ (j : Int) := by omega
        have g2 : (0 : Int) < ((j + 1 : Nat) : Int) := by omega
        have g3 : ((j + 1 : Nat) : Int) - 1 = (j : Int) := by omega
        have g4 : IntKind.i64.wrap (((j + 1 : Nat) : Int) - 1) = (j : Int) := by rw [IntKind.wrap_i64]; omega
        have HX := Lib.hid (show ks.getD j [] = x from by rw [← hx]; simp [List.getD, hjl])
        clear hc hx
        have PJ := Lib.hid (show posK ks key (j + 1) = if Op.bytesLess x key = true then j + 1 else posK ks key j from by rw [posK, HX.out])
        cases fv : Op.bytesLess x key
        · have PJ2 := Lib.hid (show posK ks key ks.length = posK ks key j from by rw [HPOS.out, PJ.out, fv]; rfl)
          clear PJ HPOS FIN
          go_wp2_with fail
          exact ⟨⟨j, rfl, by omega, PJ2.out, trivial⟩, by simp [intOf]⟩
        · have FIN := Lib.hid (FIN.out (by rw [PJ.out, fv]; rfl))
          clear PJ
          rw [show ((j + 1 : Nat) : Int) = (j : Int) + 1 from rfl] at FIN
          go_wp2_with fail
          with_reducible refine FIN.out.mono ?_
          rintro e w' hp
          have HP := Lib.hid hp
          obtain ⟨⟨v', rfl, -⟩, -⟩ := hp
          go_wp2_with fail
          go_ret
          exact HP.out
/-- Have two sets a key together? -/
def meetB (ks ms : List (List UInt8)) : Bool := ms.any fun k => decide (k ∈ ks)
set_option maxRecDepth 100000 in
theorem pred_meet (m B : Nat) (ks : List (List UInt8)) (w : World) (hm : MapS w m (fun k => if k ∈ ks then some (.bool true) else none)) (hb : Blk w B #[.map (some m)] 109) :
    PredAt Try.prog 58 #[.pointer (some ⟨B, 0, none⟩)] encStr (fun k => decide (k ∈ ks)) w := fun W x hbl => by
  have k := Kept.of_below hbl
  have b1 := hb.kept k (fun h => h)
  have p1 := cell_blk b1
  have z1 := b1.lt
  have hlk := MapK.look (P := Try.prog) (hm.same k) Try.underlying109 Try.underlying9 x (z := .bool false) (Try.zeroValue4 W) false
  have hv : ((if x ∈ ks then some (Value.bool true) else none).getD (.bool false)) = .bool (decide (x ∈ ks)) := by split <;> simp [*]
  rw [if_neg (by decide), hv] at hlk
  clear hm hb b1 k hbl hv
  show Calls Try.prog 58 #[encStr x, .pointer (some ⟨B, 0, none⟩)] W _
  go_enter Try.func58, Try.ntmps58
  go_wp2_with fail
  go_ret
  exact ⟨rfl, 0, rfl⟩
set_option maxRecDepth 100000 in
set_option maxHeartbeats 800000 in
theorem cf_meet (a a' : Option Addr) (n n' c c' : Nat) (ks ms : List (List UInt8)) (hn : n = ks.length) (hl : n ≤ 1000) (hn' : n' = ms.length) (hl' : n' ≤ 1000) (w : World) (hat : ElsAt stE w a ks) (hat' : ElsAt stE w a' ms) :
    Calls Try.prog 46 #[.slice a n c, .slice a' n' c'] w fun e w' => e = .returned (.bool (meetB ks ms)) ∧ Same w w' := by
  have HN := Lib.hid hn; have HAT := Lib.hid hat
  have CF := Lib.hid (show ∀ (W : World) (m B : Nat), Same w W → MapS W m (fun k => if k ∈ ks then some (.bool true) else none) → Blk W B #[.map (some m)] 109 → Calls Try.prog 57 #[.slice a' n' c', .func (.func 58) #[] #[.pointer (some ⟨B, 0, none⟩)]] W fun e w' => e = .returned (.bool (meetB ks ms)) ∧ Same W w' from by
    intro W m B k h1 h2
    by_cases h0 : ms = []
    · subst h0
      simp at hn'
      subst hn'
      exact (AnyE.slices_ContainsFunc_empty Try.cofA a' c' _ W).mono (fun e w' ⟨q1, q2⟩ => ⟨q1, q2 ▸ Kept.refl _ _⟩)
    · obtain ⟨b, off, rfl, hb⟩ := hat'.there h0
      have hcon := AnyE.slices_ContainsFunc Try.cofA encStr (fun k => decide (k ∈ ks)) 58 #[.pointer (some ⟨B, 0, none⟩)] (enters_of Try.func58 (by kernel_rfl) rfl) b off n' c' ms W (pred_meet m B ks W h1 h2) (by omega) (by omega) (fun j hj => by
        obtain ⟨b', off', e, _, hc⟩ := st_at hat' hj
        cases e
        rw [getElem!_pos ms j hj]
        exact hc W k)
      rw [List.take_of_length_le (by omega)] at hcon
      exact hcon.mono (fun e w' ⟨q1, q, q2⟩ => ⟨q1, q2 ▸ (Kept.refl _ _).drewN q⟩))
  have hmm := @run_makeMap Try.prog
  clear hn hat hn' hat'
  go_enter Try.func46, Try.ntmps46
  go_upto_region 2 with fail
  obtain ⟨m, hm⟩ : ∃ m, w.heap.size = m := ⟨_, rfl⟩
  rw [hm]
  refine cutWl (fun wn => MapS wn m (fun _ => none) ∧ Blk wn (m + 1) #[.map (some m)] 109 ∧ Same w wn) ⟨?_, ?_, ?_⟩ ?_
  · subst hm
    exact (MapK.new keyE_enc w).same ((Kept.refl _ _).alloc _)
  · subst hm
    exact Blk.new' (w.alloc (.map #[] 0)) _ _ (by simp)
  · exact ((Kept.refl _ _).alloc _).alloc _
  rintro w1 ⟨hm1, hb1, k1⟩
  have M1 := Lib.hid hm1; have B1 := Lib.hid hb1; have K1 := Lib.hid k1; have HM := Lib.hid hm
  clear hm1 hb1 k1 hm
  go_wp2_with fail
  go_loopw [11] (fun t wr => ∃ (i : Nat), t = .int .i64 i ∧ i ≤ n ∧ MapS wr m (fun k => if k ∈ ks.take i then some (.bool true) else none) ∧ Blk wr (m + 1) #[.map (some m)] 109 ∧ Same w wr) (fun t _ => n - (intOf t).toNat)
  case atStart => exact ⟨0, rfl, by omega, by simpa using M1.out, B1.out, K1.out⟩
  case round =>
    obtain ⟨i, rfl, hi, hg, hb, hk⟩ := hrel
    have K := Lib.hid hk; have HG := Lib.hid hg; have HB := Lib.hid hb
    have p0 := cell_blk hb
    have z0 := hb.lt
    clear hk hg hb
    by_cases hgo : i < n
    · have hil : i < ks.length := by have := HN.out; omega
      obtain ⟨b, off, rfl, hbl, hc⟩ := st_at HAT.out hil
      have c0 := hc _ K.out
      obtain ⟨x, hx⟩ : ∃ x, ks[i] = x := ⟨_, rfl⟩
      have TK := Lib.hid (show ks.take (i + 1) = ks.take i ++ [x] by rw [← hx, List.take_append_getElem])
      rw [hx] at c0
      have g1 : (i : Int) < (n : Int) := by omega
      have g0 : (0 : Int) ≤ (i : Int) := by omega
      obtain ⟨w5, hrun, hm5, k5, hz5⟩ := MapK.store (P := Try.prog) HG.out Try.underlying109 Try.underlying9 x (.bool true)
      have M5 := Lib.hid hm5
      have B5 := Lib.hid (HB.out.kept k5 (by omega))
      have K5 := Lib.hid (K.out.step k5 (fun j hj q => by have := HM.out; omega))
      clear hm5 k5 hx hc
      go_wp2_with fail
      refine ⟨⟨i + 1, by go_num, by omega, ?_, B5.out, K5.out⟩, by simp [intOf]; omega⟩
      refine M5.out.congr (fun k => ?_)
      rw [TK.out]
      by_cases q : k = x
      · simp [q]
      · simp [q]
    · have hin : i = n := by omega
      have g1 : ¬ (i : Int) < (n : Int) := by omega
      have e1 : ks.take i = ks := List.take_of_length_le (by have := HN.out; omega)
      rw [e1] at HG
      have C := Lib.hid (CF.out wr m (m + 1) K.out HG.out HB.out)
      clear CF e1
      go_wp2_with fail
      with_reducible refine C.out.mono ?_
      rintro e w' ⟨rfl, k5⟩
      have K5 := Lib.hid (K.out.trans k5)
      clear k5
      go_wp2_with fail
      go_ret
      exact ⟨rfl, K5.out⟩
end Go.Proofs.Ytaeiajodbpgbbaa
