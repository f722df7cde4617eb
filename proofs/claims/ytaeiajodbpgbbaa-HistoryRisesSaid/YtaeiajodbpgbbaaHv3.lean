/- What a transaction wrote, laid over a map. -/
import Derived.Test.YtaeiajodbpgbbaaHv2
namespace Go.Proofs.Ytaeiajodbpgbbaa
open Go.RowKit Go.Sort

/-- Texts by texts. -/
abbrev SMap := List UInt8 → Option (List UInt8)
abbrev MapT (w : World) (m : Nat) (g : SMap) : Prop := MapS w m (fun k => (g k).map encStr)
/-- A map, changed by an event of a transaction. -/
def ovE (id : Int) (g : SMap) (e : HEv) : SMap := if e.k = 2 ∧ e.x = id then (fun k => if k = e.key then (if e.is = true then some e.val else none) else g k) else g
def ovF (g : SMap) (l : List HEv) (id : Int) : SMap := l.foldl (ovE id) g
theorem ovF_snoc (g : SMap) (l : List HEv) (id : Int) (x : HEv) : ovF g (l ++ [x]) id = ovE id (ovF g l id) x := by unfold ovF; rw [List.foldl_append]; rfl
set_option maxRecDepth 100000 in
set_option maxHeartbeats 800000 in
theorem hv_over (a : Option Addr) (n c : Nat) (l : List HEv) (hn : n = l.length) (hl : n ≤ 1000) (id : Int) (m : Nat) (g : SMap) (w : World) (hat : ElsAt evE w a l) (hne : ∀ x, a = some x → x.block ≠ m) (hm : MapT w m g) :
    Calls Try.prog 22 #[.map (some m), .slice a n c, .int .i64 id] w fun e w' => e = .returned (.tuple #[]) ∧ MapT w' m (ovF g l id) ∧ Kept (fun j => j = m) w w' := by
  have HN := Lib.hid hn; have HAT0 := Lib.hid hat; have HNE := Lib.hid hne; have HM := Lib.hid hm
  have hml := hm.lt
  clear hn hat hne hm
  go_enter Try.func22, Try.ntmps22
  go_wp2_with fail
  go_loopw [10] (fun t wr => ∃ (i : Nat), t = .int .i64 i ∧ i ≤ n ∧ MapT wr m (ovF g (l.take i) id) ∧ Kept (fun j => j = m) w wr) (fun t _ => n - (intOf t).toNat)
  case atStart => exact ⟨0, rfl, by omega, HM.out, Kept.refl _ _⟩
  case round =>
    clear HM
    obtain ⟨i, rfl, hi, hg, hk⟩ := hrel
    have KW := Lib.hid hk; have HG := Lib.hid hg
    have HAT := Lib.hid (HAT0.out.kept hk (HNE.out))
    have hzk := hk.size
    clear hk hg
    by_cases hgo : i < n
    · have K := Lib.hid (Kept.refl (fun _ => False) wr)
      have hil : i < l.length := by have := HN.out; omega
      obtain ⟨b, off, rfl, hbl, hc⟩ := ev_at HAT.out hil
      obtain ⟨c0, c1, c2, c3, c4, c5⟩ := hc _ K.out
      obtain ⟨x, hx⟩ : ∃ x, l[i] = x := ⟨_, rfl⟩
      have TK := Lib.hid (show l.take (i + 1) = l.take i ++ [x] by rw [← hx, List.take_append_getElem])
      rw [hx] at c0 c1 c2 c3 c4 c5
      have g1 : (i : Int) < (n : Int) := by omega
      have g0 : (0 : Int) ≤ (i : Int) := by omega
      have OS := Lib.hid (ovF_snoc g (l.take i) id x)
      obtain ⟨G, hG⟩ : ∃ G, ovF g (l.take i) id = G := ⟨_, rfl⟩
      rw [hG] at OS HG
      clear hG
      go_upto_region 4 with fail
      refine cutWl (fun wn => Fr wn [(wr.heap.size, #[.int .u8 (x.k : Nat), .int .i64 x.x, .int .i64 x.t, encStr x.key, encStr x.val, .bool x.is], 42)] ∧ Same wr wn) ⟨⟨Blk.new _ _ _, trivial⟩, (Kept.refl _ _).alloc _⟩ ?_
      rintro w4 ⟨hf4, k4⟩
      have F4 := Lib.hid hf4
      have K4 := Lib.hid (K.out.trans k4)
      have KR := Lib.hid k4
      obtain ⟨p0, f0, -⟩ := F4.out.rules
      have z0 := F4.out.1.lt
      clear hf4 k4 c0 c1 c2 c3 c4 c5 hc
      have HG4 := Lib.hid (HG.out.same KR.out)
      clear HG
      by_cases hw : x.k = 2 ∧ x.x = id
      · have gk : ((x.k : Nat) : Int) = 2 := by omega
        have gx : x.x = id := hw.2
        cases his : x.is
        · obtain ⟨w5, hrun, hm5, k5, hz5⟩ := MapK.drop (P := Try.prog) HG4.out Try.underlying48 Try.underlying9 x.key
          have M5 := Lib.hid hm5
          have K5 := Lib.hid ((KW.out.trans (KR.out.mono (fun _ _ q => q.elim))).trans k5)
          rw [his] at p0
          have HW := Lib.hid hw
          have HI := Lib.hid his
          clear hm5 k5 hx hw his
          go_wp2_with fail
          refine ⟨⟨i + 1, by go_num, by omega, ?_, K5.out⟩, by simp [intOf]; omega⟩
          rw [TK.out, OS.out]
          refine M5.out.congr (fun k => ?_)
          unfold ovE
          rw [if_pos HW.out]
          split
          · rw [HI.out]; rfl
          · rfl
        · obtain ⟨w5, hrun, hm5, k5, hz5⟩ := MapK.store (P := Try.prog) HG4.out Try.underlying48 Try.underlying9 x.key (encStr x.val)
          have M5 := Lib.hid hm5
          have K5 := Lib.hid ((KW.out.trans (KR.out.mono (fun _ _ q => q.elim))).trans k5)
          rw [his] at p0
          have HW := Lib.hid hw
          have HI := Lib.hid his
          clear hm5 k5 hx hw his
          go_wp2_with fail
          refine ⟨⟨i + 1, by go_num, by omega, ?_, K5.out⟩, by simp [intOf]; omega⟩
          rw [TK.out, OS.out]
          refine M5.out.congr (fun k => ?_)
          unfold ovE
          rw [if_pos HW.out]
          split
          · rw [HI.out]; rfl
          · rfl
      · have HW := Lib.hid hw
        have K5 := Lib.hid (KW.out.trans (KR.out.mono (fun _ _ q => q.elim)))
        by_cases h2 : x.k = 2
        · have gk : ((x.k : Nat) : Int) = 2 := by omega
          have gx : ¬ x.x = id := fun q => hw ⟨h2, q⟩
          clear hx hw h2
          go_wp2_with fail
          refine ⟨⟨i + 1, by go_num, by omega, ?_, K5.out⟩, by simp [intOf]; omega⟩
          rw [TK.out, OS.out]
          unfold ovE
          rw [if_neg HW.out]
          exact HG4.out
        · have gk : ¬ ((x.k : Nat) : Int) = 2 := by omega
          clear hx hw h2
          go_wp2_with fail
          refine ⟨⟨i + 1, by go_num, by omega, ?_, K5.out⟩, by simp [intOf]; omega⟩
          rw [TK.out, OS.out]
          unfold ovE
          rw [if_neg HW.out]
          exact HG4.out
    · have hin : i = n := by omega
      have g1 : ¬ (i : Int) < (n : Int) := by omega
      have e1 : l.take i = l := List.take_of_length_le (by have := HN.out; omega)
      rw [e1] at HG
      go_wp2_with fail
      go_end0
      exact ⟨rfl, HG.out, KW.out⟩
end Go.Proofs.Ytaeiajodbpgbbaa
