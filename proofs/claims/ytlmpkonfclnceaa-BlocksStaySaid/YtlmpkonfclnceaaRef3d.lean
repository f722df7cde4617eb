/- The document's disk: safe. -/
import Derived.Test.YtlmpkonfclnceaaRef3c
namespace Go.Proofs.Ytlmpkonfclnceaa
open Go.RowKit

theorem take_settle {s : List Sec} {i : Nat} {x : Sec} (h : s[i]? = some x) : settle (s.take (i + 1)) = settle (s.take i) ++ [settleS x] := by
  rw [List.take_add_one, h]
  simp [settle]
section
attribute [local go_sem ↓] exec_app semAt_app
attribute [local go_sem] isApp_lit appA appX
set_option maxRecDepth 100000 in
set_option maxHeartbeats 800000 in
theorem rs_safe (a : Option Addr) (n c : Nat) (D : Dsk) (hn : n = D.s.length) (hl : n ≤ 4096) (w : World) (hs : SecsAt w a D.s) :
    Calls Try.prog 94 #[refV a n c D] w fun e w' => RefD w w' e { D with s := settle D.s } := by
  obtain ⟨s, off, calls, after, done⟩ := D
  simp only [refV]
  dsimp only at hn hs ⊢
  subst hn
  have HS := Lib.hid hs
  clear hs
  go_enter Try.func94, Try.ntmps94
  go_wp2_with fail
  go_loopw [3, 4] (fun lv iv wr => ∃ i : Nat, iv = .int .i64 i ∧ i ≤ s.length ∧ OwnS wr (w.heap.size + 1 + 1) lv (settle (s.take i)) ∧ Fr wr [(w.heap.size, #[.slice a s.length c, .bool off, .int .i64 calls, .int .i64 after, .bool done], 43), (w.heap.size + 1, #[.slice none 0 0, .bool false, .int .i64 0, .int .i64 0, .bool false], 43)] ∧ Same w wr) (fun _ iv _ => s.length - (intOf iv).toNat)
  case atStart => exact ⟨0, rfl, Nat.zero_le _, OwnS.nil _ _, ⟨(Blk.new w _ _).alloc _, Blk.new' _ _ _ (by simp), trivial⟩, ((Kept.refl _ w).alloc _).alloc _⟩
  case round =>
    obtain ⟨i, rfl, hi, ho, hf, hk⟩ := hrel
    have hs := HS.out.same hk
    obtain ⟨p0, f0, p1, f1, -⟩ := hf.rules
    have z0 := hf.1.lt
    have z1 := hf.2.1.lt
    have HF := Lib.hid hf
    have HK := Lib.hid hk
    clear hf hk
    by_cases hgo : i < s.length
    · have hx := get_of hgo
      obtain ⟨x, hxx⟩ : ∃ x, s.getD i sec0 = x := ⟨_, rfl⟩
      rw [hxx] at hx
      have hs' := hs
      rcases hs with h | ⟨b, o, rfl, hb, hc⟩
      · subst h; simp at hgo
      have c0 := (hc i x hx).1
      have ln : (i : Int) < (s.length : Int) := by omega
      have ln0 : (0 : Int) ≤ (i : Int) := by omega
      have kB : Same wr ((wr.alloc (.cells #[.string (strN x.has), .string (strN x.has), .bool false] 107)).drew) := ((Kept.refl _ wr).alloc _).drew
      obtain ⟨v5, w5, hrun, h5, g5⟩ := app_secs ((wr.alloc (.cells #[.string (strN x.has), .string (strN x.has), .bool false] 107)).drew) (w.heap.size + 1 + 1) u3 (settle (s.take i)) (ho.same kB) (some ⟨wr.heap.size, 0, none⟩) 1 1 [settleS x] rfl (secsAt_new (x := settleS x) (Blk.new wr _ _).drew) (fun h => by cases h) (by simp [settle]; omega) (Nat.le_trans (by omega) kB.size)
      obtain ⟨aok, aV, aW⟩ := app_of hrun
      have kg : Kept (fun j => u3.ownBlock = some j) ((wr.alloc (.cells #[.string (strN x.has), .string (strN x.has), .bool false] 107)).drew) w5 := (Kept.refl _ _).grown g5 (fun k hk _ => hk)
      have F5 := Lib.hid ((HF.out.same kB).kept kg (fun x hx q => by have := (ho.far _ q).1; simp at hx; rcases hx with rfl | rfl <;> simp at this <;> omega))
      have K5 := Lib.hid ((HK.out.trans kB).grownNew g5 (fun k hk => by have := (ho.far _ hk).1; omega))
      rw [← take_settle hx] at h5
      have H5 := Lib.hid h5
      clear hc hrun h5 g5 kg kB ho HF HK
      go_wp2_with fail
      go_region
      all_goals
        go_wp2_with fail
        go_roundw
        case rel => exact ⟨i + 1, by go_num, by omega, H5.out.same (by repeat (first | exact Kept.refl _ _ | with_reducible refine Kept.drew ?_)), F5.out.same (by repeat (first | exact Kept.refl _ _ | with_reducible refine Kept.drew ?_)), by repeat (first | with_reducible exact K5.out | with_reducible refine Kept.drew ?_)⟩
        case measure => simp [intOf]; omega
    · have e : i = s.length := by omega
      subst e
      rw [List.take_length] at ho
      obtain ⟨a2, cap2, rfl, hs2⟩ := ho.secs
      have HO := Lib.hid ho
      have hlen : (settle s).length = s.length := by simp [settle]
      rw [hlen]
      clear ho hs hs2
      go_wp2_with fail
      refine bodyPost_ret (results_two rfl _ _ (w.heap.size + 1) 43 #[.slice a2 s.length cap2, .bool off, .int .i64 calls, .int .i64 after, .bool done] _ rfl ?_ Try.underlying43 rfl (by kernel_rfl)) rfl ?_
      · refine Blk.set5 (v0 := .slice none 0 0) (v1 := .bool false) (v2 := .int .i64 0) (v3 := .int .i64 0) (v4 := .bool false) ?_
        repeat (with_reducible refine Blk.other ?_ (by dsimp only; omega) _)
        exact HF.out.2.1
      · refine ⟨a2, cap2, by rw [hlen]; rfl, ⟨?_, fun x hx => by subst hx; have := (HO.out.far x.block rfl).1; omega⟩, ?_⟩
        · refine (HO.out.kept (fp := fun j => j < w.heap.size + 1 + 1) ?_ (fun g hg q => by have := (HO.out.far g hg).1; omega)).at
          repeat (first | with_reducible exact Kept.refl _ _ | with_reducible refine Kept.setCell ?_ (fun _ => by dsimp only; omega) _)
        · repeat (first | with_reducible exact HK.out | with_reducible refine Kept.setNew ?_ (by dsimp only; omega) _)
end
end Go.Proofs.Ytlmpkonfclnceaa
