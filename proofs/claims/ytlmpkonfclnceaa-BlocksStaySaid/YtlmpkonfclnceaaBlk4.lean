/- Sound; what a right program reads of one block (plain). -/
import Derived.Test.YtlmpkonfclnceaaBlk3
namespace Go.Proofs.Ytlmpkonfclnceaa
open Go.RowKit Go.Sort

def awB1 : Dsk := (writeB (newD 11) 3 2 1 [97, 98]).1
def awB2 : Dsk := (syncD awB1).1
def awB3 : Dsk := powerD awB2 []
theorem awb1 : (writeB (newD 11) 3 2 1 [97, 98]).2 = 0 := by decide +kernel
theorem awb2 : (syncD awB1).2 = 0 := by decide +kernel
set_option maxRecDepth 1000000 in
theorem awb3 : readB awB3 3 2 1 = ([97, 98], 0) := by decide +kernel
set_option maxRecDepth 1000000 in
theorem awb4 : (readB awB3 3 2 0).2 = 10 := by decide +kernel
set_option maxRecDepth 1000000 in
theorem awb5 : soundB awB3 3 2 = [1] := by decide +kernel
theorem awb6 : secsA 3 2 1 = [7, 8, 9, 10] ∧ errA awB3.s.length 3 2 = 0 := by decide +kernel

theorem filt_snoc (p : Nat → Bool) (i : Nat) : (List.range (i + 1)).filter p = (List.range i).filter p ++ (if p i then [i] else []) := by
  rw [List.range_succ, List.filter_append]
  congr 1
  cases h : p i
  · rw [List.filter_cons_of_neg (by simp [h])]; rfl
  · rw [List.filter_cons_of_pos h]; rfl
section
attribute [local go_sem ↓] exec_app semAt_app
attribute [local go_sem] isApp_lit appA appX
set_option maxRecDepth 100000 in
set_option maxHeartbeats 1600000 in
theorem bl_sound {w : World} {d bs cap m : Nat} {D : Dsk} (h : DiskIn w d bs cap m D) (f k : Int) :
    Calls Try.prog 39 #[.pointer (some ⟨d, 0, none⟩), areaV f k] w fun e w' => (∃ v, e = .returned v ∧ OwnN w' w.heap.size 3 .i64 v (soundB D f k)) ∧ Same w w' := by
  have H := Lib.hid h
  have CH := Lib.hid fun w' (kk : Same w w') => bl_check (h.same kk) f k
  have RD := Lib.hid fun w' (kk : Same w w') n => bl_read (h.same kk) f k n
  obtain ⟨E, hE⟩ : ∃ E, errA D.s.length f k = E := ⟨_, rfl⟩
  obtain ⟨R, hR⟩ : ∃ R, soundB D f k = R := ⟨_, rfl⟩
  have hw : R = if E = 0 then (List.range k.toNat).filter (fun n => decide ((readB D f k (n : Nat)).2 = 0)) else [] := by rw [← hR, ← hE]; rfl
  rw [hR]
  simp only [hE] at CH
  unfold areaV at CH RD ⊢
  clear hR h
  by_cases h0 : E = 0
  · subst h0
    rw [if_pos rfl] at hw
    have hk : 0 ≤ k ∧ k ≤ 512 := by
      unfold errA at hE
      split at hE
      · rename_i q; have := mayB_iff.1 q.1; omega
      · cases hE
    obtain ⟨N, hN⟩ : ∃ N : Nat, k = (N : Int) := ⟨k.toNat, by omega⟩
    subst hN
    rw [Int.toNat_natCast] at hw
    have hN5 : N ≤ 512 := by omega
    have HW := Lib.hid hw
    simp only [Int.natCast_zero] at CH
    clear hw hE hk
    go_enter Try.func39, Try.ntmps39
    go_wp2_with fail
    have K0 : Same w (w.alloc (.cells #[.int .i64 f, .int .i64 (N : Nat)] 57)) := (Kept.refl _ w).alloc _
    have F0 : Fr (w.alloc (.cells #[.int .i64 f, .int .i64 (N : Nat)] 57)) [(w.heap.size, #[.int .i64 f, .int .i64 (N : Nat)], 57)] := ⟨Blk.new w _ _, trivial⟩
    have K := Lib.hid K0
    have F := Lib.hid F0
    clear K0 F0
    refine (CH.out _ K.out).mono ?_
    rintro e w2 ⟨rfl, k2⟩
    have KN := Lib.hid (K.out.trans k2)
    have FN := Lib.hid (F.out.same k2)
    clear K F k2
    have K := KN
    have F := FN
    clear KN FN
    obtain ⟨p0, f0, -⟩ := F.out.rules
    have z0 := F.out.1.lt
    go_wp2_with fail
    clear p0 f0 z0
    go_loopw [5, 15] (fun lv t wr => ∃ i : Nat, t = .int .i64 i ∧ i ≤ N ∧ OwnN wr (w.heap.size + 1) 3 .i64 lv ((List.range i).filter (fun n => decide ((readB D f (N : Nat) (n : Nat)).2 = 0))) ∧ Fr wr [(w.heap.size, #[.int .i64 f, .int .i64 (N : Nat)], 57)] ∧ Same w wr) (fun _ t _ => N - (intOf t).toNat)
    case atStart => exact ⟨0, rfl, by omega, ⟨rfl, .inl ⟨rfl, rfl⟩⟩, F.out, K.out⟩
    case round =>
      clear F K
      obtain ⟨i, rfl, hi, ho, hf, hk⟩ := hrel
      have HO := Lib.hid ho; have HF := Lib.hid hf; have HK := Lib.hid hk
      obtain ⟨p0, f0, -⟩ := hf.rules
      have z0 := hf.1.lt
      clear ho hf hk
      by_cases hgo : i < N
      · have h1 : (i : Int) < (N : Int) := by omega
        have h0 : (0 : Int) ≤ (i : Int) := by omega
        have sn := filt_snoc (fun n => decide ((readB D f (N : Nat) (n : Nat)).2 = 0)) i
        have RI := Lib.hid (RD.out wr HK.out ((i : Nat) : Int))
        have hlen : ((List.range i).filter (fun n => decide ((readB D f (N : Nat) (n : Nat)).2 = 0))).length ≤ i := by have := List.length_filter_le (fun n => decide ((readB D f (N : Nat) (n : Nat)).2 = 0)) (List.range i); rw [List.length_range] at this; exact this
        obtain ⟨Q, hQ⟩ : ∃ Q, readB D f (N : Nat) ((i : Nat) : Int) = Q := ⟨_, rfl⟩
        rw [hQ] at sn RI
        obtain ⟨l0, hl0⟩ : ∃ l0, (List.range i).filter (fun n => decide ((readB D f (N : Nat) (n : Nat)).2 = 0)) = l0 := ⟨_, rfl⟩
        rw [hl0] at sn HO hlen
        have SN := Lib.hid sn
        clear sn hQ hl0
        go_wp2_with fail
        refine RI.out.mono ?_
        rintro e w3 ⟨a3, c3, rfl, -, -, k3⟩
        have K3 := Lib.hid (HK.out.trans k3)
        have F3 := Lib.hid (HF.out.same k3)
        have O3 := Lib.hid (HO.out.same k3)
        clear p0 f0 z0 k3 HK HF HO RI
        obtain ⟨p0, f0, -⟩ := F3.out.rules
        have z0 := F3.out.1.lt
        by_cases hq0 : Q.2 = 0
        · have kB : Same w3 (w3.alloc (.cells #[.int .i64 i] 3)) := (Kept.refl _ w3).alloc _
          obtain ⟨v5, w5, hrun, h5, g5, -⟩ := app_facts (P := Try.prog) (w3.alloc (.cells #[.int .i64 i] 3)) 38 38 (w.heap.size + 1) 3 .i64 8 Try.underlying38 (by kernel_rfl) (by decide) u5 l0 (O3.out.same kB) (some ⟨w3.heap.size, 0, none⟩) 1 1 [i] rfl (.inr ⟨w3.heap.size, 0, rfl, by simp, fun j u hu => by rcases j with _ | j; (· simp at hu; subst hu; exact (Blk.new w3 _ _).cell 0 rfl); (· simp at hu)⟩) (fun h => by cases h) (by simp; omega) (Nat.le_trans (by omega) kB.size)
          obtain ⟨aok, aV, aW⟩ := app_of hrun
          have kg : Kept (fun j => u5.ownBlock = some j) (w3.alloc (.cells #[.int .i64 i] 3)) w5 := (Kept.refl _ _).grown g5 (fun k hk _ => hk)
          have F5 := Lib.hid ((F3.out.same kB).kept kg (fun x hx q => by have := (World.ownsRow.lt O3.out _ q).1; simp at hx; subst hx; simp at this; omega))
          have K5 := Lib.hid ((K3.out.trans kB).grownNew g5 (fun k hk => by have := (World.ownsRow.lt O3.out _ hk).1; omega))
          have H5 := Lib.hid h5
          have HN : Hid ((List.range (i + 1)).filter (fun n => decide ((readB D f (N : Nat) (n : Nat)).2 = 0)) = l0 ++ [i]) := by show _ = _; rw [SN.out, hq0]; rfl
          have hq1 : ((Q.2 : Nat) : Int) = 0 := by omega
          clear hrun h5 g5 kg kB O3 F3 K3 hq0 SN
          go_wp2_with fail
          go_roundw
          case rel => exact ⟨i + 1, by go_num, by omega, by rw [HN.out]; exact H5.out, F5.out, K5.out⟩
          case measure => simp [intOf]; omega
        · have HN : Hid ((List.range (i + 1)).filter (fun n => decide ((readB D f (N : Nat) (n : Nat)).2 = 0)) = l0) := by show _ = _; rw [SN.out, decide_eq_false hq0]; simp
          have hq1 : ¬ ((Q.2 : Nat) : Int) = 0 := by omega
          clear SN
          go_wp2_with fail
          go_roundw
          case rel => exact ⟨i + 1, by go_num, by omega, by rw [HN.out]; exact O3.out, F3.out, K3.out⟩
          case measure => simp [intOf]; omega
      · have e : i = N := by omega
        subst e
        rw [← HW.out] at HO
        go_wp2_with fail
        go_ret
        exact ⟨⟨_, rfl, HO.out.base (by omega)⟩, HK.out⟩
  · rw [if_neg h0] at hw
    have g0 : ¬ (E : Int) = 0 := by omega
    subst hw
    clear hE
    go_enter Try.func39, Try.ntmps39
    go_wp2_with fail
    have K0 : Same w (w.alloc (.cells #[.int .i64 f, .int .i64 k] 57)) := (Kept.refl _ w).alloc _
    have F0 : Fr (w.alloc (.cells #[.int .i64 f, .int .i64 k] 57)) [(w.heap.size, #[.int .i64 f, .int .i64 k], 57)] := ⟨Blk.new w _ _, trivial⟩
    have K := Lib.hid K0
    have F := Lib.hid F0
    clear K0 F0
    refine (CH.out _ K.out).mono ?_
    rintro e w2 ⟨rfl, k2⟩
    have KN := Lib.hid (K.out.trans k2)
    have FN := Lib.hid (F.out.same k2)
    clear K F k2
    have K := KN
    have F := FN
    clear KN FN
    go_wp2_with fail
    go_ret
    exact ⟨⟨.slice none 0 0, rfl, ⟨rfl, .inl ⟨rfl, rfl⟩⟩⟩, K.out⟩
end
end Go.Proofs.Ytlmpkonfclnceaa
