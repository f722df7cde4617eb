/- Both disks tell the same (Same). -/
import Derived.Test.YtlmpkonfclnceaaDo3
import Derived.Lib.QuietBelow
import Derived.Deep.QuietTactic
import Derived.BigQuiet
namespace Go.Proofs.Ytlmpkonfclnceaa
open Go.RowKit Go.Sort

theorem Calls.quiet_same3 {P : Program} {f : FuncId} {args : Array Value} {w : World} {d : Nat} {os : Array Obj} {v : Value}
    (h : Calls P f args (grow (redrawn w d) os) fun e w' => e = .returned v ∧ w' = grow (redrawn w d) os) : Calls P f args (grow (redrawn w d) os) fun e w'' => e = .returned v ∧ ∃ p : Regrown, w'' = grow (redrawn w p.d) p.os :=
  Calls.regrown_of (h.mono fun _ _ ⟨h1, h2⟩ => ⟨h1, h2 ▸ Below.refl _ _⟩)
theorem secsAt_get {w : World} {b o : Nat} {s : List Sec} (h : SecsAt w (some ⟨b, o, none⟩) s) {i : Nat} {x : Sec} (hx : s[i]? = some x) : w.cell? ⟨b, o + i * 3, none⟩ = some (.string (strN x.has)) := by
  rcases h with h | ⟨b', o', e, _, hc⟩
  · subst h; simp at hx
  · cases e; exact (hc i x hx).1
theorem readD_len (D : Dsk) (i : Int) : readD D i = ((readD D i).1, (readD D i).2) := rfl

set_option maxRecDepth 100000 in
set_option maxHeartbeats 4000000 in
theorem same_any {w : World} {d bs cap m : Nat} {D : Dsk} (h : DiskIn w d bs cap m D) (a : Option Addr) (c : Nat) (hs : SecsAt w a D.s) :
    Calls Try.prog 22 #[.pointer (some ⟨d, 0, none⟩), refV a D.s.length c D] w fun e w' => e = .returned (.int .i64 0) ∧ Same w w' := by
  have H := Lib.hid h; have HS := Lib.hid hs
  have few := h.ok.few
  have OK := Lib.hid h.ok
  clear h hs
  obtain ⟨L, hL⟩ : ∃ L, waitsOf D.s = L := ⟨_, rfl⟩
  have hLl : L.length ≤ 4096 := by
    rw [← hL]
    have := List.length_filter_le (waitsAt D.s) (List.range D.s.length)
    rw [List.length_range] at this
    unfold waitsOf
    omega
  obtain ⟨NW, hNW⟩ : ∃ NW, L.length = NW := ⟨_, rfl⟩
  have K0 : Same w (w.alloc (.cells #[.slice a D.s.length c, .bool D.off, .int .i64 D.calls, .int .i64 D.after, .bool D.done] 43)) := (Kept.refl _ w).alloc _
  have F0 : Fr (w.alloc (.cells #[.slice a D.s.length c, .bool D.off, .int .i64 D.calls, .int .i64 D.after, .bool D.done] 43)) [(w.heap.size, #[.slice a D.s.length c, .bool D.off, .int .i64 D.calls, .int .i64 D.after, .bool D.done], 43)] := ⟨Blk.new w _ _, trivial⟩
  have K := Lib.hid K0
  have F := Lib.hid F0
  clear K0 F0
  have SW : Hid (∀ w', Same w w' → Calls Try.prog 19 #[.pointer (some ⟨d, 0, none⟩)] w' fun e w'' => ∃ a1 c1, e = .returned (.slice a1 NW c1) ∧ NatsAt w'' .i64 a1 L ∧ Same w' w'') := by
    intro w' k
    refine (sd_waits (H.out.same k)).mono ?_
    rintro e w'' ⟨v, rfl, ho, k2⟩
    obtain ⟨a1, l1, c1, rfl, h1, -, h2, -⟩ := ho.rd
    have h1 := h1.out
    rw [hL, hNW] at h1
    have h2 := h2.out
    rw [hL] at h2
    exact ⟨a1, c1, by rw [h1], h2, k2⟩
  have RW : Hid (∀ w', Same w w' → Calls Try.prog 66 #[.agg #[.slice a D.s.length c, .bool D.off, .int .i64 D.calls, .int .i64 D.after, .bool D.done]] w' fun e w'' => ∃ a1 c1, e = .returned (.slice a1 NW c1) ∧ NatsAt w'' .i64 a1 L ∧ Same w' w'') := by
    intro w' k
    refine (rs_waits a D.s.length c D rfl few w' (HS.out.same k)).mono ?_
    rintro e w'' ⟨⟨v, rfl, ho⟩, k2⟩
    obtain ⟨a1, l1, c1, rfl, h1, -, h2, -⟩ := ho.rd
    have h1 := h1.out
    rw [hL, hNW] at h1
    have h2 := h2.out
    rw [hL] at h2
    exact ⟨a1, c1, by rw [h1], h2, k2⟩
  have HNW := Lib.hid hNW
  have hNW2 : NW ≤ 4096 := by omega
  clear hL hNW hLl
  simp only [refV]
  go_enter Try.func22, Try.ntmps22
  go_wp2_with fail
  generalize hW : w.alloc (.cells #[.slice a D.s.length c, .bool D.off, .int .i64 D.calls, .int .i64 D.after, .bool D.done] 43) = W at *
  clear hW
  obtain ⟨p0, f0, -⟩ := F.out.rules
  have z0 := F.out.1.lt
  have QQ : Hid (∀ w', Same W w' → (∀ i, w'.cell? ⟨w.heap.size, i, none⟩ = (#[.slice a D.s.length c, .bool D.off, .int .i64 D.calls, .int .i64 D.after, .bool D.done] : Array Value)[i]?)) := fun w' k => cell_blk (F.out.1.kept k (fun h => h))
  have KN := Lib.hid (Kept.refl (fun _ => False) W)
  go_region_held3 (fun w' => (∀ i, w'.cell? ⟨w.heap.size, i, none⟩ = (#[.slice a D.s.length c, .bool D.off, .int .i64 D.calls, .int .i64 D.after, .bool D.done] : Array Value)[i]?))
    (first | exact QQ.out _ KN.out | exact QQ.out _ KN.out.drew)
    (first
      | (go_at_call 19; refine (SW.out _ (K.out.trans (by first | exact KN.out | exact KN.out.drew))).mono ?_; rintro e w9 ⟨a1, c1, rfl, n1, k⟩; have N1 := Lib.hid n1; clear n1; have KN' := Lib.hid (Kept.trans (by first | exact KN.out | exact KN.out.drew) k); clear KN; have KN := KN'; clear KN'; (first | (have KS' := Lib.hid (Kept.trans (by first | exact KS.out | exact KS.out.drew) k); clear KS; have KS := KS'; clear KS') | have KS := Lib.hid (Kept.refl (fun _ => False) w9)); clear k)
      | (go_at_call 66; refine (RW.out _ (K.out.trans (by first | exact KN.out | exact KN.out.drew))).mono ?_; rintro e w9 ⟨a2, c2, rfl, n2, k⟩; have N2 := Lib.hid n2; clear n2; have KN' := Lib.hid (Kept.trans (by first | exact KN.out | exact KN.out.drew) k); clear KN; have KN := KN'; clear KN'; (first | (have KS' := Lib.hid (Kept.trans (by first | exact KS.out | exact KS.out.drew) k); clear KS; have KS := KS'; clear KS') | have KS := Lib.hid (Kept.refl (fun _ => False) w9)); clear k))
  have M1 := Lib.hid (N1.out.same KS.out)
  have M2 := Lib.hid N2.out
  have K9 := Lib.hid (K.out.trans KN.out)
  have F9 := Lib.hid (F.out.same KN.out)
  clear N1 N2 KS QQ KN K p0 f0 z0 F
  have F := F9
  clear F9
  have C1 : ∀ dq os, Calls Try.prog 27 #[.pointer (some ⟨d, 0, none⟩)] (grow (redrawn w9 dq) os) fun e w'' => e = .returned (.bool D.off) ∧ ∃ p : Regrown, w'' = grow (redrawn w9 p.d) p.os := fun dq os => Calls.quiet_same3 (sd_off (H.out.same (K9.out.trans (Kept.of_below (below_regrown _ dq os)))))
  have C2 : ∀ dq os, Calls Try.prog 25 #[.pointer (some ⟨d, 0, none⟩)] (grow (redrawn w9 dq) os) fun e w'' => e = .returned (.int .i64 D.calls) ∧ ∃ p : Regrown, w'' = grow (redrawn w9 p.d) p.os := fun dq os => Calls.quiet_same3 (sd_calls (H.out.same (K9.out.trans (Kept.of_below (below_regrown _ dq os)))))
  have C3 : ∀ dq os, Calls Try.prog 23 #[.pointer (some ⟨d, 0, none⟩)] (grow (redrawn w9 dq) os) fun e w'' => e = .returned (.int .i64 (D.s.length : Nat)) ∧ ∃ p : Regrown, w'' = grow (redrawn w9 p.d) p.os := fun dq os => Calls.quiet_same3 (sd_size (H.out.same (K9.out.trans (Kept.of_below (below_regrown _ dq os)))))
  have C1 := Lib.hid C1; have C2 := Lib.hid C2; have C3 := Lib.hid C3
  have G0 := fun d os i => cell_blk (F.out.1.kept (Kept.of_below (below_regrown _ d os)) (fun h => h)) i
  obtain ⟨off, hoff⟩ : ∃ off, D.off = off := ⟨_, rfl⟩
  obtain ⟨N, hN⟩ : ∃ N, D.s.length = N := ⟨_, rfl⟩
  rw [hoff] at C1
  rw [hN] at C3
  simp only [hoff, hN] at G0 F few
  rw [hoff, hN]
  have RW9 := Lib.hid fun w' (k : Same w w') n => rs_read a N c D hN.symm n w' (HS.out.same k)
  simp only [refV, hoff] at RW9
  clear hoff hN
  go_wp2_with fail
  refine wp_region_quiet_below (by kernel_rfl) (by kernel_rfl) ?_
  repeat (quiet_step (first | exact C1.out _ _ | exact C2.out _ _ | exact C3.out _ _))
  refine wpQuiet_nil ?_
  intro _ hw'
  obtain ⟨⟨dq, osq⟩, hw''⟩ := hw'
  subst hw''
  have kq := Lib.hid (show Same w9 _ from Kept.of_below (below_regrown w9 dq osq))
  have K8 := Lib.hid (K9.out.trans kq.out)
  have X1 := Lib.hid (M1.out.same kq.out)
  have X2 := Lib.hid (M2.out.same kq.out)
  have F8 := Lib.hid (F.out.same kq.out)
  clear C1 C2 C3 G0 M1 M2 K9 kq F
  generalize hW8 : grow (redrawn w9 dq) osq = w8 at *
  clear hW8
  go_wp2_with fail
  go_loopw [7] (fun iv wr => ∃ i : Nat, iv = .int .i64 i ∧ i ≤ NW ∧ Same w8 wr) (fun iv _ => NW - (intOf iv).toNat)
  case atStart => exact ⟨0, rfl, by omega, Kept.refl _ _⟩
  case round =>
    obtain ⟨i, rfl, hi, hk⟩ := hrel
    have HK := Lib.hid hk
    by_cases hgo : i < NW
    · obtain ⟨b1, o1, x1, rfl, hb1, hx1, hc1⟩ := (X1.out.same hk).at (i := i) (by rw [HNW.out]; exact hgo)
      obtain ⟨b2, o2, x2, rfl, hb2, hx2, hc2⟩ := (X2.out.same hk).at (i := i) (by rw [HNW.out]; exact hgo)
      obtain rfl : x1 = x2 := by rw [hx1] at hx2; exact Option.some.inj hx2
      have g1 : (i : Int) < (NW : Int) := by omega
      have g0 : (0 : Int) ≤ (i : Int) := by omega
      clear hx1 hx2 hk
      go_wp2_with fail
      go_region
      all_goals
        go_wp2_with fail
        go_roundw
        case rel => exact ⟨i + 1, by go_num, by omega, by repeat (first | with_reducible exact HK.out | with_reducible refine Kept.drew ?_)⟩
        case measure => simp [intOf]; omega
    · have g1 : ¬ (i : Int) < (NW : Int) := by omega
      clear hk
      have K7 := Lib.hid (K8.out.trans HK.out)
      have F7 := Lib.hid (F8.out.same HK.out)
      clear X1 X2 K8 F8 HK
      go_wp2_with fail
      go_loopw [8] (fun iv wr => ∃ n : Int, iv = .int .i64 n ∧ -1 ≤ n ∧ n ≤ (N : Int) + 1 ∧ Same w wr ∧ Fr wr [(w.heap.size, #[.slice a N c, .bool off, .int .i64 D.calls, .int .i64 D.after, .bool D.done], 43)]) (fun iv _ => ((N : Int) + 1 - intOf iv).toNat)
      case atStart => exact ⟨-1, rfl, by omega, by omega, K7.out, F7.out⟩
      case round =>
        clear K7 F7
        obtain ⟨n, rfl, hn1, hn2, hk, hf⟩ := hrel
        have HK := Lib.hid hk
        have HF := Lib.hid hf
        obtain ⟨p0, f0, -⟩ := hf.rules
        have z0 := hf.1.lt
        clear hk hf
        by_cases hgo : n ≤ (N : Int)
        · have SR := Lib.hid (sd_read (H.out.same HK.out) n)
          have RR := Lib.hid fun w' (k : Same wr w') => RW9.out w' (HK.out.trans k) n
          obtain ⟨X, hX⟩ : ∃ X, (readD D n).1 = X := ⟨_, rfl⟩
          obtain ⟨E, hE⟩ : ∃ E, (readD D n).2 = E := ⟨_, rfl⟩
          rw [hX, hE] at SR
          simp only [hX, hE] at RR
          clear hX hE
          go_wp2_with fail
          refine SR.out.mono ?_
          rintro e w3 ⟨a3, c3, rfl, hn3, -, k3⟩
          have KA := Lib.hid k3
          have NA := Lib.hid hn3
          clear p0 f0 z0
          obtain ⟨p0, f0, -⟩ := (HF.out.same k3).rules
          have z0 := (HF.out.same k3).1.lt
          clear k3 hn3
          go_wp2_with fail
          refine (RR.out _ KA.out).mono ?_
          rintro e w4 ⟨rfl, k4⟩
          have hcv := conv_str a3 X.length c3 X w4 rfl (NA.out.same k4)
          have KB := Lib.hid (KA.out.trans k4)
          clear p0 f0 z0
          obtain ⟨p0, f0, -⟩ := (HF.out.same KB.out).rules
          have z0 := (HF.out.same KB.out).1.lt
          clear k4 NA KA SR RR
          obtain ⟨XL, hXL⟩ : ∃ XL, X.length = XL := ⟨_, rfl⟩
          rw [hXL] at hcv ⊢
          clear hXL
          go_wp2_with fail
          go_roundw
          case rel => exact ⟨n + 1, by go_num, by omega, by omega, HK.out.trans KB.out, HF.out.same KB.out⟩
          case measure => simp [intOf]; omega
        · have hgo' : (N : Int) < n := by omega
          go_wp2_with fail
          go_ret
          exact ⟨rfl, HK.out⟩
end Go.Proofs.Ytlmpkonfclnceaa
