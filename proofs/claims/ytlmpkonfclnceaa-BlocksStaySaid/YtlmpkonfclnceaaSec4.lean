/- A disk's settle and Sync. -/
import Derived.Test.YtlmpkonfclnceaaSec3
namespace Go.Proofs.Ytlmpkonfclnceaa
open Go.RowKit

/-- What is safe, sector by sector. -/
structure SafeF (w : World) (b N : Nat) (g : Nat → List Nat) : Prop where
  at_ : ∀ n, n < N → w.rangeAt b (n * 256) (encB (g n))
  len : ∀ n, n < N → (g n).length = 256
  there : w.there b 0 (N * 256)
  lt : b < w.heap.size
theorem getD_of {s : List Sec} {n : Nat} {x : Sec} (hx : s[n]? = some x) : s.getD n sec0 = x := by rw [List.getD_eq_getElem?_getD, hx]; rfl
theorem get_of {s : List Sec} {n : Nat} (h : n < s.length) : s[n]? = some (s.getD n sec0) := by rw [List.getD_eq_getElem?_getD, List.getElem?_eq_getElem h]; rfl
theorem SafeAt.f {w : World} {b : Nat} {s : List Sec} (h : SafeAt w b s) (hs : ∀ x ∈ s, x.OK) : SafeF w b s.length (fun n => (s.getD n sec0).safe) :=
  ⟨fun n hn => h.at_ n _ (get_of hn), fun n _ => (getD_ok hs n).safeL, h.there, h.lt⟩
theorem SafeF.s {w : World} {b : Nat} {s : List Sec} {g : Nat → List Nat} (h : SafeF w b s.length g) (e : ∀ n x, s[n]? = some x → g n = x.safe) : SafeAt w b s :=
  ⟨fun n x hx => by rw [← e n x hx]; exact h.at_ n (List.getElem?_eq_some_iff.1 hx).1, h.there, h.lt⟩
theorem SafeF.kept {w w' : World} {fp : Nat → Prop} {b N : Nat} {g : Nat → List Nat} (h : SafeF w b N g) (k : Kept fp w w') (hn : ¬ fp b) : SafeF w' b N g :=
  ⟨fun n hx => rangeAt_kept (h.at_ n hx) k h.lt hn, h.len, there_kept h.there k h.lt hn, Nat.lt_of_lt_of_le h.lt k.size⟩
theorem SafeF.congr {w : World} {b N : Nat} {g g' : Nat → List Nat} (h : SafeF w b N g) (e : ∀ n, n < N → g n = g' n) : SafeF w b N g' :=
  ⟨fun n hn => by rw [← e n hn]; exact h.at_ n hn, fun n hn => by rw [← e n hn]; exact h.len n hn, h.there, h.lt⟩
theorem SafeF.room {w : World} {b N : Nat} {g : Nat → List Nat} (h : SafeF w b N g) {n : Nat} (hn : n < N) : w.there b (n * 256) 256 := fun j hj => by
  have := h.there (n * 256 + j) (by
    have : (n + 1) * 256 ≤ N * 256 := Nat.mul_le_mul_right _ hn
    omega)
  rwa [Nat.zero_add] at this
theorem SafeF.put {w : World} {b N : Nat} {g : Nat → List Nat} (h : SafeF w b N g) {n : Nat} (hn : n < N) {y : List Nat} (hy : y.length = 256) : SafeF (w.setCells b (n * 256) (encB y)) b N (fun j => if j = n then y else g j) := by
  have ht : w.there b (n * 256) (encB y).length := by rw [encB_len, hy]; exact h.room hn
  refine ⟨fun j hj => ?_, fun j hj => ?_, World.there_setCells h.there _ _ _, Nat.lt_of_lt_of_le h.lt ((Kept.refl (fun j => j = b) w).setCells (fun _ => rfl) _ _).size⟩
  · by_cases e : j = n
    · subst e
      rw [if_pos rfl]
      exact World.rangeAt_setCells_same _ _ _ _ ht
    · rw [if_neg e]
      refine World.rangeAt_setCells_apart (h.at_ j hj) _ _ _ (.inr ?_)
      rw [encB_len, encB_len, hy, h.len j hj]
      omega
  · split
    · exact hy
    · exact h.len j hj

/-- What is safe while the entries that are left are still to come. -/
def midS (s : List Sec) (left : Nat → Bool) (n : Nat) : List Nat := if waitsAt s n && !left n then (s.getD n sec0).has else (s.getD n sec0).safe
theorem midS_start (s : List Sec) (n : Nat) : (s.getD n sec0).safe = midS s (fun n => (waitF s n).isSome) n := by
  have e := waitF_some s n
  unfold midS
  simp only [e]
  cases waitsAt s n <;> rfl
theorem midS_step {s : List Sec} {left : Nat → Bool} {n : Nat} (h : waitsAt s n = true) (j : Nat) : (if j = n then (s.getD n sec0).has else midS s left j) = midS s (fun j => left j && !decide (j = n)) j := by
  unfold midS
  by_cases e : j = n
  · subst e; simp [h]
  · simp [e]
theorem midS_end {s : List Sec} (hs : ∀ x ∈ s, x.OK) {left : Nat → Bool} (hl : ∀ n, left n = false) {n : Nat} {x : Sec} (hx : (settle s)[n]? = some x) : midS s left n = x.safe := by
  unfold settle at hx
  rw [List.getElem?_map, Option.map_eq_some_iff] at hx
  obtain ⟨y, hy, rfl⟩ := hx
  unfold midS waitsAt
  rw [getD_of hy, hl]
  cases hw : y.waits
  · have := (hs y (List.mem_of_getElem? hy)).still hw
    simp [settleS, this]
  · simp [settleS]
theorem settle_waitF (s : List Sec) (n : Nat) : (none : Option Value) = waitF (settle s) n := by
  unfold waitF waitsAt settle
  have : ((s.map settleS).getD n sec0).waits = false := by
    rw [List.getD_eq_getElem?_getD, List.getElem?_map]
    cases s[n]? <;> rfl
  rw [this]
  rfl

set_option maxRecDepth 100000 in
set_option maxHeartbeats 1000000 in
theorem sd_settle {w : World} {d bs cap m : Nat} {D : Dsk} (h : DiskIn w d bs cap m D) :
    Calls Try.prog 58 #[.pointer (some ⟨d, 0, none⟩)] w fun e w' => e = .returned (.tuple #[]) ∧ DiskIn w' d bs cap m { D with s := settle D.s } ∧ Kept (dod d bs m) w w' := by
  have p0 := h.ptr
  simp only [cellsD] at p0
  have H := Lib.hid h
  have l1 := h.box.lt; have l2 := h.safe.lt; have l3 := h.map.lt
  clear h
  go_enter Try.func58, Try.ntmps58
  go_wp2_with (at_range; refine wpList_rangeI _ rfl _ _ rfl Try.underlying96 rfl H.out.map ?_; intro w0 cnt0 hrg0 hk0 hz0)
  go_frame
  have q0 := (H.out.box.kept hk0 (fun h => h))
  go_loopw [9] (fun _ wr => ∃ (left : Nat → Bool) (cnt : Nat), RangesI wr m w.heap.size (waitF D.s) left cnt ∧ SafeF wr bs D.s.length (midS D.s left) ∧ Blk wr d (cellsD bs cap m D) 98 ∧ Kept (dod d bs m) w wr) (fun _ wr => wr.rangeLeft m w.heap.size)
  case atStart => exact ⟨_, _, hrg0, ((H.out.safe.f H.out.ok.secs).kept hk0 (fun h => h)).congr (fun n _ => midS_start _ _), q0, hk0.mono (fun _ _ h => h.elim)⟩
  case round =>
    clear p0 q0 hrg0 hk0
    obtain ⟨left, cnt, hrg, hsf, hbx, hk⟩ := hrel
    have p0 := cell_blk hbx
    simp only [cellsD] at p0
    have RG := Lib.hid hrg; have SF := Lib.hid hsf; have BX := Lib.hid hbx; have K := Lib.hid hk
    clear hrg hsf hbx hk
    go_wp2_with (at_next; refine wpList_nextI _ rfl _ rfl rfl RG.out ?_ ?_)
    · intro hl0
      obtain ⟨w5, hcl, hm5, hk5, hz5⟩ := RG.out.map.clear (P := Try.prog) (ty := 0) Try.underlying96
      have HM := Lib.hid hm5; have HK := Lib.hid hk5
      clear hm5 hk5 hz5
      go_wp2_with fail
      go_end0
      refine ⟨rfl, ⟨?_, ?_, ?_, H.out.apart, H.out.nm, ⟨settle_ok H.out.ok.secs, by rw [settle_len]; exact H.out.ok.few, H.out.ok.aft, H.out.ok.cal⟩, by rw [settle_len]; exact H.out.cap⟩, K.out.trans (HK.out.mono (fun _ _ q => .inr (.inr q)))⟩
      · have := BX.out.kept HK.out (fun q => H.out.ne1 q.symm)
        simpa only [cellsD, settle_len] using this
      · refine SafeF.s (g := midS D.s left) ?_ (fun n x hx => midS_end H.out.ok.secs hl0 hx)
        rw [settle_len]
        exact SF.out.kept HK.out (fun q => H.out.nm q.symm)
      · exact HM.out.congr (settle_waitF D.s)
    · intro n v w1 cnt1 hf hlf hrg1 hlt hz1 hk1 hen
      have hw : waitsAt D.s n = true := by rw [← waitF_some, hf]; rfl
      have hn : n < D.s.length := waitsAt_lt hw
      obtain ⟨y, hy⟩ : ∃ y, (D.s.getD n sec0).has = y := ⟨_, rfl⟩
      have hv : v = .agg (encB y).toArray := by
        have := hf
        unfold waitF at this
        rw [hw, if_pos rfl, hy] at this
        exact (Option.some.inj this).symm
      subst hv
      have hy256 : y.length = 256 := by rw [← hy]; exact (getD_ok H.out.ok.secs n).hasL
      have b1 := BX.out.kept hk1 (by omega)
      have s1 := SF.out.kept hk1 (by omega)
      have k1 := K.out.step hk1 (fq := fun j => j = w.heap.size) (fun i hi q => by omega)
      have hst := put_new w1 (C := secC y) (secC_size hy256) (secC_one _)
      have hi : (Try.prog.info? 100).map (·.size) = some (encB y).length := by rw [encB_len, hy256]; kernel_rfl
      have hl : (encB y).length = 256 := by rw [encB_len, hy256]
      have h1 := encB_one y
      have hn0 : (0 : Int) ≤ (n : Int) := by omega
      have hn1 : (n : Int) < (D.s.length : Int) := by omega
      obtain ⟨cs, hcs⟩ : ∃ cs, encB y = cs := ⟨_, rfl⟩
      have hC : secC y = cs.toArray := by unfold secC; rw [hcs]
      rw [hC] at hst
      rw [hcs] at hi hl h1 hen
      have b2 := b1.alloc (.cells cs.toArray 100)
      have k2 : Kept (fun _ => False) w1 (w1.alloc (.cells cs.toArray 100)) := (Kept.refl _ w1).alloc _
      have s2 := s1.kept k2 (fun h => h)
      have r2 := hrg1.kept k2 (fun h => h) (fun h => h)
      have n2 : (w1.alloc (.cells cs.toArray 100)).rangeAt w1.heap.size 0 cs := by
        intro j u hu
        rw [Nat.zero_add, cell_blk (Blk.new w1 _ _)]
        simpa using hu
      have z3 : w.heap.size < w1.heap.size := by have := RG.out.lt; omega
      have lm := RG.out.left_eq
      have HCS := Lib.hid hcs; have HY := Lib.hid hy; have HW := Lib.hid hw; have R2 := Lib.hid r2; have B2 := Lib.hid b2; have S2 := Lib.hid s2; have K2 := Lib.hid (k1.trans (k2.mono (fun _ _ h => h.elim))); have LM := Lib.hid lm; have LT := Lib.hid hlt
      have HY256 := Lib.hid hy256
      clear hz1 hf hlf hrg1 hk1 hy hcs hC hw b1 s1 k1 b2 s2 r2 lm hlt RG BX SF K p0 hy256
      go_wp2_with (with_reducible refine wpList_storeRun hst rfl _ _ rfl rfl rfl ?_)
      clear hst hen
      have zz : (w1.alloc (.cells cs.toArray 100)).heap.size = w1.heap.size + 1 := by simp
      generalize w1.alloc (.cells cs.toArray 100) = w2 at *
      have p2 : w2.cell? ⟨d, 0, none⟩ = some (.slice (some ⟨bs, 0, none⟩) D.s.length cap) := cell_blk B2.out 0
      have t2 := S2.out.room hn
      have hu := Try.underlying100
      have q2 : (w2.drew.setCells bs (n * 256) cs).cell? ⟨d, 0, none⟩ = some (.slice (some ⟨bs, 0, none⟩) D.s.length cap) := by
        rw [World.cell?_setCells_out _ _ _ _ _ (fun hb => absurd hb H.out.apart)]
        exact p2
      have q3 := World.rangeAt_setCells_apart (w := w2.drew) n2 bs (n * 256) cs (.inl (by omega))
      have q4 := World.there_setCells (w := w2.drew) t2 bs (n * 256) cs
      go_region_held3 (fun w' => w'.cell? ⟨d, 0, none⟩ = some (.slice (some ⟨bs, 0, none⟩) D.s.length cap) ∧ w'.rangeAt w1.heap.size 0 cs ∧ w'.there bs (n * 256) 256)
        (first | exact ⟨p2, n2, t2⟩ | exact ⟨q2, q3, q4⟩ | go_keep_ranges)
        (fail)
      go_wp2_with fail
      have k4 : Kept (fun j => j = bs) w2 (w2.drew.setCells bs (n * 256) cs) := (Kept.refl (fun j => j = bs) w2).drew.setCells (fun _ => rfl) _ _
      have r4 := R2.out.kept k4 H.out.nm (by omega)
      go_roundw
      case rel =>
        refine ⟨_, cnt1, r4, ?_, B2.out.kept k4 H.out.apart, K2.out.trans (k4.mono (fun _ _ q => .inr (.inl q)))⟩
        rw [← HCS.out]
        have hsf := (show SafeF w2.drew bs D.s.length (midS D.s left) from S2.out.kept (Kept.refl (fun _ => False) w2).drew (fun h => h)).put hn HY256.out
        refine hsf.congr (fun j hj => ?_)
        rw [← midS_step HW.out j, HY.out]
      case measure => rw [r4.left_eq, LM.out]; exact LT.out

set_option maxHeartbeats 800000 in
theorem sd_sync {w : World} {d bs cap m : Nat} {D : Dsk} (h : DiskIn w d bs cap m D) :
    Calls Try.prog 16 #[.pointer (some ⟨d, 0, none⟩)] w fun e w' => e = .returned (.int .i64 ((syncD D).2 : Nat)) ∧ DiskIn w' d bs cap m (syncD D).1 ∧ Kept (dod d bs m) w w' := by
  have A := Lib.hid (sd_asked h)
  have H := Lib.hid h
  clear h
  cases ho : D.off
  · have e1 : syncD D = callD D (settle D.s) := by unfold syncD; rw [ho]; rfl
    have CA := Lib.hid (sd_call H.out ho 58 #[.pointer (some ⟨d, 0, none⟩)] #[] (settle D.s) (settle_len _) (settle_ok H.out.ok.secs)
      (fun w' D' hs hd k => by
        refine (sd_settle hd).mono ?_
        rintro e w'' ⟨rfl, h', k'⟩
        rw [hs] at h'
        exact ⟨rfl, h', k'⟩)
      (enters_of Try.func58 (by kernel_rfl) rfl))
    rw [ho] at A
    have E1 := Lib.hid e1
    clear e1 ho
    go_enter Try.func16, Try.ntmps16
    go_wp2_with fail
    refine A.out.mono ?_
    rintro e w' ⟨rfl, rfl⟩
    clear A
    go_wp2_with fail
    refine CA.out.mono ?_
    rintro e w3 ⟨rfl, h3, k3⟩
    go_wp2_with fail
    go_ret
    rw [E1.out]
    exact ⟨rfl, h3, k3⟩
  · have e1 : syncD D = (D, 8) := by unfold syncD; rw [ho]; rfl
    rw [ho] at A
    go_enter Try.func16, Try.ntmps16
    go_wp2_with fail
    refine A.out.mono ?_
    rintro e w' ⟨rfl, rfl⟩
    clear A
    go_wp2_with fail
    go_ret
    rw [e1]
    exact ⟨rfl, H.out, Kept.refl _ _⟩
end Go.Proofs.Ytlmpkonfclnceaa
