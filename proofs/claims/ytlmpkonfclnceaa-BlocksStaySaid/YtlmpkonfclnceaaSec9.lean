/- A disk's Fork. -/
import Derived.Test.YtlmpkonfclnceaaSec8
namespace Go.Proofs.Ytlmpkonfclnceaa
open Go.RowKit Go.Shelf

/-- All that is safe, side by side. -/
def flatS (s : List Sec) : List Value := s.flatMap fun x => encB x.safe
theorem flatS_len {s : List Sec} (h : ∀ x ∈ s, x.OK) : (flatS s).length = s.length * 256 := by
  unfold flatS
  induction s with
  | nil => rfl
  | cons x s ih =>
    rw [List.flatMap_cons, List.length_append, ih (fun y hy => h y (by simp [hy])), encB_len, (h x (by simp)).safeL, List.length_cons]
    omega
theorem flatS_get {s : List Sec} (h : ∀ x ∈ s, x.OK) : ∀ (n : Nat) (x : Sec), s[n]? = some x → ∀ j, j < 256 → (flatS s)[n * 256 + j]? = (encB x.safe)[j]? := by
  induction s with
  | nil => intro n x hx; simp at hx
  | cons y s ih =>
    intro n x hx j hj
    have hl : (encB y.safe).length = 256 := by rw [encB_len, (h y (by simp)).safeL]
    unfold flatS
    rw [List.flatMap_cons]
    cases n with
    | zero =>
      simp at hx
      subst hx
      rw [Nat.zero_mul, Nat.zero_add, List.getElem?_append_left (by omega)]
    | succ n =>
      rw [List.getElem?_append_right (by omega), hl]
      have := ih (fun z hz => h z (by simp [hz])) n x (by simpa using hx) j hj
      rw [show (n + 1) * 256 + j - 256 = n * 256 + j from by omega]
      exact this
theorem flatS_one (s : List Sec) : ∀ v ∈ flatS s, v.oneCell' = true := by
  intro v hv
  obtain ⟨x, _, hx⟩ := List.mem_flatMap.1 hv
  exact encB_one _ v hx
theorem flatS_at {w : World} {b : Nat} {s : List Sec} (h : SafeAt w b s) (hs : ∀ x ∈ s, x.OK) : ∀ j u, (flatS s)[j]? = some u → w.cell? ⟨b, j, none⟩ = some u := by
  intro j u hu
  have hj : j < s.length * 256 := by rw [← flatS_len hs]; exact (List.getElem?_eq_some_iff.1 hu).1
  have hn : j / 256 < s.length := by omega
  have hx := get_of hn
  have e : j / 256 * 256 + j % 256 = j := by omega
  have := flatS_get hs (j / 256) _ hx (j % 256) (by omega)
  rw [e, hu] at this
  have := h.at_ _ _ hx (j % 256) u this.symm
  rwa [e] at this

set_option maxRecDepth 100000 in
theorem sd_cloneS {w : World} {b N c : Nat} {s : List Sec} (h : SafeAt w b s) (hs : ∀ x ∈ s, x.OK) (hN : N = s.length) (hfew : N ≤ 4096) :
    Calls Try.prog 68 #[.slice (some ⟨b, 0, none⟩) N c] w fun e w' => ∃ g c', e = .returned (.slice (some ⟨g, 0, none⟩) N c') ∧ SafeAt w' g s ∧ N ≤ c' ∧ w.heap.size ≤ g ∧ Same w w' := by
  subst hN
  obtain ⟨i0, hi, hz0, hz1, hz2⟩ := info_parts sec_info
  refine (AnyE.slices_Clone Try.cloneA i0 (.agg (secC zeros)) 256 256 hi hz0 hz1 hz2 (secC_size zeros_len) (by decide) (fun w => Try.sizeOf100 w) b 0 s.length c (flatS s) w (flatS_len hs) (by unfold maxLen; omega) (by omega) (fun j u hu => by rw [Nat.zero_add]; exact flatS_at h hs j u hu) (flatS_one s)).mono ?_
  rintro e w' ⟨v, rfl, ⟨hl, ho⟩, hv, hb⟩
  rcases ho with ⟨q, _⟩ | ⟨g, c', cur, rfl, hg, hbk, hc, _, hsz, htk⟩
  · exact absurd q hv
  · refine ⟨g, c', rfl, ⟨fun n x hx j u hu => ?_, fun j hj => ?_, lt_of_block hbk⟩, hc, hg, Kept.of_below hb⟩
    · have hj : j < 256 := by have := (List.getElem?_eq_some_iff.1 hu).1; rw [encB_len, (hs x (List.mem_of_getElem? hx)).safeL] at this; exact this
      have hn := (List.getElem?_eq_some_iff.1 hx).1
      rw [cell_blk hbk]
      have e1 := flatS_get hs n x hx j hj
      rw [hu, ← htk, List.getElem?_take] at e1
      split at e1
      · rw [← Array.getElem?_toList]; exact e1
      · cases e1
    · refine ⟨?_, Blk.free hbk _⟩
      rw [Nat.zero_add, cell_blk hbk, Array.getElem?_eq_getElem (by rw [hsz]; have : s.length * 256 ≤ c' * 256 := Nat.mul_le_mul_right _ hc; omega)]
      rfl
theorem sd_cloneM {w : World} {m : Nat} {f : Nat → Option Value} (h : MapI w m f) :
    Calls Try.prog 69 #[.map (some m)] w fun e w' => ∃ m', e = .returned (.map (some m')) ∧ MapI w' m' f ∧ w.heap.size ≤ m' ∧ Same w w' := by
  obtain ⟨es, c, hb, hE⟩ := h
  refine (AnyW.maps_Clone Try.mcloneA m es c w hb).mono ?_
  rintro e w' ⟨rfl, rfl⟩
  exact ⟨_, rfl, ⟨es, c, heap_alloc_new w _, hE⟩, Nat.le_refl _, (Kept.refl _ w).alloc _⟩

theorem blk_sets {w : World} {b : Nat} {cs : Array Value} {t : TypeId} (h : Blk w b cs t) (i : Nat) (v : Value) {ds : Array Value} (e : cs.setIfInBounds i v = ds) : Blk (w.setCell ⟨b, i, none⟩ v) b ds t := e ▸ h.set i v
set_option maxRecDepth 100000 in
set_option maxHeartbeats 2000000 in
theorem sd_fork {w : World} {d bs cap m : Nat} {D : Dsk} (h : DiskIn w d bs cap m D) :
    Calls Try.prog 24 #[.pointer (some ⟨d, 0, none⟩)] w (MadeD w D) := by
  have H := Lib.hid h
  have p0 := h.ptr
  have few := h.ok.few
  have CS := Lib.hid fun w' (k : Same w w') => sd_cloneS (c := cap) (h.safe.kept k (fun h => h)) h.ok.secs rfl few
  have CM := Lib.hid fun w' (k : Same w w') => sd_cloneM (h.map.kept k (fun h => h))
  obtain ⟨s, off, calls, after, done⟩ := D
  simp only [cellsD] at p0
  dsimp only at CS CM
  clear h few
  go_enter Try.func24, Try.ntmps24
  go_wp2_with fail
  have k1 : Same w (w.alloc (.cells #[.slice (some ⟨bs, 0, none⟩) s.length cap, .map (some m), .bool off, .int .i64 calls, .int .i64 after, .bool done] 98)) := (Kept.refl _ w).alloc _
  have b1 := Blk.new w #[.slice (some ⟨bs, 0, none⟩) s.length cap, .map (some m), .bool off, .int .i64 calls, .int .i64 after, .bool done] 98
  have zk : w.heap.size < (w.alloc (.cells #[.slice (some ⟨bs, 0, none⟩) s.length cap, .map (some m), .bool off, .int .i64 calls, .int .i64 after, .bool done] 98)).heap.size := by simp
  have KN := Lib.hid k1
  have BX := Lib.hid b1
  have QQ := Lib.hid fun w' (k : Same w w') => cell_blk (H.out.box.kept k (fun h => h))
  dsimp only [cellsD] at QQ
  clear k1 b1 p0
  generalize w.alloc (.cells #[.slice (some ⟨bs, 0, none⟩) s.length cap, .map (some m), .bool off, .int .i64 calls, .int .i64 after, .bool done] 98) = w1 at *
  have r1 := cell_blk BX.out
  have g1 := BX.out.free
  go_region_held3 (fun w' => ∀ i, w'.cell? ⟨d, i, none⟩ = (#[Value.slice (some ⟨bs, 0, none⟩) s.length cap, .map (some m), .bool off, .int .i64 calls, .int .i64 after, .bool done] : Array Value)[i]?)
    (exact QQ.out _ (by repeat (with_reducible first | exact KN.out | refine Kept.drew ?_ | refine Kept.setNew ?_ (Nat.le_refl _) _)))
    (first
      | (go_at_call 68; refine (CS.out _ (by repeat (with_reducible first | exact KN.out | refine Kept.drew ?_ | refine Kept.setNew ?_ (Nat.le_refl _) _))).mono ?_; rintro e w9 ⟨g, c', rfl, hs, hc, hg, k⟩; have hgX := Nat.lt_of_lt_of_le (Blk.lt (show Blk _ w.heap.size _ _ from by repeat (first | exact BX.out | with_reducible refine Blk.drew ?_ | with_reducible refine Blk.set ?_ _ _))) hg; (try (have SA' := Lib.hid ((SA.out.kept (show Kept (fun j => j = w.heap.size) _ _ from (by repeat (first | exact Kept.refl _ _ | with_reducible refine Kept.drew ?_ | with_reducible refine Kept.setG ?_ _ _))) (by omega)).kept k (fun h => h)); clear SA; have SA := SA'; clear SA')); (try (have MA' := Lib.hid ((MA.out.kept (show Kept (fun j => j = w.heap.size) _ _ from (by repeat (first | exact Kept.refl _ _ | with_reducible refine Kept.drew ?_ | with_reducible refine Kept.setG ?_ _ _))) (by omega)).kept k (fun h => h)); clear MA; have MA := MA'; clear MA')); have BX' := Lib.hid (Blk.kept (show Blk _ w.heap.size _ _ from by repeat (first | exact BX.out | with_reducible refine Blk.drew ?_ | with_reducible refine Blk.set ?_ _ _)) k (fun h => h)); clear BX r1 g1; have BX := BX'; clear BX'; have r1 := cell_blk BX.out; have g1 := BX.out.free; have KN' := Lib.hid (Kept.trans (show Same w _ from (by repeat (with_reducible first | exact KN.out | refine Kept.drew ?_ | refine Kept.setNew ?_ (Nat.le_refl _) _))) k); clear KN; have KN := KN'; clear KN'; have SA := Lib.hid hs; have hgs := hs.lt; clear hs k)
      | (go_at_call 69; refine (CM.out _ (by repeat (with_reducible first | exact KN.out | refine Kept.drew ?_ | refine Kept.setNew ?_ (Nat.le_refl _) _))).mono ?_; rintro e w9 ⟨m', rfl, hm', hm2, k⟩; have hmX := Nat.lt_of_lt_of_le (Blk.lt (show Blk _ w.heap.size _ _ from by repeat (first | exact BX.out | with_reducible refine Blk.drew ?_ | with_reducible refine Blk.set ?_ _ _))) hm2; (try (have SA' := Lib.hid ((SA.out.kept (show Kept (fun j => j = w.heap.size) _ _ from (by repeat (first | exact Kept.refl _ _ | with_reducible refine Kept.drew ?_ | with_reducible refine Kept.setG ?_ _ _))) (by omega)).kept k (fun h => h)); clear SA; have SA := SA'; clear SA')); (try (have MA' := Lib.hid ((MA.out.kept (show Kept (fun j => j = w.heap.size) _ _ from (by repeat (first | exact Kept.refl _ _ | with_reducible refine Kept.drew ?_ | with_reducible refine Kept.setG ?_ _ _))) (by omega)).kept k (fun h => h)); clear MA; have MA := MA'; clear MA')); have BX' := Lib.hid (Blk.kept (show Blk _ w.heap.size _ _ from by repeat (first | exact BX.out | with_reducible refine Blk.drew ?_ | with_reducible refine Blk.set ?_ _ _)) k (fun h => h)); clear BX r1 g1; have BX := BX'; clear BX'; have r1 := cell_blk BX.out; have g1 := BX.out.free; have KN' := Lib.hid (Kept.trans (show Same w _ from (by repeat (with_reducible first | exact KN.out | refine Kept.drew ?_ | refine Kept.setNew ?_ (Nat.le_refl _) _))) k); clear KN; have KN := KN'; clear KN'; have MA := Lib.hid hm'; have hms := hm'.lt; clear hm' k))
  all_goals
    simp at hg hm2
    go_wp2_with fail
    go_ret
    refine ⟨w.heap.size, g, c', m', rfl, ⟨?_, SA.out.kept (show Kept (fun j => j = w.heap.size) _ _ from (by repeat (first | exact Kept.refl _ _ | with_reducible refine Kept.drew ?_ | with_reducible refine Kept.setG ?_ _ _))) (by omega), MA.out.kept (show Kept (fun j => j = w.heap.size) _ _ from (by repeat (first | exact Kept.refl _ _ | with_reducible refine Kept.drew ?_ | with_reducible refine Kept.setG ?_ _ _))) (by omega), by omega, by omega, H.out.ok, hc⟩, Nat.le_refl _, by omega, by omega, (by repeat (with_reducible first | exact KN.out | refine Kept.drew ?_ | refine Kept.setNew ?_ (Nat.le_refl _) _))⟩
    first | exact (BX.out.set 0 _).set 1 _ | exact (BX.out.set 1 _).set 0 _ | exact BX.out.set 0 _ | exact BX.out.set 1 _
end Go.Proofs.Ytlmpkonfclnceaa
