/- A log in memory: New, Add, Restart. -/
import Derived.Test.YtlmpkonfclnceaaGreatWl1
namespace Go.Proofs.YtlmpkonfclnceaaGreat
open Go.RowKit Go.Sort

set_option maxRecDepth 100000 in
theorem sl_clip (a : Option Addr) (n c : Nat) (hc : n ≤ c) (hnil : a = none → c = 0) (hl : n ≤ 1000000) (w : World) :
    Calls Tryz.prog 44 #[.slice a n c] w fun e w' => e = .returned (.slice a n n) ∧ w' = w := by
  cases a with
  | none =>
    obtain rfl := hnil rfl
    have hn : n = 0 := by omega
    subst hn
    go_enter Tryz.func44, Tryz.ntmps44
    go_wp2_with fail
    go_ret
    exact ⟨rfl, rfl⟩
  | some ad =>
    have g1 : (0 : Int) ≤ (n : Int) := by omega
    have g2 : (n : Int) ≤ (c : Int) := by omega
    go_enter Tryz.func44, Tryz.ntmps44
    go_wp2_with fail
    go_ret
    refine ⟨?_, rfl⟩
    first
      | rfl
      | (split <;> rfl)
theorem clip_append {w : World} (a : Option Addr) (n : Nat) (l : List (List Nat)) (hn : n = l.length) (hat : TxtsAt w a l) (ao : Option Addr) (m c : Nat) (ys : List (List Nat)) (hm : m = ys.length) (hm0 : 0 < m) (hys : TxtsAt w ao ys) (hl : l.length + ys.length ≤ 1000000) :
    ∃ v' w', (Builtin.append_ #[46, 46] 46 #[.slice a n n, .slice ao m c]).run Tryz.prog w = .ok v' w' ∧ OwnT w' w.heap.size v' (l ++ ys) ∧ Same w w' := by
  obtain ⟨i, hi, hz, hsz, hby⟩ := info_parts strInfo
  have hall : ∀ (xs : List (List Nat)) (ad : Addr), TxtsAt w (some ad) xs → ∀ j u, (strE.all xs)[j]? = some u → w.cell? (ad.add j) = some u := by
    intro xs ad h j u hu
    rcases h with rfl | ⟨b, off, e, _, hc⟩
    · simp [Enc.all] at hu
    · cases e
      have := hc j u hu
      unfold Addr.add
      split
      · subst j; simpa using this
      · exact this
  have hlen : ∀ xs : List (List Nat), (strE.all xs).length = xs.length := fun xs => by rw [Enc.all_len]; exact Nat.mul_one _
  obtain ⟨b2, o2, rfl, -⟩ := hys.there (fun q => by rw [q] at hm; simp at hm; omega)
  subst hn hm
  have mk : ∀ (k : Nat) (hk : k ≤ l.length + ys.length),
      OwnT (w.drew.alloc (.cells ((strE.all l).toArray ++ (strE.all ys).toArray ++ Builtin.zeroCells (Value.string ByteArray.empty).cells (grownCap w (l.length + ys.length) k 9 - (l.length + ys.length))) 9)) w.heap.size (.slice (some ⟨w.heap.size, 0, none⟩) (l.length + ys.length) (grownCap w (l.length + ys.length) k 9)) (l ++ ys) := by
    intro k hk
    have hge := grownCap_ge w (l.length + ys.length) k 9
    have hcm : grownCap w (l.length + ys.length) k 9 ≤ maxLen := grownCap_le_maxLen w (l.length + ys.length) k 9 (by unfold maxLen; omega)
    have e : strE.n = 1 := rfl
    show World.ownsRow _ _ _ _ _ _ _
    rw [List.length_append, Enc.all_append]
    refine ⟨by rw [List.length_append, hlen, hlen, e, Nat.mul_one], .inr ⟨w.heap.size, _, _, rfl, Nat.le_refl _, heap_alloc_new w.drew _, hge, hcm, ?_, ?_⟩⟩
    · simp only [Array.size_append, List.size_toArray, size_zeroCells, hlen, e]
      show l.length + ys.length + (_ - _) * 1 = _
      omega
    · simp only [Array.toList_append, List.append_assoc]
      rw [← List.append_assoc, e, Nat.mul_one, ← hlen l, ← hlen ys, ← List.length_append]
      exact List.take_left
  have kk : ∀ o, Same w (w.drew.alloc o) := fun o => (Kept.refl _ w).drew.alloc o
  cases a with
  | none =>
    have hl0 : l = [] := by rcases hat with q | ⟨_, _, q, _⟩; exact q; cases q
    subst hl0
    have hr := run_append_nil (P := Tryz.prog) w 46 46 9 i (.string ByteArray.empty) Tryz.underlying46 hi hz ⟨b2, o2, none⟩ ys.length c (strE.all ys) (by rw [hlen, hsz]; exact (Nat.mul_one _).symm) (hall ys _ hys) hm0 (by simp at hl; omega) (by rw [hby]; simp at hl; omega)
    refine ⟨_, _, hr, ?_, kk _⟩
    have := mk 0 (by omega)
    simpa [Enc.all] using this
  | some ad =>
    have hr := run_append_grow (P := Tryz.prog) w 46 46 9 i (.string ByteArray.empty) Tryz.underlying46 hi hz ad l.length l.length (strE.all l) (by rw [hlen, hsz]; exact (Nat.mul_one _).symm) (hall l ad hat) ⟨b2, o2, none⟩ ys.length c (strE.all ys) (by rw [hlen, hsz]; exact (Nat.mul_one _).symm) (hall ys _ hys) (by omega) (by omega) (by rw [hby]; exact growslice_fits (by omega) (by omega))
    exact ⟨_, _, hr, mk l.length (by omega), kk _⟩

/-- What New, and Open, tell. -/
def NewPost (w : World) (d bs m : Nat) (E : Nat) (L : Lg) (r : Ending) (w' : World) : Prop :=
  (if E = 0 then ∃ g, r = .returned (.tuple #[.pointer (some ⟨g, 0, none⟩), .int .i64 0]) ∧ LogI w' g d bs m L ∧ w.heap.size ≤ g else r = .returned (.tuple #[.pointer none, .int .i64 (E : Nat)])) ∧ Same w w'
theorem newPost_err {w w' : World} {d bs m E : Nat} {L : Lg} (h : E ≠ 0) (k : Same w w') : NewPost w d bs m E L (.returned (.tuple #[.pointer none, .int .i64 (E : Nat)])) w' := ⟨by rw [if_neg h], k⟩
set_option maxRecDepth 100000 in
set_option maxHeartbeats 800000 in
theorem wl_new {w : World} {d bs cap m : Nat} {D : Dsk} (h : DiskIn w d bs cap m D) (f c e : Int) :
    Calls Tryz.prog 12 #[.pointer (some ⟨d, 0, none⟩), .int .i64 f, .int .i64 c, .int .i64 e] w (NewPost w d bs m (newE D f c e) (newL f c e)) := by
  have OF := Lib.hid (sd_off h)
  have SZ := Lib.hid (sd_size h)
  have few := h.ok.few
  have l1 := h.box.lt; have l2 := h.safe.lt; have l3 := h.map.lt
  clear h
  cases hoff : D.off
  · rw [hoff] at OF
    by_cases c1 : c < 0
    · have hE : newE D f c e = 2 := by unfold newE; rw [hoff]; simp; omega
      rw [hE]
      clear hE
      go_enter Tryz.func12, Tryz.ntmps12
      go_wp2_with fail
      with_reducible refine OF.out.mono ?_
      rintro r w1 ⟨rfl, rfl⟩
      go_wp2_with fail
      go_ret2
      exact newPost_err (by decide) (Kept.refl _ _)
    by_cases c2 : 256 < c
    · have hE : newE D f c e = 2 := by unfold newE; rw [hoff]; simp; omega
      rw [hE]
      clear hE
      go_enter Tryz.func12, Tryz.ntmps12
      go_wp2_with fail
      with_reducible refine OF.out.mono ?_
      rintro r w1 ⟨rfl, rfl⟩
      go_wp2_with fail
      go_ret2
      exact newPost_err (by decide) (Kept.refl _ _)
    by_cases c3 : f < 0
    · have hE : newE D f c e = 2 := by unfold newE; rw [hoff]; simp; omega
      rw [hE]
      clear hE
      go_enter Tryz.func12, Tryz.ntmps12
      go_wp2_with fail
      with_reducible refine OF.out.mono ?_
      rintro r w1 ⟨rfl, rfl⟩
      go_wp2_with fail
      go_ret2
      exact newPost_err (by decide) (Kept.refl _ _)
    by_cases c4 : (D.s.length : Int) - c < f
    · have hE : newE D f c e = 2 := by unfold newE; rw [hoff, if_neg (by decide), if_pos (by omega)]
      rw [hE]
      clear hE
      go_enter Tryz.func12, Tryz.ntmps12
      go_wp2_with fail
      with_reducible refine OF.out.mono ?_
      rintro r w1 ⟨rfl, rfl⟩
      go_wp2_with fail
      with_reducible refine SZ.out.mono ?_
      rintro r w2 ⟨rfl, rfl⟩
      go_wp2_with fail
      go_ret2
      exact newPost_err (by decide) (Kept.refl _ _)
    by_cases c5 : e < 1
    · have hE : newE D f c e = 9 := by unfold newE; rw [hoff, if_neg (by decide), if_neg (by omega), if_pos (by omega)]
      rw [hE]
      clear hE
      go_enter Tryz.func12, Tryz.ntmps12
      go_wp2_with fail
      with_reducible refine OF.out.mono ?_
      rintro r w1 ⟨rfl, rfl⟩
      go_wp2_with fail
      with_reducible refine SZ.out.mono ?_
      rintro r w2 ⟨rfl, rfl⟩
      go_wp2_with fail
      go_ret2
      exact newPost_err (by decide) (Kept.refl _ _)
    by_cases c6 : 1099511627776 < e
    · have hE : newE D f c e = 9 := by unfold newE; rw [hoff, if_neg (by decide), if_neg (by omega), if_pos (by omega)]
      rw [hE]
      clear hE
      go_enter Tryz.func12, Tryz.ntmps12
      go_wp2_with fail
      with_reducible refine OF.out.mono ?_
      rintro r w1 ⟨rfl, rfl⟩
      go_wp2_with fail
      with_reducible refine SZ.out.mono ?_
      rintro r w2 ⟨rfl, rfl⟩
      go_wp2_with fail
      go_ret2
      exact newPost_err (by decide) (Kept.refl _ _)
    have hE : newE D f c e = 0 := by unfold newE; rw [hoff, if_neg (by decide), if_neg (by omega), if_neg (by omega)]
    rw [hE]
    clear hE
    go_enter Tryz.func12, Tryz.ntmps12
    go_wp2_with fail
    with_reducible refine OF.out.mono ?_
    rintro r w1 ⟨rfl, rfl⟩
    go_wp2_with fail
    with_reducible refine SZ.out.mono ?_
    rintro r w2 ⟨rfl, rfl⟩
    go_wp2_with fail
    go_ret2
    refine ⟨?_, (Kept.refl _ _).alloc _⟩
    rw [if_pos rfl]
    refine ⟨w2.heap.size, rfl, ⟨none, 0, none, 0, ?_, .inl rfl, Nat.le_refl _, fun _ => rfl, .inl rfl, Nat.le_refl _, fun _ => rfl, ?_, fun y hy => (by cases hy), fun y hy => (by cases hy)⟩, Nat.le_refl _⟩
    · have e1 : ((f.toNat : Nat) : Int) = f := by omega
      have e2 : ((c.toNat : Nat) : Int) = c := by omega
      have e3 : ((e.toNat : Nat) : Int) = e := by omega
      unfold lgC newL
      simp only [e1, e2, e3]
      exact Blk.new _ _ _
    · rintro (q | q | q) <;> omega
  · rw [hoff] at OF
    have hE : newE D f c e = 8 := by unfold newE; rw [hoff]; rfl
    rw [hE]
    clear hE
    go_enter Tryz.func12, Tryz.ntmps12
    go_wp2_with fail
    with_reducible refine OF.out.mono ?_
    rintro r w1 ⟨rfl, rfl⟩
    go_wp2_with fail
    go_ret2
    exact newPost_err (by decide) (Kept.refl _ _)
end Go.Proofs.YtlmpkonfclnceaaGreat
