/- A log that is opened again, whatever of what waited is lost, kept, or torn: in plain words. -/
import Derived.Test.YtlmpkonfclnceaaRoomP
namespace Go.Proofs.Ytlmpkonfclnceaa

theorem layS_end (e i : Nat) {l : List (List Nat)} (h : (bdy l).length ≤ 239) (j : Nat) : (layS e i l)[248 + j]? = (stm e i)[j]? := by
  unfold layS
  rw [List.getElem?_append_right (by simp [stm_len]; omega)]
  congr 1
  simp [stm_len]; omega
theorem layS_ep {e i : Nat} (he : e < 256) (hi : i < 256) {l : List (List Nat)} (h : (bdy l).length ≤ 239) : (layS e i l).getD 254 0 = e ∧ (layS e i l).getD 255 0 = i := by
  have h1 : (stm e i)[6]? = some e := by
    unfold stm
    simp
    omega
  have h2 : (stm e i)[7]? = some i := by
    unfold stm
    simp
    omega
  have e1 := layS_end e i h 6
  have e2 := layS_end e i h 7
  rw [h1] at e1
  rw [h2] at e2
  rw [List.getD_eq_getElem?_getD, List.getD_eq_getElem?_getD]
  exact ⟨by rw [show (254 : Nat) = 248 + 6 from rfl, e1]; rfl, by rw [show (255 : Nat) = 248 + 7 from rfl, e2]; rfl⟩
/-- What an elder epoch left of a sector. -/
def Eld (x : List Nat) (e i : Nat) : Prop := x.length = 256 ∧ x.getD 254 0 < e ∧ (x.getD 255 0 = i ∨ x.getD 255 0 = 0)
theorem Eld.mono {x : List Nat} {e f i : Nat} (h : Eld x e i) (q : e ≤ f) : Eld x f i := ⟨h.1, by have := h.2.1; omega, h.2.2⟩
theorem Eld.unread {x : List Nat} {e i : Nat} (h : Eld x e i) (he : e < 256) (hi : i < 256) : readS x (e : Nat) (i : Nat) = none := by
  cases hr : readS x (e : Nat) (i : Nat) with
  | none => rfl
  | some l =>
    obtain ⟨_, _, h3, h4⟩ := readS_some hr
    rw [Int.toNat_natCast, Int.toNat_natCast] at h4
    have h5 := (layS_ep he hi h3).1
    rw [h4] at h5
    have := h.2.1
    omega
theorem eld_zeros {e : Nat} (i : Nat) (h : 1 ≤ e) : Eld zeros e i := by
  refine ⟨zeros_len, ?_, .inr ?_⟩
  · rw [show zeros.getD 254 0 = 0 from by rw [List.getD_eq_getElem?_getD, zeros, List.getElem?_replicate]; rfl]; omega
  · rw [List.getD_eq_getElem?_getD, zeros, List.getElem?_replicate]; rfl
theorem eld_lay {e i : Nat} (he : e < 256) (hi : i < 256) {l : List (List Nat)} (h : (bdy l).length ≤ 239) : Eld (layS e i l) (e + 1) i := by
  obtain ⟨h1, h2⟩ := layS_ep he hi h
  exact ⟨layS_len _ _ h, by omega, .inl h2⟩
theorem mix_get (a b : List Nat) (k j : Nat) (hk : k ≤ a.length) : (a.take k ++ b.drop k)[j]? = if j < k then a[j]? else b[j]? := by
  rw [List.getElem?_append]
  rw [List.length_take, Nat.min_eq_left hk]
  split
  · rw [List.getElem?_take, if_pos (by assumption)]
  · rw [List.getElem?_drop]; congr 1; omega
theorem torn_sec {e i k : Nat} {l : List (List Nat)} {y : List Nat} (he : e < 256) (hi : i < 256) (hl : (bdy l).length ≤ 239) (hy : Eld y e i) (hk : k ≤ 256) :
    ((layS e i l).take k ++ y.drop k = layS e i l) ∨ (readS ((layS e i l).take k ++ y.drop k) (e : Nat) (i : Nat) = none ∧ Eld ((layS e i l).take k ++ y.drop k) (e + 1) i) := by
  obtain ⟨a1, a2⟩ := layS_ep he hi hl
  have al := layS_len e i hl
  obtain ⟨y0, y1, y2⟩ := hy
  have g := fun j => mix_get (layS e i l) y k j (by omega)
  have xl : ((layS e i l).take k ++ y.drop k).length = 256 := by simp [al, y0]; omega
  have gd : ∀ j, ((layS e i l).take k ++ y.drop k).getD j 0 = if j < k then (layS e i l).getD j 0 else y.getD j 0 := by
    intro j
    rw [List.getD_eq_getElem?_getD, g j]
    split
    · rw [List.getD_eq_getElem?_getD]
    · rw [List.getD_eq_getElem?_getD]
  generalize hx : (layS e i l).take k ++ y.drop k = x at *
  have q4 := gd 254
  have q5 := gd 255
  by_cases h1 : k ≤ 254
  · rw [if_neg (by omega)] at q4 q5
    have E : Eld x e i := ⟨xl, by omega, by rw [q5]; exact y2⟩
    exact .inr ⟨E.unread he hi, E.mono (by omega)⟩
  · by_cases h2 : k = 256
    · left
      apply List.ext_getElem?
      intro j
      rw [g j]
      split
      · rfl
      · rw [List.getElem?_eq_none (by omega), List.getElem?_eq_none (by omega)]
    · have h3 : k = 255 := by omega
      subst h3
      rw [if_pos (by omega)] at q4
      rw [if_neg (by omega)] at q5
      by_cases h4 : y.getD 255 0 = i
      · left
        apply List.ext_getElem?
        intro j
        rw [g j]
        split
        · rfl
        · by_cases h5 : j = 255
          · subst h5
            rw [List.getElem?_eq_getElem (by omega), List.getElem?_eq_getElem (by omega)]
            rw [List.getD_eq_getElem?_getD, List.getElem?_eq_getElem (by omega), Option.getD_some] at h4 a2
            rw [h4, a2]
          · rw [List.getElem?_eq_none (by omega), List.getElem?_eq_none (by omega)]
      · right
        have E : Eld x (e + 1) i := ⟨xl, by omega, by rw [q5]; exact y2⟩
        refine ⟨?_, E⟩
        cases hr : readS x (e : Nat) (i : Nat) with
        | none => rfl
        | some m =>
          obtain ⟨_, _, r3, r4⟩ := readS_some hr
          rw [Int.toNat_natCast, Int.toNat_natCast] at r4
          have r5 := (layS_ep he hi r3).2
          rw [r4] at r5
          omega

/-- A sector of this epoch, as it was packed. -/
def NewS (x : List Nat) (e : Nat) (H : List (List (List Nat))) (j : Nat) : Prop := ∃ g, H[j]? = some g ∧ x = layS e j g
theorem NewS.mono {x : List Nat} {e j : Nat} {H G : List (List (List Nat))} (h : NewS x e H j) : NewS x e (H ++ G) j := by
  obtain ⟨g, h1, h2⟩ := h
  refine ⟨g, ?_, h2⟩
  rw [List.getElem?_append_left (List.getElem?_eq_some_iff.1 h1).1]
  exact h1
/-- The groups of texts that go into a ring. -/
structure GsOK (e : Nat) (H : List (List (List Nat))) (m : Nat) : Prop where
  g : ∀ g ∈ H, g ≠ [] ∧ (bdy g).length ≤ 239
  hl : H.length ≤ 12
  ml : m ≤ H.length
  e0 : 1 ≤ e
  e1 : e < 250
/-- Where the power may fail: each sector is old, or new, and may wait. -/
structure DNs (s : List Sec) (e : Nat) (H : List (List (List Nat))) (m : Nat) : Prop where
  ok : GsOK e H m
  len : s.length = 20
  st : ∀ n, waitsAt s n = false → (s.getD n sec0).has = (s.getD n sec0).safe
  p : ∀ j, j < 12 → (Eld (s.getD (2 + j) sec0).has e j ∨ NewS (s.getD (2 + j) sec0).has e H j) ∧ (Eld (s.getD (2 + j) sec0).safe e j ∨ NewS (s.getD (2 + j) sec0).safe e H j) ∧ (waitsAt s (2 + j) = false ∨ NewS (s.getD (2 + j) sec0).has e H j)
  q : ∀ j, j < m → waitsAt s (2 + j) = false ∧ NewS (s.getD (2 + j) sec0).has e H j
/-- Behind a loss of power. -/
structure UPs (s : List Sec) (e : Nat) (H : List (List (List Nat))) (m : Nat) : Prop where
  ok : GsOK e H m
  len : s.length = 20
  st : ∀ n, waitsAt s n = false ∧ (s.getD n sec0).has = (s.getD n sec0).safe
  p : ∀ j, j < 12 → Eld (s.getD (2 + j) sec0).has (e + 1) j ∧ (readS (s.getD (2 + j) sec0).has (e : Nat) (j : Nat) = none ∨ NewS (s.getD (2 + j) sec0).has e H j)
  q : ∀ j, j < m → NewS (s.getD (2 + j) sec0).has e H j
theorem waits_def (s : List Sec) (n : Nat) : waitsAt s n = (s.getD n sec0).waits := rfl
theorem DNs.put {s : List Sec} {e m : Nat} {H : List (List (List Nat))} (h : DNs s e H m) {j : Nat} {g : List (List Nat)} (hm : m ≤ j) (hj : H[j]? = some g) : DNs (putS s (2 + j) (layS e j g)) e H m := by
  have hjl := (List.getElem?_eq_some_iff.1 hj).1
  have h12 : j < 12 := by have := h.ok.hl; omega
  have gp : ∀ n, (putS s (2 + j) (layS e j g)).getD n sec0 = if n = 2 + j then ⟨layS e j g, (s.getD (2 + j) sec0).safe, true⟩ else s.getD n sec0 := by
    intro n
    unfold putS
    rw [getD_set]
    by_cases q : n = 2 + j
    · rw [if_pos ⟨q, by rw [h.len]; omega⟩, if_pos q]
    · rw [if_neg (fun z => q z.1), if_neg q]
  have N : NewS (layS e j g) e H j := ⟨g, hj, rfl⟩
  refine ⟨h.ok, by rw [putS_len]; exact h.len, fun n hw => ?_, fun i hi => ?_, fun i hi => ?_⟩
  · rw [waits_def, gp] at hw
    rw [gp]
    split
    · rename_i q; rw [if_pos q] at hw; cases hw
    · rename_i q; rw [if_neg q] at hw; exact h.st n hw
  · rw [waits_def, gp]
    by_cases q : i = j
    · subst q
      rw [if_pos rfl]
      exact ⟨.inr N, (h.p i hi).2.1, .inr N⟩
    · rw [if_neg (by omega)]
      exact h.p i hi
  · rw [waits_def, gp, if_neg (by omega)]
    exact h.q i hi
theorem DNs.settle {s : List Sec} {e m : Nat} {H : List (List (List Nat))} (h : DNs s e H m) : DNs (settle s) e H m := by
  refine ⟨h.ok, by rw [settle_len]; exact h.len, fun n _ => ?_, fun i hi => ?_, fun i hi => ?_⟩
  · rw [settle_getD]; rfl
  · rw [waits_def, settle_getD]
    exact ⟨(h.p i hi).1, (h.p i hi).1, .inl rfl⟩
  · rw [waits_def, settle_getD]
    exact ⟨rfl, (h.q i hi).2⟩
theorem callD_off {D : Dsk} (s : List Sec) : ((callD D s).2 = 0 → (callD D s).1.off = false ∧ (callD D s).1.s = s) ∧ ((callD D s).2 ≠ 0 → (callD D s).1.off = true) ∧ ((callD D s).1.s = s ∨ (callD D s).1.s = D.s) := by
  unfold callD
  simp only
  by_cases h : D.after = 0
  · refine ⟨fun q => ?_, fun _ => by simp [h], ?_⟩
    · rw [if_pos h] at q; cases q
    · split
      · exact .inr rfl
      · exact .inl rfl
  · refine ⟨fun _ => ⟨by simp [h], by rw [if_neg (fun q => h q.1)]⟩, fun q => ?_, .inl (by rw [if_neg (fun q => h q.1)])⟩
    rw [if_neg h] at q
    exact absurd rfl q
theorem wrW_keeps {e m : Nat} {H : List (List (List Nat))} : ∀ (G : List (List (List Nat))) (D : Dsk) (f : Nat), DNs D.s e H m → D.off = false → m ≤ f → (∀ i, G[i]? = H[f + i]?) →
    ((wrW D (2 + f) (packL e f G)).2 = 0 → (wrW D (2 + f) (packL e f G)).1.off = false ∧ (∀ n, n < 2 + f → (wrW D (2 + f) (packL e f G)).1.s.getD n sec0 = D.s.getD n sec0) ∧ ∀ j, f ≤ j → j < f + G.length → NewS ((wrW D (2 + f) (packL e f G)).1.s.getD (2 + j) sec0).has e H j) ∧
    ((wrW D (2 + f) (packL e f G)).2 ≠ 0 → (wrW D (2 + f) (packL e f G)).1.off = true) ∧ DNs (wrW D (2 + f) (packL e f G)).1.s e H m
  | [], D, f, h, ho, hf, hg => by
    refine ⟨fun _ => ⟨ho, fun n _ => rfl, fun j h1 h2 => ?_⟩, fun q => absurd rfl q, h⟩
    simp at h2
    omega
  | g :: G, D, f, h, ho, hf, hg => by
    have hj : H[f]? = some g := by have := hg 0; simpa using this.symm
    have hjl := (List.getElem?_eq_some_iff.1 hj).1
    have h12 := h.ok.hl
    have hgm : g ∈ H := List.mem_of_getElem? hj
    have hw : writeD D ((2 + f : Nat) : Int) (layS e f g) = callD D (putS D.s (2 + f) (layS e f g)) := by
      unfold writeD
      rw [if_pos, if_pos (layS_len _ _ (h.ok.g g hgm).2), Int.toNat_natCast]
      unfold errD
      rw [ho, h.len, if_neg (by decide), if_neg (by omega)]
    have hp := h.put hf hj
    obtain ⟨c1, c2, c3⟩ := callD_off (D := D) (putS D.s (2 + f) (layS e f g))
    simp only [packL, wrW]
    rw [hw]
    by_cases h0 : (callD D (putS D.s (2 + f) (layS e f g))).2 = 0
    · rw [if_pos h0]
      obtain ⟨o1, s1⟩ := c1 h0
      have ih := wrW_keeps G (callD D (putS D.s (2 + f) (layS e f g))).1 (f + 1) (by rw [s1]; exact hp) o1 (by omega) (fun i => by have := hg (i + 1); rw [show f + 1 + i = f + (i + 1) from by omega]; simpa using this)
      rw [show 2 + (f + 1) = 2 + f + 1 from rfl] at ih
      refine ⟨fun q => ?_, ih.2.1, ih.2.2⟩
      obtain ⟨i1, i2, i3⟩ := ih.1 q
      have gp : ∀ n, n ≤ 2 + f → (putS D.s (2 + f) (layS e f g)).getD n sec0 = if n = 2 + f then ⟨layS e f g, (D.s.getD (2 + f) sec0).safe, true⟩ else D.s.getD n sec0 := by
        intro n hn
        unfold putS
        rw [getD_set]
        by_cases q : n = 2 + f
        · rw [if_pos ⟨q, by rw [h.len]; omega⟩, if_pos q]
        · rw [if_neg (fun z => q z.1), if_neg q]
      refine ⟨i1, fun n hn => ?_, fun j h1 h2 => ?_⟩
      · rw [i2 n (by omega), s1, gp n (by omega), if_neg (by omega)]
      · by_cases q2 : j = f
        · subst q2
          rw [i2 (2 + j) (by omega), s1, gp _ (by omega), if_pos rfl]
          exact ⟨g, hj, rfl⟩
        · exact i3 j (by omega) (by simp at h2; omega)
    · rw [if_neg h0]
      refine ⟨fun q => absurd q h0, c2, ?_⟩
      rcases c3 with q | q
      · rw [q]; exact hp
      · rw [q]; exact h
theorem wrSync_keeps {D : Dsk} {e m : Nat} {H : List (List (List Nat))} (h : DNs D.s e H m) (ho : D.off = false) :
    ((wrSync D (2 + m) (packL e m (H.drop m))).2 = 0 → (wrSync D (2 + m) (packL e m (H.drop m))).1.off = false ∧ DNs (wrSync D (2 + m) (packL e m (H.drop m))).1.s e H H.length ∧ ∀ n, waitsAt (wrSync D (2 + m) (packL e m (H.drop m))).1.s n = false) ∧
    ((wrSync D (2 + m) (packL e m (H.drop m))).2 ≠ 0 → (wrSync D (2 + m) (packL e m (H.drop m))).1.off = true ∧ DNs (wrSync D (2 + m) (packL e m (H.drop m))).1.s e H m) := by
  obtain ⟨w1, w2, w3⟩ := wrW_keeps (H.drop m) D m h ho (Nat.le_refl _) (fun i => by rw [List.getElem?_drop])
  have hml := h.ok.ml
  rw [List.length_drop] at w1
  unfold wrSync
  generalize wrW D (2 + m) (packL e m (H.drop m)) = W at w1 w2 w3 ⊢
  by_cases h0 : W.2 = 0
  · rw [if_pos h0]
    obtain ⟨o1, -, n1⟩ := w1 h0
    have hs : syncD W.1 = callD W.1 (settle W.1.s) := by unfold syncD; rw [o1]; rfl
    rw [hs]
    obtain ⟨c1, c2, c3⟩ := callD_off (D := W.1) (settle W.1.s)
    refine ⟨fun q => ?_, fun q => ⟨c2 q, ?_⟩⟩
    · obtain ⟨o2, s2⟩ := c1 q
      refine ⟨o2, ?_, fun n => by rw [s2, waits_def, settle_getD]; rfl⟩
      rw [s2]
      have hd := w3.settle
      refine ⟨⟨hd.ok.g, hd.ok.hl, Nat.le_refl _, hd.ok.e0, hd.ok.e1⟩, hd.len, hd.st, hd.p, fun j hj => ?_⟩
      refine ⟨by rw [waits_def, settle_getD]; rfl, ?_⟩
      by_cases hjm : j < m
      · exact (hd.q j hjm).2
      · rw [settle_getD]
        exact n1 j (by omega) (by omega)
    · rcases c3 with q2 | q2
      · rw [q2]; exact w3.settle
      · rw [q2]; exact w3
  · rw [if_neg h0]
    exact ⟨fun q => absurd q h0, fun q => ⟨w2 q, w3⟩⟩
theorem powS_still (s : List Sec) (f : List Nat) (n : Nat) : waitsAt (powS s f) n = false ∧ ((powS s f).getD n sec0).has = ((powS s f).getD n sec0).safe := by
  unfold powS
  rw [waits_def, settle_getD]
  exact ⟨rfl, rfl⟩
theorem DNs.power {s : List Sec} {e m : Nat} {H : List (List (List Nat))} (h : DNs s e H m) {f : List Nat} (hf : Bts f) : UPs (powS s f) e H m := by
  have he := h.ok.e1
  refine ⟨h.ok, by rw [powS_len]; exact h.len, fun n => powS_still _ _ n, fun j hj => ?_, fun j hj => ?_⟩
  · obtain ⟨p1, p2⟩ := powS_at (s := s) hf (2 + j)
    have key : ∀ x, (Eld x e j ∨ NewS x e H j) → Eld x (e + 1) j ∧ (readS x (e : Nat) (j : Nat) = none ∨ NewS x e H j) := by
      intro x hx
      rcases hx with hx | ⟨g, hg, hx⟩
      · exact ⟨hx.mono (by omega), .inl (hx.unread (by omega) (by omega))⟩
      · exact ⟨by rw [hx]; exact eld_lay (by omega) (by omega) (h.ok.g g (List.mem_of_getElem? hg)).2, .inr ⟨g, hg, hx⟩⟩
    cases hw : waitsAt s (2 + j)
    · rw [p1 hw]
      exact key _ (h.p j hj).1
    · obtain ⟨k, hk, e1⟩ := p2 hw
      obtain ⟨h1, h2, h3⟩ := h.p j hj
      rw [hw] at h3
      obtain ⟨g, hg, hx⟩ := h3.resolve_left (by decide)
      have hg2 := (h.ok.g g (List.mem_of_getElem? hg)).2
      rw [e1]
      simp only [powOne]
      rw [hx]
      rcases h2 with h2 | ⟨g', hg', h2⟩
      · rcases torn_sec (k := k) (by omega) (by omega) hg2 h2 hk with q | ⟨q1, q2⟩
        · rw [q]
          exact key _ (.inr ⟨g, hg, rfl⟩)
        · exact ⟨q2, .inl q1⟩
      · rw [hg] at hg'
        cases hg'
        rw [h2, List.take_append_drop]
        exact key _ (.inr ⟨g, hg, rfl⟩)
  · obtain ⟨p1, p2⟩ := powS_at (s := s) hf (2 + j)
    obtain ⟨h1, h2⟩ := h.q j hj
    rw [p1 h1]
    exact h2
theorem UPs.power {s : List Sec} {e m : Nat} {H : List (List (List Nat))} (h : UPs s e H m) {f : List Nat} (hf : Bts f) : UPs (powS s f) e H m := by
  have hh : ∀ n, ((powS s f).getD n sec0).has = (s.getD n sec0).has := fun n => (powS_at (s := s) hf n).1 (h.st n).1
  refine ⟨h.ok, by rw [powS_len]; exact h.len, fun n => powS_still _ _ n, fun j hj => ?_, fun j hj => ?_⟩
  · rw [hh]; exact h.p j hj
  · rw [hh]; exact h.q j hj
/-- What is read of a ring. -/
theorem scan_pre {e : Nat} {H : List (List (List Nat))} (he : 1 ≤ e ∧ e < 250) (hg : ∀ g ∈ H, g ≠ [] ∧ (bdy g).length ≤ 239) : ∀ (xs : List (List Nat)) (i : Nat), i + xs.length ≤ 12 →
    (∀ j x, xs[j]? = some x → readS x (e : Nat) ((i + j : Nat) : Int) = none ∨ NewS x e H (i + j)) →
    ∃ t, t ≤ (H.drop i).length ∧ (∀ k, k ≤ xs.length → (∀ j x, j < k → xs[j]? = some x → NewS x e H (i + j)) → k ≤ t) ∧ (scanS (e : Nat) i xs).1 = ((H.drop i).take t).flatten
  | [], i, _, _ => ⟨0, Nat.zero_le _, fun k hk _ => hk, by simp [scanS]⟩
  | x :: xs, i, hi, hx => by
    have rd : ∀ {g}, H[i]? = some g → x = layS e i g → readS x (e : Nat) (i : Nat) = some g := by
      intro g h1 h2
      have h3 := hg g (List.mem_of_getElem? h1)
      rw [h2]
      have := readS_lay (e := (e : Nat)) (a := (i : Nat)) (l := g) (by simp at hi; unfold okE; simp; omega) h3.1 h3.2
      simpa using this
    simp only [List.length_cons] at hi
    rcases hx 0 x rfl with h0 | ⟨g, h1, h2⟩
    · refine ⟨0, Nat.zero_le _, fun k hk hk2 => ?_, ?_⟩
      · rcases Nat.eq_zero_or_pos k with q | q
        · omega
        · obtain ⟨g, h1, h2⟩ := hk2 0 x q rfl
          have h3 := rd h1 h2
          rw [show readS x (e : Nat) (i : Nat) = none from h0] at h3
          cases h3
      · simp only [scanS]
        rw [show readS x (e : Nat) (i : Nat) = none from h0]
        simp
    · have h1' : H[i]? = some g := h1
      obtain ⟨t, ht, hk, hs⟩ := scan_pre he hg xs (i + 1) (by omega) (fun j y hj => by have := hx (j + 1) y (by simpa using hj); rw [show i + (j + 1) = i + 1 + j from by omega] at this; exact this)
      have hd : H.drop i = g :: H.drop (i + 1) := by
        have hl := (List.getElem?_eq_some_iff.1 h1').1
        rw [List.drop_eq_getElem_cons hl]
        congr 1
        exact (List.getElem?_eq_some_iff.1 h1').2
      refine ⟨t + 1, by rw [hd, List.length_cons]; omega, fun k hkl hk2 => ?_, ?_⟩
      · rcases Nat.eq_zero_or_pos k with q | q
        · omega
        · have := hk (k - 1) (by simp at hkl; omega) (fun j y hj hy => by have := hk2 (j + 1) y (by omega) (by simpa using hy); rw [show i + (j + 1) = i + 1 + j from by omega] at this; exact this)
          omega
      · simp only [scanS]
        rw [rd h1' h2, hd, List.take_succ_cons, List.flatten_cons]
        simp only [hs]
theorem gs_flat (l : List (List Nat)) : (gs l).flatten = l ∧ ∀ g ∈ gs l, g ≠ [] := by
  suffices h : ∀ n (l : List (List Nat)), l.length ≤ n → (gs l).flatten = l ∧ ∀ g ∈ gs l, g ≠ [] from h _ l (Nat.le_refl _)
  intro n
  induction n with
  | zero =>
    intro l hl
    rw [show l = [] from List.eq_nil_of_length_eq_zero (by omega)]
    exact ⟨rfl, fun g hg => by cases hg⟩
  | succ n ih =>
    intro l hl
    by_cases h : l = []
    · subst h
      exact ⟨rfl, fun g hg => by cases hg⟩
    · obtain ⟨h1, h2⟩ := gs_cons l h
      have h3 := ih (l.drop (grp 0 l)) (by rw [List.length_drop]; omega)
      rw [h1]
      refine ⟨by rw [List.flatten_cons, h3.1, List.take_append_drop], fun g hg => ?_⟩
      rcases List.mem_cons.1 hg with rfl | hg
      · intro q
        rcases List.take_eq_nil_iff.1 q with q | q
        · omega
        · exact h q
      · exact h3.2 g hg

/-- A log upon a disk, on the way. -/
structure KI (D : Dsk) (L : Lg) (n : Nat) : Prop where
  off : D.off = false
  first : L.first = 2
  count : L.count = 12
  clo : L.closed = false
  bad : L.bad = false
  ep : L.epoch ≤ n
  lok : LOK L 20
  st : ∀ n, waitsAt D.s n = false
  g : ∃ G : List (List (List Nat)), G.length = L.at_ ∧ G.flatten = L.has ∧ DNs D.s L.epoch G L.at_
/-- Where the power may fail. -/
structure DI (D : Dsk) (L : Lg) (n : Nat) : Prop where
  ep : L.epoch ≤ n
  g : ∃ H : List (List (List Nat)), H.flatten = L.has ++ L.wait ∧ (H.take L.at_).flatten = L.has ∧ DNs D.s L.epoch H L.at_
/-- Behind a loss of power. -/
structure UI (D : Dsk) (L : Lg) (n : Nat) : Prop where
  off : D.off = false
  ep : L.epoch ≤ n
  g : ∃ H : List (List (List Nat)), H.flatten = L.has ++ L.wait ∧ (H.take L.at_).flatten = L.has ∧ UPs D.s L.epoch H L.at_
theorem KI.more {D : Dsk} {L : Lg} {n : Nat} (h : KI D L n) : ∃ G : List (List (List Nat)), G.length = L.at_ ∧ G.flatten = L.has ∧ DNs D.s L.epoch (G ++ gs L.wait) L.at_ := by
  obtain ⟨G, g1, g2, g3⟩ := h.g
  refine ⟨G, g1, g2, ⟨⟨fun g hg => ?_, ?_, ?_, g3.ok.e0, g3.ok.e1⟩, g3.len, g3.st, fun j hj => ?_, fun j hj => ?_⟩⟩
  · rcases List.mem_append.1 hg with q | q
    · exact g3.ok.g g q
    · exact ⟨(gs_flat L.wait).2 g q, (gs_ok h.lok.short h.lok.wb g q).2⟩
  · have := h.lok.room h.clo
    rw [h.count] at this
    rw [List.length_append, g1]
    exact this
  · rw [List.length_append]; omega
  · obtain ⟨a, b, c⟩ := g3.p j hj
    exact ⟨a.imp_right NewS.mono, b.imp_right NewS.mono, c.imp_right NewS.mono⟩
  · exact ⟨(g3.q j hj).1, (g3.q j hj).2.mono⟩
theorem KI.di {D : Dsk} {L : Lg} {n : Nat} (h : KI D L n) : DI D L n := by
  obtain ⟨G, g1, g2, g3⟩ := h.more
  refine ⟨h.ep, G ++ gs L.wait, ?_, ?_, g3⟩
  · rw [List.flatten_append, g2, (gs_flat _).1]
  · rw [← g1, List.take_left, g2]
theorem keep_start : KI (newD 20) (newL 2 12 1) 1 := by
  have hs : ∀ n, (newD 20).s.getD n sec0 = sec0 := by
    intro n
    rw [List.getD_eq_getElem?_getD]
    cases q : (newD 20).s[n]? with
    | none => rfl
    | some x => exact List.eq_of_mem_replicate (List.mem_of_getElem? q)
  have hw : ∀ n, waitsAt (newD 20).s n = false := fun n => by rw [waits_def, hs]; rfl
  refine ⟨rfl, rfl, rfl, rfl, rfl, Nat.le_refl _, newL_ok (D := newD 20) (by kernel_rfl), hw, [], rfl, rfl, ?_⟩
  refine ⟨⟨fun g hg => (by cases hg), Nat.zero_le _, Nat.le_refl _, Nat.le_refl _, by show 1 < 250; decide⟩, by kernel_rfl, fun n _ => by rw [hs]; rfl, fun j hj => ?_, fun j hj => absurd hj (Nat.not_lt_zero _)⟩
  rw [hs]
  exact ⟨.inl (eld_zeros j (Nat.le_refl _)), .inl (eld_zeros j (Nat.le_refl _)), .inl (hw _)⟩
theorem KI.alive {D : Dsk} {L : Lg} {n : Nat} (h : KI D L n) : aliveE L = 0 := by unfold aliveE; rw [h.bad, h.clo]; rfl
theorem KI.add {D : Dsk} {L : Lg} {n : Nat} (h : KI D L n) {s : List Nat} (hs : Bts s) :
    KI D (addL L s) n ∧ (addL L s).has = L.has ∧ (addL L s).has ++ (addL L s).wait = if addE L s = 0 then L.has ++ L.wait ++ [s] else L.has ++ L.wait := by
  have hok := addL_ok h.lok hs
  unfold addL at hok ⊢
  split
  · rename_i q
    rw [if_pos q] at hok
    exact ⟨⟨h.off, h.first, h.count, h.clo, h.bad, h.ep, hok, h.st, h.g⟩, rfl, by simp⟩
  · exact ⟨h, rfl, rfl⟩
theorem KI.brk {D : Dsk} {L : Lg} {n : Nat} (h : KI D L n) {a : Int} (ha : 0 ≤ a) (o : Bool) : KI (breakD D a o).1 L n := by
  unfold breakD
  rw [h.off, if_neg (by decide), if_neg (by omega)]
  exact ⟨rfl, h.first, h.count, h.clo, h.bad, h.ep, h.lok, h.st, h.g⟩
theorem KI.sync {D : Dsk} {L : Lg} {n : Nat} (h : KI D L n) :
    ((syncL L D).2.2 = 0 → KI (syncL L D).2.1 (syncL L D).1 n ∧ (syncL L D).1.has = L.has ++ L.wait ∧ (syncL L D).1.wait = [] ∧ (syncL L D).1.epoch = L.epoch) ∧
    ((syncL L D).2.2 ≠ 0 → (syncL L D).2.1.off = true ∧ DI (syncL L D).2.1 (syncL L D).1 n ∧ (syncL L D).1.has = L.has ∧ (syncL L D).1.wait = L.wait ∧ (syncL L D).1.epoch = L.epoch) := by
  have hok := syncL_ok h.lok D
  have hal := h.alive
  unfold syncL at hok ⊢
  rw [if_neg (by omega)] at hok ⊢
  by_cases hw : L.wait = []
  · rw [if_pos hw]
    exact ⟨fun _ => ⟨h, by rw [hw]; simp, hw, rfl⟩, fun q => absurd rfl q⟩
  · rw [if_neg hw] at hok ⊢
    obtain ⟨G, g1, g2, g3⟩ := h.more
    obtain ⟨w1, w2⟩ := wrSync_keeps g3 h.off
    have e1 : (G ++ gs L.wait).drop L.at_ = gs L.wait := by rw [← g1, List.drop_left]
    rw [e1] at w1 w2
    rw [h.first] at hok ⊢
    unfold packS at hok ⊢
    generalize wrSync D (2 + L.at_) (packL L.epoch L.at_ (gs L.wait)) = R at w1 w2 hok ⊢
    by_cases h0 : R.2 = 0
    · rw [if_pos h0] at hok ⊢
      obtain ⟨o1, d1, s1⟩ := w1 h0
      have hl : (G ++ gs L.wait).length = L.at_ + prt L.wait := by rw [List.length_append, g1]; rfl
      refine ⟨fun _ => ⟨⟨o1, rfl, h.count, h.clo, h.bad, h.ep, hok, s1, G ++ gs L.wait, hl, ?_, ?_⟩, rfl, rfl, rfl⟩, fun q => absurd rfl q⟩
      · rw [List.flatten_append, g2, (gs_flat _).1]
      · rw [hl] at d1; exact d1
    · rw [if_neg h0] at hok ⊢
      obtain ⟨o1, d1⟩ := w2 h0
      refine ⟨fun q => absurd q h0, fun _ => ⟨o1, ⟨h.ep, G ++ gs L.wait, ?_, ?_, d1⟩, rfl, rfl, rfl⟩⟩
      · rw [List.flatten_append, g2, (gs_flat _).1]
      · show List.flatten (List.take L.at_ _) = _
        rw [← g1, List.take_left, g2]
theorem KI.restart {D : Dsk} {L : Lg} {n : Nat} (h : KI D L n) (hn : n < 240) : restartE L ((L.epoch : Int) + 1) = 0 ∧ KI D (restartL L ((L.epoch : Int) + 1)) (n + 1) ∧ (restartL L ((L.epoch : Int) + 1)).has = [] ∧ (restartL L ((L.epoch : Int) + 1)).wait = [] := by
  have hep := h.ep
  have e0 : restartE L ((L.epoch : Int) + 1) = 0 := by unfold restartE; rw [h.bad, if_neg (by decide), if_neg (by omega), if_neg (by omega)]
  have hok := restartL_ok h.lok ((L.epoch : Int) + 1)
  refine ⟨e0, ?_⟩
  unfold restartL at hok ⊢
  rw [if_pos e0] at hok ⊢
  have e1 : ((L.epoch : Int) + 1).toNat = L.epoch + 1 := by omega
  rw [e1] at hok ⊢
  obtain ⟨G, g1, g2, g3⟩ := h.g
  have key : ∀ j, j < 12 → ∀ x, (Eld x L.epoch j ∨ NewS x L.epoch G j) → Eld x (L.epoch + 1) j := by
    intro j hj x hx
    rcases hx with hx | ⟨g, hg, hx⟩
    · exact hx.mono (by omega)
    · rw [hx]; exact eld_lay (by omega) (by omega) (g3.ok.g g (List.mem_of_getElem? hg)).2
  refine ⟨⟨h.off, h.first, h.count, rfl, rfl, by simp; omega, hok, h.st, [], rfl, rfl, ?_⟩, rfl, rfl⟩
  exact ⟨⟨fun g hg => (by cases hg), Nat.zero_le _, Nat.le_refl _, by show 1 ≤ L.epoch + 1; omega, by show L.epoch + 1 < 250; omega⟩, g3.len, g3.st, fun j hj => ⟨.inl (key j hj _ (g3.p j hj).1), .inl (key j hj _ (g3.p j hj).2.1), .inl (h.st _)⟩, fun j hj => absurd hj (Nat.not_lt_zero _)⟩
theorem DI.power {D : Dsk} {L : Lg} {n : Nat} (h : DI D L n) {f : List Nat} (hf : Bts f) : UI (powerD D f) L n := by
  obtain ⟨H, h1, h2, h3⟩ := h.g
  exact ⟨rfl, h.ep, H, h1, h2, h3.power hf⟩
theorem UI.power {D : Dsk} {L : Lg} {n : Nat} (h : UI D L n) {f : List Nat} (hf : Bts f) : UI (powerD D f) L n := by
  obtain ⟨H, h1, h2, h3⟩ := h.g
  exact ⟨rfl, h.ep, H, h1, h2, h3.power hf⟩
theorem UI.opens {D : Dsk} {L : Lg} {n : Nat} (h : UI D L n) (hD : D.OK) (hn : n < 240) :
    newE D 2 12 (L.epoch : Nat) = 0 ∧ (openL D 2 12 (L.epoch : Nat)).has <+: L.has ++ L.wait ∧ L.has.length ≤ (openL D 2 12 (L.epoch : Nat)).has.length ∧ (openL D 2 12 (L.epoch : Nat)).epoch = L.epoch ∧
    restartE (openL D 2 12 (L.epoch : Nat)) ((L.epoch : Int) + 1) = 0 ∧ KI D (restartL (openL D 2 12 (L.epoch : Nat)) ((L.epoch : Int) + 1)) (n + 1) ∧
    (restartL (openL D 2 12 (L.epoch : Nat)) ((L.epoch : Int) + 1)).has = [] ∧ (restartL (openL D 2 12 (L.epoch : Nat)) ((L.epoch : Int) + 1)).wait = [] := by
  obtain ⟨H, h1, h2, h3⟩ := h.g
  have hep := h.ep
  have he0 := h3.ok.e0
  have e0 : newE D 2 12 (L.epoch : Nat) = 0 := by
    unfold newE
    rw [h.off, h3.len, if_neg (by decide), if_neg (by omega), if_neg (by omega)]
  have hok := openL_ok hD e0
  have hE : (openL D 2 12 (L.epoch : Nat)).epoch = L.epoch := by show ((L.epoch : Nat) : Int).toNat = _; omega
  have hB : (openL D 2 12 (L.epoch : Nat)).bad = false := rfl
  have hx : ∀ j x, (ringS D 2 12)[j]? = some x → j < 12 ∧ x = (D.s.getD (2 + j) sec0).has := by
    intro j x hj
    have hl := (List.getElem?_eq_some_iff.1 hj).1
    rw [ringS_len] at hl
    refine ⟨hl, ?_⟩
    rw [ringS_get D 2 12 j hl] at hj
    obtain rfl := Option.some.inj hj
    unfold readD
    rw [if_pos, Int.toNat_natCast]
    unfold errD
    rw [h.off, h3.len, if_neg (by decide), if_neg (by omega)]
  obtain ⟨t, t1, t2, t3⟩ := scan_pre (H := H) ⟨he0, h3.ok.e1⟩ h3.ok.g (ringS D 2 12) 0 (by rw [ringS_len]; omega) (fun j x hj => by
    obtain ⟨a, b⟩ := hx j x hj
    rw [Nat.zero_add, b]
    exact (h3.p j a).2)
  have ht : L.at_ ≤ t := t2 L.at_ (by rw [ringS_len]; have := h3.ok.ml; have := h3.ok.hl; omega) (fun j x hj hx' => by
    obtain ⟨a, b⟩ := hx j x hx'
    rw [Nat.zero_add, b]
    exact h3.q j hj)
  rw [List.drop_zero] at t1 t3
  have hh : (openL D 2 12 (L.epoch : Nat)).has = (H.take t).flatten := t3
  have e1 : restartE (openL D 2 12 (L.epoch : Nat)) ((L.epoch : Int) + 1) = 0 := by unfold restartE; rw [hB, hE, if_neg (by decide), if_neg (by omega), if_neg (by omega)]
  refine ⟨e0, ?_, ?_, hE, e1, ?_⟩
  · rw [hh, ← h1]
    exact ⟨(H.drop t).flatten, by rw [← List.flatten_append, List.take_append_drop]⟩
  · rw [hh, ← h2]
    have e2 : H.take t = H.take L.at_ ++ (H.take t).drop L.at_ := by
      have := (List.take_append_drop L.at_ (H.take t)).symm
      rw [List.take_take, Nat.min_eq_left ht] at this
      exact this
    rw [e2, List.flatten_append, List.length_append]
    omega
  · have hok2 := restartL_ok hok ((L.epoch : Int) + 1)
    rw [h3.len] at hok2
    unfold restartL at hok2 ⊢
    rw [if_pos e1] at hok2 ⊢
    have e3 : ((L.epoch : Int) + 1).toNat = L.epoch + 1 := by omega
    rw [e3] at hok2 ⊢
    refine ⟨⟨h.off, rfl, rfl, rfl, rfl, by simp; omega, hok2, fun n => (h3.st n).1, [], rfl, rfl, ?_⟩, rfl, rfl⟩
    refine ⟨⟨fun g hg => (by cases hg), Nat.zero_le _, Nat.le_refl _, by show 1 ≤ L.epoch + 1; omega, by show L.epoch + 1 < 250; omega⟩, h3.len, fun n _ => (h3.st n).2, fun j hj => ?_, fun j hj => absurd hj (Nat.not_lt_zero _)⟩
    have hp := (h3.p j hj).1
    exact ⟨.inl hp, .inl (by rw [← (h3.st (2 + j)).2]; exact hp), .inl (h3.st _).1⟩
end Go.Proofs.Ytlmpkonfclnceaa
