/- Of events that may be: times rise, and no two transactions overlap that wrote one key; no memory in sight. -/
import Derived.Test.YtaeiajodbpgbbaaBk0
import Derived.Test.YtaeiajodbpgbbaaHv7
namespace Go.Proofs.Ytaeiajodbpgbbaa
open Go.RowKit Go.Sort Go.Shelf

/-- All of them may be, one behind the other. -/
def OkB : HBk → List HEv → Prop
  | _, [] => True
  | b, e :: l => b.may e = 0 ∧ OkB (b.note e) l
theorem OkB.chk : ∀ {l : List HEv} {b : HBk} (_ : OkB b l) (i : Nat), chkB b i l = (i + l.length, 0)
  | [], _, _, _ => rfl
  | e :: l, b, h, i => by
    obtain ⟨h1, h2⟩ := h
    unfold chkB
    rw [if_pos h1, h2.chk]
    simp
    omega
theorem OkB.take : ∀ {l : List HEv} {b : HBk} (_ : OkB b l) (k : Nat), OkB b (l.take k)
  | [], _, _, _ => by simp [OkB]
  | _ :: _, _, _, 0 => by simp [OkB]
  | e :: l, b, h, k + 1 => ⟨h.1, h.2.take k⟩
theorem chk_split : ∀ (l : List HEv) (b : HBk) (i : Nat), ∃ n, n ≤ l.length ∧ (chkB b i l).1 = i + n ∧ OkB b (l.take n)
  | [], b, i => ⟨0, Nat.le_refl _, rfl, trivial⟩
  | e :: l, b, i => by
    unfold chkB
    split
    · rename_i h
      obtain ⟨n, h1, h2, h3⟩ := chk_split l (b.note e) (i + 1)
      exact ⟨n + 1, by simp; omega, by rw [h2]; omega, h, h3⟩
    · exact ⟨0, by simp, rfl, trivial⟩
theorem may_zero {b : HBk} {e : HEv} (h : b.may e = 0) : ¬ (e.k = 0 ∧ ((b.txns e.x).isSome = true ∨ e.t ≤ b.top)) ∧ ¬ (e.k ≠ 0 ∧ (b.of e.x).live = false) ∧ ¬ (e.k = 3 ∧ e.t ≤ b.top) ∧ ¬ (e.k = 3 ∧ b.meets (b.of e.x) = true) := by
  unfold HBk.may at h
  split at h
  · cases h
  split at h
  · cases h
  split at h
  · cases h
  split at h
  · cases h
  split at h
  · cases h
  split at h
  · cases h
  split at h
  · cases h
  rename_i h1 h2 h3 h4 h5 h6
  exact ⟨by assumption, by assumption, by assumption, by assumption⟩
theorem of_note (b : HBk) (e : HEv) (id : Int) : (b.note e).of id = if id = e.x then (b.of e.x).note e else b.of id := by
  unfold HBk.of HBk.note
  dsimp only
  split <;> rfl
structure InvB (p : List HEv) (b : HBk) : Prop where
  top : ∀ e ∈ p, e.t ≤ b.top
  kn : ∀ e ∈ p, (b.txns e.x).isSome = true
  st : ∀ e ∈ p, e.k = 0 → (b.of e.x).start = e.t
  wr : ∀ e ∈ p, e.k = 2 → e.key ∈ (b.of e.x).keys
  dead : ∀ e ∈ p, e.k = 3 → (b.of e.x).live = false
  cm : ∀ e ∈ p, e.k = 3 → ∀ f ∈ p, f.k = 2 → f.x = e.x → ∃ y ∈ b.log, y.1 = e.t ∧ f.key ∈ y.2
  srt : (cmts p).Pairwise (· < ·)
  nov : ∀ c ∈ p, ∀ d ∈ p, c.k = 3 → d.k = 3 → c.x ≠ d.x → ∀ bc ∈ p, ∀ bd ∈ p, bc.k = 0 → bd.k = 0 → bc.x = c.x → bd.x = d.x → ∀ wc ∈ p, ∀ wd ∈ p, wc.k = 2 → wd.k = 2 → wc.x = c.x → wd.x = d.x → wc.key = wd.key → bc.t < d.t → bd.t < c.t → False
theorem note_start (t : HTx) (e : HEv) (h : e.k ≠ 0) : (t.note e).start = t.start := by
  unfold HTx.note
  rw [if_neg h]
  split
  · rfl
  split <;> rfl
theorem note_keys (t : HTx) (e : HEv) (k : List UInt8) (h : k ∈ t.keys) : k ∈ (t.note e).keys := by
  unfold HTx.note
  split
  · exact h
  split
  · exact (mem_addK _ _ _).2 (.inr h)
  split
  · exact h
  · exact h
theorem InvB.fresh {p : List HEv} {b : HBk} (h : InvB p b) {e : HEv} (hm : b.may e = 0) : (∀ c ∈ p, e.k = 0 → c.x ≠ e.x) ∧ (∀ c ∈ p, c.k = 3 → c.x ≠ e.x) := by
  obtain ⟨h1, h2, -, -⟩ := may_zero hm
  have h3 : ∀ c ∈ p, e.k = 0 → c.x ≠ e.x := fun c hc hk q => h1 ⟨hk, .inl (q ▸ h.kn c hc)⟩
  refine ⟨h3, fun c hc hk q => ?_⟩
  by_cases z : e.k = 0
  · exact h3 c hc z q
  · exact h2 ⟨z, q ▸ h.dead c hc hk⟩
theorem InvB.meet {p : List HEv} {b : HBk} (h : InvB p b) {e : HEv} (hm : b.may e = 0) (hk : e.k = 3) {d bc wc wd : HEv} (hd : d ∈ p) (dk : d.k = 3) (hbc : bc ∈ p) (bk : bc.k = 0) (bx : bc.x = e.x) (hwc : wc ∈ p) (wk : wc.k = 2) (wx : wc.x = e.x) (hwd : wd ∈ p) (vk : wd.k = 2) (vx : wd.x = d.x) (hkey : wc.key = wd.key) (hlt : bc.t < d.t) : False := by
  obtain ⟨-, -, -, h4⟩ := may_zero hm
  refine h4 ⟨hk, ?_⟩
  obtain ⟨y, hy, y1, y2⟩ := h.cm d hd dk wd hwd vk vx
  have hs := h.st bc hbc bk
  have hw := h.wr wc hwc wk
  rw [bx] at hs
  rw [wx] at hw
  refine List.any_eq_true.2 ⟨y, hy, ?_⟩
  unfold mtK meetB
  rw [hs, y1, decide_eq_true hlt, Bool.true_and]
  exact List.any_eq_true.2 ⟨_, hw, decide_eq_true (hkey ▸ y2)⟩
theorem mem_snoc {α : Type} {x e : α} {p : List α} : x ∈ p ++ [e] ↔ x ∈ p ∨ x = e := by simp
theorem InvB.step {p : List HEv} {b : HBk} (h : InvB p b) {e : HEv} (hm : b.may e = 0) : InvB (p ++ [e]) (b.note e) := by
  obtain ⟨f1, f2⟩ := h.fresh hm
  obtain ⟨m1, m2, m3, m4⟩ := may_zero hm
  refine ⟨?_, ?_, ?_, ?_, ?_, ?_, ?_, ?_⟩
  · intro c hc
    rcases mem_snoc.1 hc with mhc | rfl
    · have := h.top c mhc
      show c.t ≤ max b.top e.t
      omega
    · show c.t ≤ max b.top c.t
      omega
  · intro c hc
    show (if c.x = e.x then some ((b.of e.x).note e) else b.txns c.x).isSome = true
    split
    · rfl
    · rename_i q
      rcases mem_snoc.1 hc with mhc | rfl
      · exact h.kn c mhc
      · exact (q rfl).elim
  · intro c hc ck
    rw [of_note]
    rcases mem_snoc.1 hc with mhc | rfl
    · split
      · rename_i q
        rw [note_start _ _ (fun z => f1 c mhc z q), ← q]
        exact h.st c mhc ck
      · exact h.st c mhc ck
    · rw [if_pos rfl]
      unfold HTx.note
      rw [if_pos ck]
  · intro c hc ck
    rw [of_note]
    rcases mem_snoc.1 hc with mhc | rfl
    · split
      · rename_i q
        exact note_keys _ _ _ (q ▸ h.wr c mhc ck)
      · exact h.wr c mhc ck
    · rw [if_pos rfl]
      unfold HTx.note
      rw [if_neg (by omega), if_pos ck]
      exact (mem_addK _ _ _).2 (.inl rfl)
  · intro c hc ck
    rw [of_note]
    rcases mem_snoc.1 hc with mhc | rfl
    · rw [if_neg (f2 c mhc ck)]
      exact h.dead c mhc ck
    · rw [if_pos rfl]
      unfold HTx.note
      rw [if_neg (by omega), if_neg (by omega), if_pos (.inl ck)]
  · intro c hc ck f hf fk fx
    have hlog : ∀ y ∈ b.log, y ∈ (b.note e).log := by
      intro y hy
      unfold HBk.note
      dsimp only
      split
      · exact List.mem_append_left _ hy
      · exact hy
    rcases mem_snoc.1 hc with mhc | rfl
    · rcases mem_snoc.1 hf with mhf | rfl
      · obtain ⟨y, hy, h1, h2⟩ := h.cm c mhc ck f mhf fk fx
        exact ⟨y, hlog y hy, h1, h2⟩
      · exact (f2 c mhc ck fx.symm).elim
    · rcases mem_snoc.1 hf with mhf | rfl
      · have hw := h.wr f mhf fk
        rw [fx] at hw
        refine ⟨(c.t, (b.of c.x).keys), ?_, rfl, hw⟩
        unfold HBk.note
        dsimp only
        rw [if_pos ⟨ck, fun z => by rw [z] at hw; cases hw⟩]
        simp
      · omega
  · rw [cmts_snoc]
    split
    · rename_i ek
      refine List.pairwise_append.2 ⟨h.srt, by simp, fun x hx y hy => ?_⟩
      unfold cmts at hx
      obtain ⟨c, hc, rfl⟩ := List.mem_map.1 hx
      have := h.top c (List.mem_filter.1 hc).1
      simp at hy
      subst hy
      have : ¬ e.t ≤ b.top := fun q => m3 ⟨ek, q⟩
      omega
    · exact h.srt
  · intro c hc d hd ck dk hcd bc hbc bd hbd bk bk' bx bx' wc hwc wd hwd wk wk' wx wx' hkey l1 l2
    rcases mem_snoc.1 hc with mhc | rfl
    · rcases mem_snoc.1 hd with mhd | rfl
      · rcases mem_snoc.1 hbc with mhbc | rfl
        · rcases mem_snoc.1 hbd with mhbd | rfl
          · rcases mem_snoc.1 hwc with mhwc | rfl
            · rcases mem_snoc.1 hwd with mhwd | rfl
              · exact h.nov c mhc d mhd ck dk hcd bc mhbc bd mhbd bk bk' bx bx' wc mhwc wd mhwd wk wk' wx wx' hkey l1 l2
              · exact f2 d mhd dk wx'.symm
            · exact f2 c mhc ck wx.symm
          · exact f2 d mhd dk bx'.symm
        · exact f2 c mhc ck bx.symm
      · -- d is new
        have g1 : bd ∈ p := (mem_snoc.1 hbd).elim id (fun q => by subst q; omega)
        have g2 : wd ∈ p := (mem_snoc.1 hwd).elim id (fun q => by subst q; omega)
        have g3 : wc ∈ p := (mem_snoc.1 hwc).elim id (fun q => by subst q; omega)
        exact h.meet hm dk mhc ck g1 bk' bx' g2 wk' wx' g3 wk wx hkey.symm l2
    · have hd : d ∈ p := (mem_snoc.1 hd).elim id (fun q => by subst q; exact (hcd rfl).elim)
      have g1 : bc ∈ p := (mem_snoc.1 hbc).elim id (fun q => by subst q; omega)
      have g2 : wd ∈ p := (mem_snoc.1 hwd).elim id (fun q => by subst q; omega)
      have g3 : wc ∈ p := (mem_snoc.1 hwc).elim id (fun q => by subst q; omega)
      exact h.meet hm ck hd dk g1 bk bx g3 wk wx g2 wk' wx' hkey l1
theorem InvB.all : ∀ {l : List HEv} {p : List HEv} {b : HBk} (_ : InvB p b) (_ : OkB b l), ∃ b', InvB (p ++ l) b'
  | [], p, b, h, _ => ⟨b, by simpa using h⟩
  | e :: l, p, b, h, ho => by
    obtain ⟨b', hb⟩ := (h.step ho.1).all ho.2
    exact ⟨b', by simpa using hb⟩
theorem inv0 : InvB [] bk0 := ⟨by simp, by simp, by simp, by simp, by simp, by simp, by simp [cmts], by simp⟩
theorem rises_cmts {l : List HEv} (h : OkB bk0 l) : (cmts l).Pairwise (· < ·) := by
  obtain ⟨b', hb⟩ := inv0.all h
  exact hb.srt
theorem fst_mem {l : List HEv} {kind : Nat} {id : Int} (h : fstB l kind id = true) : fstE l kind id ∈ l ∧ (fstE l kind id).k = kind ∧ (fstE l kind id).x = id := by
  unfold fstB at h
  unfold fstE
  obtain ⟨e, he⟩ := Option.isSome_iff_exists.1 h
  rw [he]
  have h1 := List.find?_some he
  unfold hit at h1
  simp only [Bool.and_eq_true, decide_eq_true_eq] at h1
  exact ⟨List.mem_of_find?_eq_some he, h1.1, h1.2⟩
theorem rises_ovl {l : List HEv} (h : OkB bk0 l) {x y : HEv} (hx : x ∈ l) (hy : y ∈ l) (xk : x.k = 2) (yk : y.k = 2) (hkey : x.key = y.key) : ovlB l x.x y.x = false := by
  obtain ⟨b', hb⟩ := inv0.all h
  rw [List.nil_append] at hb
  cases ho : ovlB l x.x y.x with
  | false => rfl
  | true =>
    unfold ovlB at ho
    simp only [Bool.and_eq_true, decide_eq_true_eq] at ho
    obtain ⟨h0, h1, h2, h3, h4, h5, h6⟩ := ho
    obtain ⟨a1, a2, a3⟩ := fst_mem h1
    obtain ⟨b1, b2, b3⟩ := fst_mem h2
    obtain ⟨c1, c2, c3⟩ := fst_mem h3
    obtain ⟨d1, d2, d3⟩ := fst_mem h4
    exact (hb.nov _ c1 _ d1 c2 d2 (by rw [c3, d3]; exact h0) _ a1 _ b1 a2 b2 (by rw [a3, c3]) (by rw [b3, d3]) x hx y hy xk yk c3.symm d3.symm hkey h5 h6).elim
end Go.Proofs.Ytaeiajodbpgbbaa
