/- A book behind an event, in memory; no walk. -/
import Derived.Test.YtaeiajodbpgbbaaBk6
namespace Go.Proofs.Ytaeiajodbpgbbaa
open Go.RowKit Go.Sort Go.Shelf

/-- The block of a book, and what its slices hold. -/
def BoxIn (w : World) (base B M : Nat) (top : Int) (log : List (Int × List (List UInt8))) (by_ : List Int) (N : Nat) : Prop := ∃ la ll lc ba bl bc L, Blk w B #[.int .i64 top, .map (some M), .slice la ll lc, .slice ba bl bc] 73 ∧ OwnE lgE w base 92 (.slice la ll lc) L ∧ L.map (fun x => (x.t, x.ks)) = log ∧ (∀ x ∈ L, OwnE stE w base 9 (.slice x.a x.n x.c) x.ks ∧ x.ks.length ≤ N) ∧ OwnE inE w base 3 (.slice ba bl bc) by_
/-- Which transaction an event is of: one that was there, or a new one. -/
def OfAt (w : World) (b : HBk) (pb pm : Int → Nat) (id : Int) (p m : Nat) : Prop := ((b.txns id).isSome = true ∧ p = pb id ∧ m = pm id) ∨ ((b.txns id).isSome = false ∧ w.heap.size ≤ p ∧ w.heap.size ≤ m)
section
variable {w w' : World} {base B M N p m : Nat} {pb pm : Int → Nat} {b : HBk} {id : Int} {fp : Nat → Prop}
/-- What turns is of these types. -/
theorem BkIn.foot (h : BkIn w base B M pb pm b N) (ho : OfAt w b pb pm id p m) {g : Nat} {cur : Array Value} {ty : TypeId} (hb : Blk w g cur ty) (hg : g = B ∨ g = M ∨ g = p ∨ g = m) : ty = 73 ∨ ty = 81 := by
  have hlt := hb.lt
  have known : (b.txns id).isSome = true → ∃ ti, b.txns id = some ti := fun q => Option.isSome_iff_exists.1 q
  rcases hg with rfl | rfl | rfl | rfl
  · obtain ⟨_, _, _, _, _, _, _, h1, _⟩ := h.box
    exact .inl (hb.ty h1)
  · exact (h.map.ne hb rfl).elim
  · rcases ho with ⟨q, rfl, rfl⟩ | ⟨_, q, _⟩
    · obtain ⟨ti, hti⟩ := known q
      obtain ⟨⟨_, _, _, h1, _⟩, _⟩ := h.tx id ti hti
      exact .inr (hb.ty h1)
    · omega
  · rcases ho with ⟨q, rfl, rfl⟩ | ⟨_, _, q⟩
    · obtain ⟨ti, hti⟩ := known q
      obtain ⟨⟨_, _, _, _, _, h1, _⟩, _⟩ := h.tx id ti hti
      exact (h1.ne hb rfl).elim
    · omega
/-- The other transactions stay. -/
theorem BkIn.others (h : BkIn w base B M pb pm b N) (ho : OfAt w b pb pm id p m) (k : Kept fp w w') (hfp : ∀ g, fp g → (g = B ∨ g = M ∨ g = p ∨ g = m) ∨ ∃ cur, Blk w g cur 3) {j : Int} {t : HTx} (hj : b.txns j = some t) (hne : j ≠ id) : TxIn w' base (pb j) (pm j) t ∧ pb j ≠ p ∧ pm j ≠ m := by
  have hjs : (b.txns j).isSome = true := by rw [hj]; rfl
  obtain ⟨ht, -⟩ := h.tx j t hj
  have hlt := ht.lt
  obtain ⟨ka, kn, kc, h1, h2, h3, h4, h5⟩ := ht
  have hp : pb j ≠ p ∧ pm j ≠ m := by
    rcases ho with ⟨q, rfl, rfl⟩ | ⟨_, q1, q2⟩
    · exact h.inj j id hjs q hne
    · exact ⟨by omega, by omega⟩
  refine ⟨TxIn.kept ⟨ka, kn, kc, h1, h2, h3, h4, h5⟩ k ?_ ?_ ?_, hp⟩
  · intro q
    rcases hfp _ q with (q | q | q | q) | ⟨cur, q⟩
    · obtain ⟨_, _, _, _, _, _, _, g1, _⟩ := h.box
      rw [q] at h1
      exact absurd (h1.ty g1) (by decide)
    · rw [q] at h1
      exact h.map.ne h1 rfl
    · exact hp.1 q
    · rcases ho with ⟨s, rfl, rfl⟩ | ⟨_, q1, q2⟩
      · obtain ⟨ti, hti⟩ := Option.isSome_iff_exists.1 s
        obtain ⟨⟨_, _, _, _, _, g1, _⟩, _⟩ := h.tx id ti hti
        rw [q] at h1
        exact g1.ne h1 rfl
      · omega
    · exact absurd (h1.ty q) (by decide)
  · intro q
    rcases hfp _ q with (q | q | q | q) | ⟨cur, q⟩
    · obtain ⟨_, _, _, _, _, _, _, g1, _⟩ := h.box
      rw [← q] at g1
      exact h3.ne g1 rfl
    · exact h.neM j hjs q
    · rcases ho with ⟨s, rfl, rfl⟩ | ⟨_, q1, q2⟩
      · obtain ⟨ti, hti⟩ := Option.isSome_iff_exists.1 s
        obtain ⟨⟨_, _, _, g1, _⟩, _⟩ := h.tx id ti hti
        rw [← q] at g1
        exact h3.ne g1 rfl
      · omega
    · exact hp.2 q
    · exact h3.ne q rfl
  · intro g cur q hb
    rcases hfp _ q with q | ⟨cur', q⟩
    · rcases h.foot ho hb q with q | q <;> exact absurd q (by decide)
    · exact absurd (hb.ty q) (by decide)
/-- The slices stay, where only blocks of other types turn. -/
theorem BkIn.slices (h : BkIn w base B M pb pm b N) (ho : OfAt w b pb pm id p m) (k : Kept fp w w') (hfp : ∀ g, fp g → g = B ∨ g = M ∨ g = p ∨ g = m) {la ba : Option Addr} {ll lc bl bc : Nat} {L : List HEl} {top : Int}
    (g2 : OwnE lgE w base 92 (.slice la ll lc) L) (g3 : L.map (fun x => (x.t, x.ks)) = b.log) (g4 : ∀ x ∈ L, OwnE stE w base 9 (.slice x.a x.n x.c) x.ks ∧ x.ks.length ≤ N) (g5 : OwnE inE w base 3 (.slice ba bl bc) b.by_)
    (hb : Blk w' B #[.int .i64 top, .map (some M), .slice la ll lc, .slice ba bl bc] 73) : BoxIn w' base B M top b.log b.by_ (N + 1) := by
  have hf : ∀ (ty : TypeId), ty ≠ 73 → ty ≠ 81 → ∀ g cur, fp g → ¬ Blk w g cur ty := fun ty n1 n2 g cur q hb => by
    rcases h.foot ho hb (hfp g q) with z | z
    · exact n1 z
    · exact n2 z
  exact ⟨la, ll, lc, ba, bl, bc, L, hb, g2.keptT k (hf _ (by decide) (by decide)), g3, fun x hx => ⟨(g4 x hx).1.keptT k (hf _ (by decide) (by decide)), by have := (g4 x hx).2; omega⟩, g5.keptT k (hf _ (by decide) (by decide))⟩
theorem note_keysN {t : HTx} {e : HEv} {N : Nat} (h : t.keys.length ≤ N) : (t.note e).keys.length ≤ N + 1 := by
  unfold HTx.note
  split
  · exact Nat.le_succ_of_le h
  split
  · have := addK_len t.keys e.key
    show (addK t.keys e.key).length ≤ N + 1
    omega
  split
  · exact Nat.le_succ_of_le h
  · exact Nat.le_succ_of_le h
/-- A book behind an event. -/
theorem BkIn.put {x : HEv} (h : BkIn w base B M pb pm b N) (ho : OfAt w b pb pm x.x p m) (k : Kept fp w w') (hfp : ∀ g, fp g → (g = B ∨ g = M ∨ g = p ∨ g = m) ∨ ∃ cur, Blk w g cur 3)
    (hbox : BoxIn w' base B M (b.note x).top (b.note x).log (b.note x).by_ (N + 1)) (hmap : MapK (.int .i64) (Value.int .i64) w' M (fun j => if j = x.x then some (.pointer (some ⟨p, 0, none⟩)) else (b.txns j).map fun _ => .pointer (some ⟨pb j, 0, none⟩)))
    (htx : TxIn w' base p m ((b.of x.x).note x)) (hmM : m ≠ M) : ∃ pb' pm', BkIn w' base B M pb' pm' (b.note x) (N + 1) := by
  refine ⟨fun j => if j = x.x then p else pb j, fun j => if j = x.x then m else pm j, hbox, ?_, ?_, ?_, ?_, ?_, ?_, ?_, h.fB, h.fM⟩
  · refine hmap.congr (fun j => ?_)
    show _ = Option.map _ (if j = x.x then some ((b.of x.x).note x) else b.txns j)
    by_cases q : j = x.x
    · simp [q]
    · simp [q]
  · intro j t hj
    have hj' : (if j = x.x then some ((b.of x.x).note x) else b.txns j) = some t := hj
    by_cases q : j = x.x
    · rw [if_pos q] at hj'
      cases hj'
      rw [if_pos q, if_pos q]
      exact ⟨htx, note_keysN (TxIn.lenN h x.x)⟩
    · rw [if_neg q] at hj'
      rw [if_neg q, if_neg q]
      exact ⟨(h.others ho k hfp hj' q).1, Nat.le_succ_of_le (h.tx j t hj').2⟩
  · intro j hj
    have hj' : (if j = x.x then some ((b.of x.x).note x) else b.txns j).isSome = true := hj
    by_cases q : j = x.x
    · rw [if_pos q]; exact hmM
    · rw [if_neg q] at hj' ⊢
      exact h.neM j hj'
  · intro i j hi hj hij
    have hi' : (if i = x.x then some ((b.of x.x).note x) else b.txns i).isSome = true := hi
    have hj' : (if j = x.x then some ((b.of x.x).note x) else b.txns j).isSome = true := hj
    by_cases qi : i = x.x
    · have qj : ¬ j = x.x := fun q => hij (qi.trans q.symm)
      rw [if_neg qj] at hj'
      obtain ⟨t, ht⟩ := Option.isSome_iff_exists.1 hj'
      have := (h.others ho k hfp ht qj).2
      rw [if_pos qi, if_pos qi, if_neg qj, if_neg qj]
      exact ⟨this.1.symm, this.2.symm⟩
    · rw [if_neg qi] at hi'
      rw [if_neg qi, if_neg qi]
      by_cases qj : j = x.x
      · obtain ⟨t, ht⟩ := Option.isSome_iff_exists.1 hi'
        rw [if_pos qj, if_pos qj]
        exact (h.others ho k hfp ht qi).2
      · rw [if_neg qj] at hj'
        rw [if_neg qj, if_neg qj]
        exact h.inj i j hi' hj' hij
  · have := h.ll
    unfold HBk.note
    dsimp only
    split
    · simp; omega
    · omega
  · have := h.lb
    unfold HBk.note
    dsimp only
    split
    · simp; omega
    · exact this
  · intro j hj
    show (if j = x.x then some ((b.of x.x).note x) else b.txns j).isSome = true
    by_cases q : j = x.x
    · rw [if_pos q]; rfl
    · rw [if_neg q]
      unfold HBk.note at hj
      dsimp only at hj
      split at hj
      · rcases List.mem_append.1 hj with z | z
        · exact h.kn j z
        · exact (q (by simpa using z)).elim
      · exact h.kn j hj
/-- The map of a transaction is not the book's. -/
theorem BkIn.neMm (h : BkIn w base B M pb pm b N) (ho : OfAt w b pb pm id p m) : m ≠ M := by
  rcases ho with ⟨q, _, rfl⟩ | ⟨_, _, q⟩
  · exact h.neM id q
  · have := h.lt.2
    omega
end
end Go.Proofs.Ytaeiajodbpgbbaa
