/- Slices whose elements have several cells, as lists: one account of them for all element types; no program in sight. -/
import Derived.Test.YtlkgdpdnhnakoaaGreatDoorAuto
namespace Go.Proofs.YtlkgdpdnhnakoaaGreatDoor
open Go.RowKit

/-- How an element lies in memory. -/
structure Enc (α : Type) where
  n : Nat
  enc : α → List Value
  len : ∀ x, (enc x).length = n
  pos : 0 < n
  one : ∀ x, ∀ v ∈ enc x, v.oneCell' = true
section
variable {α : Type} (E : Enc α)
def Enc.all (xs : List α) : List Value := xs.flatMap E.enc
theorem Enc.all_nil : E.all [] = [] := rfl
theorem Enc.all_cons (x : α) (xs : List α) : E.all (x :: xs) = E.enc x ++ E.all xs := by simp [Enc.all]
theorem Enc.all_append (xs ys : List α) : E.all (xs ++ ys) = E.all xs ++ E.all ys := by simp [Enc.all]
theorem Enc.all_len (xs : List α) : (E.all xs).length = xs.length * E.n := by
  induction xs with
  | nil => simp [Enc.all]
  | cons x xs ih => rw [E.all_cons, List.length_append, ih, E.len, List.length_cons, Nat.add_mul, Nat.one_mul, Nat.add_comm]
theorem Enc.all_one (xs : List α) : ∀ v ∈ E.all xs, v.oneCell' = true := by
  intro v hv
  obtain ⟨x, _, hx⟩ := List.mem_flatMap.1 hv
  exact E.one x v hx
theorem Enc.all_get (xs : List α) : ∀ (i : Nat) (x : α), xs[i]? = some x → ∀ j, j < E.n → (E.all xs)[i * E.n + j]? = (E.enc x)[j]? := by
  induction xs with
  | nil => intro i x hx; simp at hx
  | cons y xs ih =>
    intro i x hx j hj
    rw [E.all_cons]
    cases i with
    | zero =>
      simp at hx
      subst hx
      rw [Nat.zero_mul, Nat.zero_add, List.getElem?_append_left (by rw [E.len]; exact hj)]
    | succ i =>
      have h1 : (i + 1) * E.n + j = E.n + (i * E.n + j) := by rw [Nat.add_mul, Nat.one_mul]; omega
      rw [List.getElem?_append_right (by rw [E.len, h1]; omega), E.len, h1, Nat.add_sub_cancel_left]
      exact ih i x (by simpa using hx) j hj
theorem Enc.all_drop (xs : List α) (k : Nat) : E.all (xs.drop k) = (E.all xs).drop (k * E.n) := by
  induction k generalizing xs with
  | zero => simp
  | succ k ih =>
    cases xs with
    | nil => simp [Enc.all]
    | cons x xs => rw [List.drop_succ_cons, ih, E.all_cons, List.drop_append, E.len, show (k + 1) * E.n = E.n + k * E.n from by rw [Nat.add_mul, Nat.one_mul, Nat.add_comm], Nat.add_sub_cancel_left, List.drop_eq_nil_of_le (as := E.enc x) (by rw [E.len]; omega), List.nil_append]
theorem Enc.all_take (xs : List α) (k : Nat) : E.all (xs.take k) = (E.all xs).take (k * E.n) := by
  induction k generalizing xs with
  | zero => simp [Enc.all]
  | succ k ih =>
    cases xs with
    | nil => simp [Enc.all]
    | cons x xs => rw [List.take_succ_cons, E.all_cons, ih, E.all_cons, List.take_append, E.len, show (k + 1) * E.n = E.n + k * E.n from by rw [Nat.add_mul, Nat.one_mul, Nat.add_comm], Nat.add_sub_cancel_left, List.take_of_length_le (l := E.enc x) (by rw [E.len]; omega)]

/-- Elements in memory. -/
def ElsAt (w : World) (a : Option Addr) (xs : List α) : Prop := xs = [] ∨ ∃ b off, a = some ⟨b, off, none⟩ ∧ b < w.heap.size ∧ ∀ j u, (E.all xs)[j]? = some u → w.cell? ⟨b, off + j, none⟩ = some u
variable {E} {w w' : World}
theorem ElsAt.kept {fp : Nat → Prop} {a : Option Addr} {xs : List α} (h : ElsAt E w a xs) (k : Kept fp w w') (hn : ∀ x, a = some x → ¬ fp x.block) : ElsAt E w' a xs := by
  rcases h with h | ⟨b, off, rfl, hb, hc⟩
  · exact .inl h
  · exact .inr ⟨b, off, rfl, Nat.lt_of_lt_of_le hb k.size, fun j u hu => (k.cell (p := ⟨b, off + j, none⟩) hb (hn ⟨b, off, none⟩ rfl)).trans (hc j u hu)⟩
theorem ElsAt.same {a : Option Addr} {xs : List α} (h : ElsAt E w a xs) (k : Same w w') : ElsAt E w' a xs := h.kept k (fun _ _ h => h)
/-- One element's cells. -/
theorem ElsAt.get {b off : Nat} {xs : List α} (h : ElsAt E w (some ⟨b, off, none⟩) xs) {i : Nat} {x : α} (hx : xs[i]? = some x) (j : Nat) {u : Value} (hu : (E.enc x)[j]? = some u) : w.cell? ⟨b, off + (i * E.n + j), none⟩ = some u := by
  rcases h with h | ⟨b', off', e, _, hc⟩
  · subst h; simp at hx
  · cases e
    have hj : j < E.n := by rw [← E.len x]; exact (List.getElem?_eq_some_iff.1 hu).1
    exact hc _ u (by rw [E.all_get xs i x hx j hj]; exact hu)
theorem ElsAt.there {a : Option Addr} {xs : List α} (h : ElsAt E w a xs) (hx : xs ≠ []) : ∃ b off, a = some ⟨b, off, none⟩ ∧ b < w.heap.size := by
  rcases h with h | ⟨b, off, rfl, hb, _⟩
  · exact absurd h hx
  · exact ⟨b, off, rfl, hb⟩
theorem ElsAt.drop {b off : Nat} {xs : List α} (h : ElsAt E w (some ⟨b, off, none⟩) xs) (k : Nat) : ElsAt E w (some ⟨b, off + k * E.n, none⟩) (xs.drop k) := by
  rcases h with h | ⟨b', off', e, hb, hc⟩
  · subst h; exact .inl (by simp)
  · cases e
    exact .inr ⟨b, _, rfl, hb, fun j u hu => by rw [Nat.add_assoc]; exact hc _ u (by rw [E.all_drop, List.getElem?_drop] at hu; exact hu)⟩
theorem ElsAt.take {a : Option Addr} {xs : List α} (h : ElsAt E w a xs) (k : Nat) : ElsAt E w a (xs.take k) := by
  rcases h with h | ⟨b, off, rfl, hb, hc⟩
  · subst h; exact .inl (by simp)
  · refine .inr ⟨b, off, rfl, hb, fun j u hu => hc j u ?_⟩
    rw [E.all_take, List.getElem?_take] at hu
    split at hu
    · exact hu
    · cases hu
/-- Elements that a block of cells begins with. -/
theorem elsAt_of {g : Nat} {cur : Array Value} {t : TypeId} {xs : List α} (hb : Blk w g cur t) (h : cur.toList.take (xs.length * E.n) = E.all xs) : ElsAt E w (some ⟨g, 0, none⟩) xs := by
  refine .inr ⟨g, 0, rfl, hb.lt, fun j u hu => ?_⟩
  have hj : j < xs.length * E.n := by rw [← E.all_len]; exact (List.getElem?_eq_some_iff.1 hu).1
  rw [cell_blk hb, Nat.zero_add, ← Array.getElem?_toList]
  rw [← h, List.getElem?_take, if_pos hj] at hu
  exact hu
theorem elsAt_one {g : Nat} {x : α} {t : TypeId} {cs : Array Value} (h : Blk w g cs t) (hc : cs = (E.enc x).toArray) : ElsAt E w (some ⟨g, 0, none⟩) [x] := by
  subst hc
  refine elsAt_of h ?_
  rw [E.all_cons, E.all_nil, List.append_nil, List.length_singleton, Nat.one_mul, List.take_of_length_le (by simp [E.len])]

/-- A slice that a call made. -/
def OwnE (E : Enc α) (w : World) (base : Nat) (e : TypeId) (v : Value) (xs : List α) : Prop := w.ownsRow base e E.n v xs.length (E.all xs)
variable {base : Nat} {e : TypeId} {v : Value} {xs : List α}
theorem OwnE.nil (w : World) (base : Nat) (e : TypeId) : OwnE E w base e (.slice none 0 0) [] := ⟨by simp [Enc.all], .inl ⟨rfl, rfl⟩⟩
theorem OwnE.same (h : OwnE E w base e v xs) (hk : Same w w') : OwnE E w' base e v xs := ownsRow_kept h hk (fun _ _ h => h)
theorem OwnE.kept {fp : Nat → Prop} (h : OwnE E w base e v xs) (hk : Kept fp w w') (hn : ∀ g, v.ownBlock = some g → ¬ fp g) : OwnE E w' base e v xs := ownsRow_kept h hk hn
theorem OwnE.rebase {base' : Nat} (h : OwnE E w base e v xs) (hb : base' ≤ base) : OwnE E w base' e v xs := ownsRow_base h hb
theorem OwnE.far (h : OwnE E w base e v xs) : ∀ g, v.ownBlock = some g → base ≤ g ∧ g < w.heap.size := by
  rcases h.2 with ⟨rfl, _⟩ | ⟨g, cap, cur, rfl, h1, h2, _⟩
  · intro g hg; simp [Value.ownBlock] at hg
  · intro g' hg; obtain rfl : g = g' := by simpa [Value.ownBlock] using hg
    exact ⟨h1, lt_of_block h2⟩
/-- One that has any lies in a block. -/
theorem OwnE.read (h : OwnE E w base e v xs) (hs : xs ≠ []) :
    ∃ g cap cur, v = .slice (some ⟨g, 0, none⟩) xs.length cap ∧ base ≤ g ∧ Blk w g cur e ∧ xs.length ≤ cap ∧ cap ≤ maxLen ∧ cur.size = cap * E.n ∧ cur.toList.take (xs.length * E.n) = E.all xs := by
  rcases h.2 with ⟨_, h0⟩ | ⟨g, cap, cur, rfl, h1, h2, h3, h4, h5, h6⟩
  · exact absurd (List.eq_nil_of_length_eq_zero h0) hs
  · exact ⟨g, cap, cur, rfl, h1, h2, h3, h4, h5, h6⟩
/-- What it is as a value, and what is read there; its length a letter. -/
theorem OwnE.rd (h : OwnE E w base e v xs) : ∃ a l cap, v = .slice a l cap ∧ Hid (l = xs.length) ∧ Hid (a = none → cap = 0) ∧ Hid (ElsAt E w a xs) ∧ Hid (l ≤ cap ∧ cap ≤ maxLen) := by
  rcases h.2 with ⟨rfl, h0⟩ | ⟨g, cap, cur, rfl, h1, h2, h3, h4, h5, h6⟩
  · have hx : xs = [] := List.eq_nil_of_length_eq_zero h0
    exact ⟨none, 0, 0, rfl, h0.symm, fun _ => rfl, .inl hx, by unfold maxLen; exact ⟨Nat.le_refl _, Nat.zero_le _⟩⟩
  · exact ⟨_, _, cap, rfl, rfl, fun h => (by cases h), elsAt_of h2 h6, ⟨h3, h4⟩⟩
theorem OwnE.els (h : OwnE E w base e v xs) : ∃ a cap, v = .slice a xs.length cap ∧ ElsAt E w a xs ∧ (a = none → cap = 0) ∧ xs.length ≤ cap ∧ cap ≤ maxLen := by
  obtain ⟨a, l, cap, rfl, h1, h2, h3, h4⟩ := h.rd
  have h1 := h1.out
  subst h1
  exact ⟨a, cap, rfl, h3.out, h2.out, h4.out⟩
theorem OwnE.at {a : Option Addr} {n c : Nat} (h : OwnE E w base e (.slice a n c) xs) : ElsAt E w a xs ∧ n = xs.length := by
  obtain ⟨a', c', q, h', -⟩ := h.els
  simp only [Value.slice.injEq] at q
  rw [q.1]; exact ⟨h', q.2.1⟩
/-- append. -/
theorem run_appendE {P : Program} (w : World) (t ty : TypeId) (base : Nat) (e : TypeId) (z : Value) (bytes : Nat) (E : Enc α) (ht : P.underlying t = some (.slice e))
    (hi : (P.info? e).map (fun i => (i.zero, i.size, i.bytes)) = some (some z, E.n, bytes)) (hzs : z.cells.size = E.n)
    (v : Value) (xs : List α) (hown : OwnE E w base e v xs) (ao : Option Addr) (m c : Nat) (ys : List α) (hm : m = ys.length) (hat : ElsAt E w ao ys) (hnil : ao = none → c = 0)
    (hlen : xs.length + ys.length ≤ maxLen) (hbytes : (xs.length + ys.length) * bytes ≤ 140737488355328) (hbase : base ≤ w.heap.size) :
    ∃ v' w', (Builtin.append_ #[t, t] ty #[v, .slice ao m c]).run P w = .ok v' w' ∧ OwnE E w' base e v' (xs ++ ys) ∧ w.grownBy w' v.ownBlock ∧ (v'.ownBlock = v.ownBlock ∨ v'.ownBlock = some w.heap.size) := by
  obtain ⟨i, hi, hz, hsz, hby⟩ := info_parts hi
  subst hm
  cases ao with
  | none =>
    obtain rfl := hnil rfl
    have : ys = [] := by rcases hat with h | ⟨_, _, h, _⟩; exact h; cases h
    subst this
    refine ⟨v, w, run_append_owned_none (P := P) (w := w) base t ty e i E.n ht hi v _ _ hown, ?_, World.grownBy.refl w _, .inl rfl⟩
    rw [List.append_nil]; exact hown
  | some ad =>
    have hc : ∀ j u, (E.all ys)[j]? = some u → w.cell? (ad.add j) = some u := by
      intro j u hu
      rcases hat with rfl | ⟨b, off, e, _, hc⟩
      · simp [Enc.all] at hu
      · cases e
        have := hc j u hu
        unfold Addr.add
        split
        · subst j; simpa using this
        · exact this
    obtain ⟨v', w', hrun, h2, h3, _, h5⟩ := run_append_own_at (P := P) w base t ty e i z E.n bytes ht hi hz hsz hby hzs E.pos v xs.length _ hown ad ys.length c _ (E.all_len ys) hc (E.all_one ys) hlen hbytes hbase
    refine ⟨v', w', hrun, ?_, h3, h5⟩
    unfold OwnE
    rw [List.length_append, E.all_append]
    exact h2

/-- Cells laid side by side into an array. -/
def putC (cur : Array Value) : Nat → List Value → Array Value
  | _, [] => cur
  | o, v :: r => putC (cur.setIfInBounds o v) (o + 1) r
theorem putC_size (vs : List Value) : ∀ (cur : Array Value) (o : Nat), (putC cur o vs).size = cur.size := by
  induction vs with
  | nil => intro cur o; rfl
  | cons v vs ih => intro cur o; rw [putC, ih]; simp
theorem putC_get (vs : List Value) : ∀ (cur : Array Value) (o i : Nat), o + vs.length ≤ cur.size → (putC cur o vs)[i]? = if o ≤ i ∧ i < o + vs.length then vs[i - o]? else cur[i]? := by
  induction vs with
  | nil => intro cur o i h; rw [putC, if_neg (by simp)]
  | cons v vs ih =>
    intro cur o i h
    simp only [List.length_cons] at h ⊢
    rw [putC, ih _ _ _ (by simp; omega), Array.getElem?_setIfInBounds]
    by_cases h1 : o + 1 ≤ i ∧ i < o + 1 + vs.length
    · rw [if_pos h1, if_pos (by omega), show i - o = (i - (o + 1)) + 1 from by omega, List.getElem?_cons_succ]
    · rw [if_neg h1]
      by_cases h2 : o = i
      · subst h2
        rw [if_pos rfl, if_pos (by omega), if_pos (by omega), Nat.sub_self]
        rfl
      · rw [if_neg h2, if_neg (by omega)]
theorem Blk.putC {b : Nat} {t : TypeId} (vs : List Value) : ∀ {w : World} {cs : Array Value} (_ : Blk w b cs t) (o : Nat), Blk (w.setCells b o vs) b (YtlkgdpdnhnakoaaGreatDoor.putC cs o vs) t := by
  induction vs with
  | nil => intro w cs h o; exact h
  | cons v vs ih => intro w cs h o; exact ih (h.set o v) (o + 1)
/-- An element laid over another one. -/
theorem all_set {cur : Array Value} {xs : List α} {k : Nat} (hk : k < xs.length) (x : α) (h : cur.toList.take (xs.length * E.n) = E.all xs) (hc : xs.length * E.n ≤ cur.size) :
    (putC cur (k * E.n) (E.enc x)).toList.take ((xs.set k x).length * E.n) = E.all (xs.set k x) := by
  have hkn : k * E.n + E.n ≤ xs.length * E.n := by
    have := Nat.mul_le_mul_right E.n (show k + 1 ≤ xs.length from hk)
    rw [Nat.add_mul, Nat.one_mul] at this; exact this
  apply List.ext_getElem?
  intro j
  rw [List.length_set, List.getElem?_take]
  by_cases hj : j < xs.length * E.n
  · rw [if_pos hj, Array.getElem?_toList, putC_get _ _ _ _ (by rw [E.len]; omega), E.len]
    have hn : j / E.n < xs.length := Nat.div_lt_of_lt_mul (by rw [Nat.mul_comm]; exact hj)
    have hm : j % E.n < E.n := Nat.mod_lt _ E.pos
    have e : j / E.n * E.n + j % E.n = j := by rw [Nat.mul_comm]; exact Nat.div_add_mod _ _
    obtain ⟨y, hy⟩ : ∃ y, xs[j / E.n]? = some y := ⟨_, List.getElem?_eq_getElem hn⟩
    by_cases q : k = j / E.n
    · have hx2 : (xs.set k x)[j / E.n]? = some x := by rw [← q, List.getElem?_set_self hk]
      have hnew := E.all_get (xs.set k x) (j / E.n) _ hx2 (j % E.n) hm
      rw [e] at hnew
      rw [if_pos (by rw [q]; omega), hnew, q, show j - j / E.n * E.n = j % E.n from by omega]
    · have hx2 : (xs.set k x)[j / E.n]? = some y := by rw [List.getElem?_set_ne q]; exact hy
      have hnew := E.all_get (xs.set k x) (j / E.n) _ hx2 (j % E.n) hm
      have hold := E.all_get xs (j / E.n) _ hy (j % E.n) hm
      rw [e] at hnew hold
      have hne : ¬ (k * E.n ≤ j ∧ j < k * E.n + E.n) := by
        intro hh
        have h1 : k = j / E.n := by
          apply Nat.le_antisymm
          · exact (Nat.le_div_iff_mul_le E.pos).2 hh.1
          · have : j / E.n < k + 1 := Nat.div_lt_of_lt_mul (by rw [Nat.mul_comm, Nat.add_mul, Nat.one_mul]; exact hh.2)
            omega
        exact q h1
      rw [if_neg hne, hnew, ← hold, ← h, List.getElem?_take, if_pos hj, Array.getElem?_toList]
  · rw [if_neg hj, List.getElem?_eq_none (by rw [E.all_len, List.length_set]; omega)]
/-- An element stored into a slice of one's own, cell by cell. -/
theorem OwnE.set {g n cap : Nat} (h : OwnE E w base e (.slice (some ⟨g, 0, none⟩) n cap) xs) {k : Nat} (hk : k < xs.length) (x : α) : OwnE E (w.setCells g (k * E.n) (E.enc x)) base e (.slice (some ⟨g, 0, none⟩) n cap) (xs.set k x) := by
  rcases h.2 with ⟨h0, _⟩ | ⟨g', cap', cur, e', h1, h2, h3, h4, h5, h6⟩
  · cases h0
  · cases e'
    refine ⟨by rw [E.all_len], .inr ⟨g, cap, _, by rw [List.length_set], h1, Blk.putC (E.enc x) h2 (k * E.n), by rw [List.length_set]; exact h3, h4, by rw [putC_size]; exact h5, ?_⟩⟩
    exact all_set hk x h6 (by rw [h5]; exact Nat.mul_le_mul_right _ h3)
end
end Go.Proofs.YtlkgdpdnhnakoaaGreatDoor
