/- GSecB: Sec6, Sec7, Sec8, Sec9, StrD, SafeP. -/
import Derived.Test.YtlkgdpdnhnakoaaGreatDoorGSecA
import Derived.Test.YtlkgdpdnhnakoaaGreatDoorShelf
import Derived.Laws.BytesArg
namespace Go.Proofs.YtlkgdpdnhnakoaaGreatDoor
open Go.RowKit Go.Maps Go.Sort Go.Shelf

end Go.Proofs.YtlkgdpdnhnakoaaGreatDoor

namespace Go.Proofs.YtlkgdpdnhnakoaaGreatDoor
open Go.RowKit

theorem OwnN.far {w : World} {base : Nat} {e : TypeId} {k : IntKind} {a : Option Addr} {l c : Nat} {xs : List Nat} (h : OwnN w base e k (.slice a l c) xs) : ∀ x, a = some x → base ≤ x.block := by
  intro x hx
  subst hx
  exact (World.ownsRow.lt h x.block rfl).1

end Go.Proofs.YtlkgdpdnhnakoaaGreatDoor

namespace Go.Proofs.YtlkgdpdnhnakoaaGreatDoor
open Go.RowKit

def fullL (c : Nat) : List Nat := List.replicate 256 c
theorem fullL_len (c : Nat) : (fullL c).length = 256 := List.length_replicate

/-- A disk whose power is on, and does not fail. -/
def Live (D : Dsk) : Prop := D.off = false ∧ D.after = -1
theorem write_live {D : Dsk} (h : Live D) {n : Nat} (hn : n < D.s.length) {b : List Nat} (hb : b.length = 256) : writeD D (n : Nat) b = (⟨putS D.s n b, false, wrap64 (D.calls + 1), -1, D.done⟩, 0) := by
  have e : errD D (n : Nat) = 0 := by unfold errD; rw [h.1]; simp; omega
  unfold writeD callD
  rw [if_pos e, if_pos hb, h.2, Int.toNat_natCast]
  simp
theorem sync_live {D : Dsk} (h : Live D) : syncD D = (⟨settle D.s, false, wrap64 (D.calls + 1), -1, D.done⟩, 0) := by
  unfold syncD callD
  rw [h.1, h.2]
  simp
theorem read_live {D : Dsk} (h : D.off = false) {n : Nat} (hn : n < D.s.length) : readD D (n : Nat) = ((D.s.getD n sec0).has, 0) := by
  have e : errD D (n : Nat) = 0 := by unfold errD; rw [h]; simp; omega
  unfold readD
  rw [if_pos e, Int.toNat_natCast]

/-- A store into what is new since w leaves w as it was. -/
theorem Kept.own {w a b : World} {d bs m : Nat} (h : Kept (fun _ => False) w a) (k : Kept (dod d bs m) a b) (h1 : w.heap.size ≤ d) (h2 : w.heap.size ≤ bs) (h3 : w.heap.size ≤ m) : Same w b :=
  h.step k (fun i hi q => by rcases q with q | q | q <;> omega)

end Go.Proofs.YtlkgdpdnhnakoaaGreatDoor

namespace Go.Proofs.YtlkgdpdnhnakoaaGreatDoor
open Go.RowKit Go.Shelf

end Go.Proofs.YtlkgdpdnhnakoaaGreatDoor

namespace Go.Proofs.YtlkgdpdnhnakoaaGreatDoor
open Go.RowKit

def strN (xs : List Nat) : ByteArray := ⟨(xs.map UInt8.ofNat).toArray⟩

end Go.Proofs.YtlkgdpdnhnakoaaGreatDoor

namespace Go.Proofs.YtlkgdpdnhnakoaaGreatDoor
open Go.RowKit

theorem settle_getD (s : List Sec) (n : Nat) : (settle s).getD n sec0 = settleS (s.getD n sec0) := by
  unfold settle
  rw [List.getD_eq_getElem?_getD, List.getD_eq_getElem?_getD, List.getElem?_map]
  cases s[n]? <;> rfl
theorem settle_waits (s : List Sec) : waitsOf (settle s) = [] := by
  unfold waitsOf
  rw [List.filter_eq_nil_iff]
  intro n _
  unfold waitsAt
  rw [settle_getD]
  simp [settleS]
theorem fold_at (l : List Nat) : ∀ st : List Sec × List Nat, Bts st.2 → l.Nodup → (∀ m ∈ l, m < st.1.length) → ∀ n,
    (n ∉ l → (l.foldl powF st).1.getD n sec0 = st.1.getD n sec0) ∧ (n ∈ l → ∃ k, k ≤ 256 ∧ (l.foldl powF st).1.getD n sec0 = powOne (st.1.getD n sec0) k) := by
  induction l with
  | nil => intro st _ _ _ n; exact ⟨fun _ => rfl, fun h => by cases h⟩
  | cons a l ih =>
    intro st hf hn hl n
    have hk := keepOf_le hf
    obtain ⟨h1, h2⟩ := List.nodup_cons.1 hn
    have IH := ih (powF st a) hk.2 h2 (fun m hm => by rw [powF_len]; exact hl m (by simp [hm])) n
    rw [List.foldl_cons]
    have ha := hl a (by simp)
    by_cases e : n = a
    · subst e
      refine ⟨fun h => absurd (List.mem_cons_self) h, fun _ => ⟨(keepOf st.2).1, hk.1, ?_⟩⟩
      rw [IH.1 h1]
      show (st.1.set n _).getD n sec0 = _
      rw [getD_set, if_pos ⟨rfl, ha⟩]
    · have e1 : (powF st a).1.getD n sec0 = st.1.getD n sec0 := by
        show (st.1.set a _).getD n sec0 = _
        rw [getD_set, if_neg (fun q => e q.1)]
      rw [e1] at IH
      exact ⟨fun h => IH.1 (fun q => h (List.mem_cons_of_mem _ q)), fun h => IH.2 (by rcases List.mem_cons.1 h with q | q; exact absurd q e; exact q)⟩
theorem waitsOf_nodup (s : List Sec) : (waitsOf s).Nodup := (List.nodup_range).filter _
theorem mem_waitsOf' {s : List Sec} {n : Nat} : n ∈ waitsOf s ↔ waitsAt s n = true := by
  unfold waitsOf
  rw [List.mem_filter, List.mem_range]
  exact ⟨fun h => h.2, fun h => ⟨waitsAt_lt h, h⟩⟩
theorem powS_at {s : List Sec} {f : List Nat} (hf : Bts f) (n : Nat) :
    (waitsAt s n = false → ((powS s f).getD n sec0).has = (s.getD n sec0).has) ∧ (waitsAt s n = true → ∃ k, k ≤ 256 ∧ ((powS s f).getD n sec0).has = (powOne (s.getD n sec0) k).has) := by
  have h := fold_at (waitsOf s) (s, f) hf (waitsOf_nodup s) (fun m hm => waitsAt_lt (mem_waitsOf'.1 hm)) n
  unfold powS
  rw [settle_getD]
  refine ⟨fun hw => ?_, fun hw => ?_⟩
  · rw [h.1 (fun q => by rw [mem_waitsOf'.1 q] at hw; cases hw)]; rfl
  · obtain ⟨k, hk, e⟩ := h.2 (mem_waitsOf'.2 hw)
    exact ⟨k, hk, by rw [e]; rfl⟩

/-- The first writes. -/
structure PutI (mk : Nat → Nat) (n : Nat) (D : Dsk) : Prop where
  live : Live D
  len : D.s.length = 9
  has : ∀ j, j < n → (D.s.getD j sec0).has = fullL (mk j)
theorem PutI.start (mk : Nat → Nat) : PutI mk 0 (newD 9) := ⟨⟨rfl, rfl⟩, by unfold newD secsOf; rw [List.length_replicate]; omega, fun j h => by omega⟩
theorem PutI.step {mk : Nat → Nat} {n : Nat} {D : Dsk} (h : PutI mk n D) (hn : n < 9) : PutI mk (n + 1) (writeD D (n : Nat) (fullL (mk n))).1 ∧ (writeD D (n : Nat) (fullL (mk n))).2 = 0 := by
  rw [write_live h.live (by rw [h.len]; exact hn) (fullL_len _)]
  refine ⟨⟨⟨rfl, rfl⟩, by simp [putS_len, h.len], fun j hj => ?_⟩, rfl⟩
  show ((putS D.s n _).getD j sec0).has = _
  unfold putS
  rw [getD_set]
  by_cases e : j = n
  · subst e; rw [if_pos ⟨rfl, by rw [h.len]; exact hn⟩]
  · rw [if_neg (fun q => e q.1)]; exact h.has j (by omega)
/-- The writes that wait. -/
structure WaitI (mk : Nat → Nat) (ws ls : List Nat) (D : Dsk) : Prop where
  live : Live D
  len : D.s.length = 9
  wlen : ws.length = 9
  llen : ls.length = 9
  lb : ∀ x ∈ ls, x < 256
  safe : ∀ j, j < 9 → (D.s.getD j sec0).safe = fullL (mk j)
  none_ : ∀ j, j < 9 → ws.getD j 0 = 0 → waitsAt D.s j = false ∧ (D.s.getD j sec0).has = fullL (mk j)
  some_ : ∀ j, j < 9 → 0 < ws.getD j 0 → waitsAt D.s j = true ∧ (D.s.getD j sec0).has = fullL (ls.getD j 0)
theorem WaitI.start {mk : Nat → Nat} {D : Dsk} (h : PutI mk 9 D) : WaitI mk (List.replicate 9 0) (List.replicate 9 0) (syncD D).1 ∧ (syncD D).2 = 0 := by
  rw [sync_live h.live]
  refine ⟨⟨⟨rfl, rfl⟩, by simp [settle_len, h.len], by simp, by simp, fun x hx => by rw [List.eq_of_mem_replicate hx]; decide, fun j hj => ?_, fun j hj _ => ?_, fun j hj q => ?_⟩, rfl⟩
  · show ((settle D.s).getD j sec0).safe = _
    rw [settle_getD]; exact h.has j hj
  · refine ⟨?_, ?_⟩
    · show ((settle D.s).getD j sec0).waits = false
      rw [settle_getD]; rfl
    · show ((settle D.s).getD j sec0).has = _
      rw [settle_getD]; exact h.has j hj
  · rw [List.getD_eq_getElem?_getD, List.getElem?_replicate] at q
    split at q <;> simp at q
theorem WaitI.step {mk : Nat → Nat} {ws ls : List Nat} {D : Dsk} (h : WaitI mk ws ls D) {n c : Nat} (hn : n < 9) (hc : c < 256) :
    WaitI mk (ws.set n (ws.getD n 0 + 1)) (ls.set n c) (writeD D (n : Nat) (fullL c)).1 ∧ (writeD D (n : Nat) (fullL c)).2 = 0 := by
  rw [write_live h.live (by rw [h.len]; exact hn) (fullL_len _)]
  have gs : ∀ (l : List Nat) (j x : Nat), l.length = 9 → (l.set n x).getD j 0 = if j = n then x else l.getD j 0 := by
    intro l j x hl
    rw [List.getD_eq_getElem?_getD, List.getD_eq_getElem?_getD, List.getElem?_set]
    by_cases e : n = j
    · subst e; simp [hl, hn]
    · rw [if_neg e, if_neg (fun q => e q.symm)]
  have hp : ∀ j, (putS D.s n (fullL c)).getD j sec0 = if j = n then ⟨fullL c, (D.s.getD n sec0).safe, true⟩ else D.s.getD j sec0 := by
    intro j
    unfold putS
    rw [getD_set]
    by_cases e : j = n
    · rw [if_pos ⟨e, by rw [h.len]; exact hn⟩, if_pos e]
    · rw [if_neg (fun q => e q.1), if_neg e]
  refine ⟨⟨⟨rfl, rfl⟩, by simp [putS_len, h.len], by simp [h.wlen], by simp [h.llen], fun x hx => ?_, fun j hj => ?_, fun j hj q => ?_, fun j hj q => ?_⟩, rfl⟩
  · rcases List.mem_or_eq_of_mem_set hx with q | rfl
    · exact h.lb x q
    · exact hc
  · show ((putS D.s n (fullL c)).getD j sec0).safe = _
    rw [hp]
    split
    · rename_i e; subst e; exact h.safe j hj
    · exact h.safe j hj
  · rw [gs _ _ _ h.wlen] at q
    by_cases e : j = n
    · rw [if_pos e] at q; omega
    · rw [if_neg e] at q
      have := h.none_ j hj q
      refine ⟨?_, ?_⟩
      · show ((putS D.s n (fullL c)).getD j sec0).waits = false
        rw [hp, if_neg e]; exact this.1
      · show ((putS D.s n (fullL c)).getD j sec0).has = _
        rw [hp, if_neg e]; exact this.2
  · rw [gs _ _ _ h.wlen] at q
    rw [gs _ _ _ h.llen]
    by_cases e : j = n
    · refine ⟨?_, ?_⟩
      · show ((putS D.s n (fullL c)).getD j sec0).waits = true
        rw [hp, if_pos e]
      · show ((putS D.s n (fullL c)).getD j sec0).has = _
        rw [hp, if_pos e, if_pos e]
    · rw [if_neg e] at q
      have := h.some_ j hj q
      refine ⟨?_, ?_⟩
      · show ((putS D.s n (fullL c)).getD j sec0).waits = true
        rw [hp, if_neg e]; exact this.1
      · show ((putS D.s n (fullL c)).getD j sec0).has = _
        rw [hp, if_neg e, if_neg e]; exact this.2
/-- What is read at last. -/
structure EndI (mk : Nat → Nat) (ws ls : List Nat) (D : Dsk) : Prop where
  on : D.off = false
  len : D.s.length = 9
  no : waitsOf D.s = []
  sz : ∀ j, j < 9 → (D.s.getD j sec0).has.length = 256
  none_ : ∀ j, j < 9 → ws.getD j 0 = 0 → ∀ i, i < 256 → (D.s.getD j sec0).has.getD i 0 = mk j
  some_ : ∀ j, j < 9 → 0 < ws.getD j 0 → ∃ K, K ≤ 256 ∧ (∀ i, i < K → (D.s.getD j sec0).has.getD i 0 = ls.getD j 0) ∧ (∀ i, K ≤ i → i < 256 → (D.s.getD j sec0).has.getD i 0 = mk j)
theorem full_getD {c i : Nat} (h : i < 256) : (fullL c).getD i 0 = c := by
  unfold fullL
  rw [List.getD_eq_getElem?_getD, List.getElem?_replicate, if_pos h]; rfl
theorem WaitI.fin {mk : Nat → Nat} {ws ls : List Nat} {D : Dsk} (h : WaitI mk ws ls D) {f : List Nat} (hf : Bts f) : EndI mk ws ls (powerD D f) := by
  refine ⟨rfl, by show (powS D.s f).length = 9; rw [powS_len, h.len], settle_waits _, fun j hj => ?_, fun j hj q i hi => ?_, fun j hj q => ?_⟩
  · show ((powS D.s f).getD j sec0).has.length = 256
    have hp := powS_at (s := D.s) hf j
    by_cases q : ws.getD j 0 = 0
    · obtain ⟨a, b⟩ := h.none_ j hj q
      rw [hp.1 a, b, fullL_len]
    · obtain ⟨a, b⟩ := h.some_ j hj (by omega)
      obtain ⟨k, hk, e⟩ := hp.2 a
      rw [e]
      show ((D.s.getD j sec0).has.take k ++ (D.s.getD j sec0).safe.drop k).length = 256
      rw [b, h.safe j hj, List.length_append, List.length_take, List.length_drop, fullL_len, fullL_len]
      omega
  · show ((powS D.s f).getD j sec0).has.getD i 0 = _
    obtain ⟨a, b⟩ := h.none_ j hj q
    rw [(powS_at (s := D.s) hf j).1 a, b, full_getD hi]
  · obtain ⟨a, b⟩ := h.some_ j hj q
    obtain ⟨k, hk, e⟩ := (powS_at (s := D.s) hf j).2 a
    have e2 : ∀ i, ((powerD D f).s.getD j sec0).has.getD i 0 = ((fullL (ls.getD j 0)).take k ++ (fullL (mk j)).drop k).getD i 0 := by
      intro i
      show ((powS D.s f).getD j sec0).has.getD i 0 = _
      rw [e]
      simp only [powOne]
      rw [b, h.safe j hj]
    have hl : ((fullL (ls.getD j 0)).take k).length = k := by rw [List.length_take, fullL_len]; omega
    refine ⟨k, hk, fun i hi => ?_, fun i h1 h2 => ?_⟩
    · rw [e2, List.getD_eq_getElem?_getD, List.getElem?_append_left (by rw [hl]; exact hi), List.getElem?_take, if_pos hi, ← List.getD_eq_getElem?_getD, full_getD (by omega)]
    · rw [e2, List.getD_eq_getElem?_getD, List.getElem?_append_right (by rw [hl]; exact h1), hl, List.getElem?_drop, show k + (i - k) = i from by omega, ← List.getD_eq_getElem?_getD, full_getD h2]
end Go.Proofs.YtlkgdpdnhnakoaaGreatDoor
