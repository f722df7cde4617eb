/- A block that was synced stays (plain). -/
import Derived.Test.YtlmpkonfclnceaaGBlk
import Derived.Test.YtlmpkonfclnceaaGSecB
namespace Go.Proofs.Ytlmpkonfclnceaa
open Go.RowKit

theorem getD_app_left {a b : List Nat} {i : Nat} (h : i < a.length) : (a ++ b).getD i 0 = a.getD i 0 := by
  rw [List.getD_eq_getElem?_getD, List.getD_eq_getElem?_getD, List.getElem?_append_left h]
/-- What is sealed is opened again. -/
theorem openP_sealC {b : List Nat} (h : b.length ≤ 1016) : openP (sealC b) = (b, 0) := by
  have ht : (sealC b).take 4 = fourOf (crcOf (inner b)) := by
    unfold sealC
    rw [List.take_append_of_le_length (by simp [fourOf]), List.take_of_length_le (by simp [fourOf])]
  have hd : (sealC b).drop 4 = inner b := by
    unfold sealC
    rw [List.drop_append, List.drop_eq_nil_of_le (by simp [fourOf]), show 4 - (fourOf (crcOf (inner b))).length = 0 from rfl, List.drop_zero, List.nil_append]
  have hg : ∀ i, (sealC b).getD (4 + i) 0 = (inner b).getD i 0 := by
    intro i
    rw [← hd, List.getD_eq_getElem?_getD, List.getD_eq_getElem?_getD, List.getElem?_drop]
  have g4 : (sealC b).getD 4 0 = b.length / 256 := hg 0
  have g5 : (sealC b).getD 5 0 = b.length % 256 := hg 1
  have g6 : (sealC b).getD 6 0 = 0 := hg 2
  have g7 : (sealC b).getD 7 0 = 0 := hg 3
  have h8 : (sealC b).drop 8 = b ++ List.replicate (1016 - b.length) 0 := by
    have : (sealC b).drop 8 = (inner b).drop 4 := by rw [← hd, List.drop_drop]
    rw [this]
    unfold inner
    rw [List.append_assoc]
    rfl
  have hn : 256 * (sealC b).getD 4 0 + (sealC b).getD 5 0 = b.length := by rw [g4, g5]; omega
  have hf : formOK (sealC b) := by
    refine ⟨g6, g7, ?_⟩
    rw [hn]
    intro x hx
    have : (sealC b).drop (8 + b.length) = List.replicate (1016 - b.length) 0 := by
      rw [← List.drop_drop, h8, List.drop_append, List.drop_eq_nil_of_le (Nat.le_refl _), Nat.sub_self, List.drop_zero, List.nil_append]
    rw [this] at hx
    exact List.eq_of_mem_replicate hx
  unfold openP
  rw [hd, if_pos ht, hn, if_pos h, if_pos hf, h8, List.take_append_of_le_length (Nat.le_refl _), List.take_of_length_le (Nat.le_refl _)]
theorem chunks_join {L : List Nat} (h : L.length = 1024) : chunk L 0 ++ chunk L 1 ++ chunk L 2 ++ chunk L 3 = L := by
  unfold chunk
  have e : ∀ (A : List Nat) (n : Nat), A.take n ++ A.drop n = A := fun A n => List.take_append_drop n A
  have h3 : (L.drop (3 * 256)).take 256 = L.drop (3 * 256) := List.take_of_length_le (by rw [List.length_drop]; omega)
  rw [h3, Nat.zero_mul, List.drop_zero]
  have d1 : L.drop (2 * 256) = (L.drop (1 * 256)).drop 256 := by rw [List.drop_drop]
  have d2 : L.drop (3 * 256) = (L.drop (2 * 256)).drop 256 := by rw [List.drop_drop]
  rw [List.append_assoc, List.append_assoc, d2, e, d1, e, Nat.one_mul, e]
/-- Sectors written to a disk that goes on. -/
theorem wrs_live (cs : List (List Nat)) : ∀ {D : Dsk} (_ : Live D) (F : Nat) (_ : ∀ c ∈ cs, c.length = 256) (_ : F + cs.length ≤ D.s.length),
    ∃ D', wrs D F cs = (D', 0) ∧ Live D' ∧ D'.s.length = D.s.length ∧ (∀ j, j < F ∨ F + cs.length ≤ j → D'.s.getD j sec0 = D.s.getD j sec0) ∧ (∀ i c, cs[i]? = some c → (D'.s.getD (F + i) sec0).has = c) := by
  induction cs with
  | nil => intro D h F _ _; exact ⟨D, rfl, h, rfl, fun _ _ => rfl, fun i c hc => by simp at hc⟩
  | cons c cs ih =>
    intro D h F hl hF
    simp only [List.length_cons] at hF
    have hw := write_live h (n := F) (by omega) (hl c (by simp))
    have hL : Live (writeD D (F : Nat) c).1 := by rw [hw]; exact ⟨rfl, rfl⟩
    have hlen : (writeD D (F : Nat) c).1.s.length = D.s.length := by rw [hw]; exact putS_len _ _ _
    obtain ⟨D', e1, e2, e3, e4, e5⟩ := ih hL (F + 1) (fun x hx => hl x (by simp [hx])) (by rw [hlen]; omega)
    have hg : ∀ j, (writeD D (F : Nat) c).1.s.getD j sec0 = if j = F then ⟨c, (D.s.getD F sec0).safe, true⟩ else D.s.getD j sec0 := by
      intro j
      rw [hw]
      show (putS D.s F c).getD j sec0 = _
      unfold putS
      rw [getD_set]
      by_cases q : j = F
      · rw [if_pos ⟨q, by omega⟩, if_pos q]
      · rw [if_neg (fun p => q p.1), if_neg q]
    refine ⟨D', ?_, e2, e3.trans hlen, fun j hj => ?_, fun i x hx => ?_⟩
    · simp only [wrs]
      rw [if_pos (by rw [hw]), e1]
    · simp only [List.length_cons] at hj
      rw [e4 j (by omega), hg, if_neg (by omega)]
    · cases i with
      | zero =>
        simp at hx
        subst hx
        rw [Nat.add_zero, e4 F (by omega), hg, if_pos rfl]
      | succ i =>
        have := e5 i x (by simpa using hx)
        rw [show F + (i + 1) = F + 1 + i from by omega]
        exact this
theorem chunks_len {b : List Nat} (h : b.length ≤ 1016) : ∀ c ∈ chunks (sealC b), c.length = 256 := by
  intro c hc
  have hl := sealC_len h
  simp only [chunks, List.mem_cons, List.not_mem_nil, or_false] at hc
  rcases hc with rfl | rfl | rfl | rfl
  · exact chunk_len hl (by decide)
  · exact chunk_len hl (by decide)
  · exact chunk_len hl (by decide)
  · exact chunk_len hl (by decide)
/-- What is kept: the disk goes on, and block 2 has the body, synced. -/
structure StI (D : Dsk) (body : List Nat) : Prop where
  live : Live D
  len : D.s.length = 24
  still : ∀ j, j < 4 → (D.s.getD (10 + j) sec0).waits = false ∧ (D.s.getD (10 + j) sec0).has = chunk (sealC body) j
theorem chunks_get (L : List Nat) {j : Nat} (h : j < 4) : (chunks L)[j]? = some (chunk L j) := by
  rcases j with _ | _ | _ | _ | j
  · rfl
  · rfl
  · rfl
  · rfl
  · omega
theorem stay_start {body : List Nat} (h : body.length ≤ 1016) : (writeB (newD 24) 2 5 2 body).2 = 0 ∧ (syncD (writeB (newD 24) 2 5 2 body).1).2 = 0 ∧ StI (syncD (writeB (newD 24) 2 5 2 body).1).1 body := by
  have hl : (newD 24).s.length = 24 := List.length_replicate
  have e : writeB (newD 24) 2 5 2 body = wrs (newD 24) 10 (chunks (sealC body)) := by
    unfold writeB
    rw [hl, if_pos (show atA 24 2 5 2 = 0 by decide), if_pos h]
    rfl
  obtain ⟨D', e1, e2, e3, e4, e5⟩ := wrs_live (chunks (sealC body)) (D := newD 24) ⟨rfl, rfl⟩ 10 (chunks_len h) (by rw [hl]; show 10 + 4 ≤ 24; decide)
  rw [e, e1]
  refine ⟨rfl, ?_, ?_⟩
  · rw [sync_live e2]
  · rw [sync_live e2]
    refine ⟨⟨rfl, rfl⟩, ?_, fun j hj => ?_⟩
    · show (settle D'.s).length = 24
      rw [settle_len, e3, hl]
    · show ((settle D'.s).getD (10 + j) sec0).waits = false ∧ ((settle D'.s).getD (10 + j) sec0).has = _
      rw [settle_getD]
      exact ⟨rfl, e5 j _ (chunks_get _ hj)⟩
theorem stay_step {D : Dsk} {body : List Nat} (h : StI D body) (n : Int) (hn : n ≠ 2) (b : List Nat) :
    StI (writeB D 2 5 n b).1 body ∧ ((writeB D 2 5 n b).2 = 0 ↔ (0 ≤ n ∧ n < 5) ∧ b.length ≤ 1016) := by
  unfold writeB
  rw [h.len]
  by_cases hin : 0 ≤ n ∧ n < 5
  · have ha : atA 24 2 5 n = 0 := by
      unfold atA
      rw [show errA 24 2 5 = 0 by decide, if_pos rfl, if_pos (hasB_iff.2 hin)]
    rw [if_pos ha]
    by_cases hb : b.length ≤ 1016
    · rw [if_pos hb]
      obtain ⟨D', e1, e2, e3, e4, e5⟩ := wrs_live (chunks (sealC b)) h.live (2 + 4 * n).toNat (chunks_len hb) (by rw [h.len]; show (2 + 4 * n).toNat + 4 ≤ 24; omega)
      rw [e1]
      refine ⟨⟨e2, e3.trans h.len, fun j hj => ?_⟩, ⟨fun _ => ⟨hin, hb⟩, fun _ => rfl⟩⟩
      show (D'.s.getD (10 + j) sec0).waits = false ∧ (D'.s.getD (10 + j) sec0).has = _
      rw [e4 (10 + j) (by show 10 + j < (2 + 4 * n).toNat ∨ (2 + 4 * n).toNat + 4 ≤ 10 + j; omega)]
      exact h.still j hj
    · rw [if_neg hb]
      exact ⟨h, ⟨(fun q => by cases q), (fun q => absurd q.2 hb)⟩⟩
  · have ha : atA 24 2 5 n = 9 := by
      unfold atA
      rw [show errA 24 2 5 = 0 by decide, if_pos rfl, if_neg (fun q => hin (hasB_iff.1 q))]
    rw [ha, if_neg (by decide)]
    exact ⟨h, ⟨(fun q => by cases q), (fun q => absurd q.1 hin)⟩⟩
theorem stay_end {D : Dsk} {body : List Nat} (h : StI D body) (hb : body.length ≤ 1016) {f : List Nat} (hf : Bts f) : readB (powerD D f) 2 5 2 = (body, 0) := by
  have hl : (powerD D f).s.length = 24 := (powS_len D.s f).trans h.len
  unfold readB
  rw [hl, if_pos (show atA 24 2 5 2 = 0 by decide), show (powerD D f).off = false from rfl, if_neg (by decide)]
  have e : ∀ j, j < 4 → hasAt (powerD D f) (10 + j) = chunk (sealC body) j := by
    intro j hj
    show ((powS D.s f).getD (10 + j) sec0).has = _
    rw [(powS_at hf (10 + j)).1 (h.still j hj).1]
    exact (h.still j hj).2
  show openP (hasAt (powerD D f) (10 + 0) ++ hasAt (powerD D f) (10 + 1) ++ hasAt (powerD D f) (10 + 2) ++ hasAt (powerD D f) (10 + 3)) = _
  rw [e 0 (by decide), e 1 (by decide), e 2 (by decide), e 3 (by decide), chunks_join (sealC_len hb), openP_sealC hb]
end Go.Proofs.Ytlmpkonfclnceaa
