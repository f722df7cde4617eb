/- A text more behind texts of one's own; a log beside them. -/
import Derived.Test.YtlmpkonfclnceaaGreatRoomP
namespace Go.Proofs.YtlmpkonfclnceaaGreat
open Go.RowKit Go.Sort

theorem txts_push {w : World} {base : Nat} {v : Value} {l : List (List Nat)} (h : OwnT w base v l) (hb : base ≤ w.heap.size) (s : List Nat) (hl : l.length ≤ 100000) :
    ∃ v' w', (Builtin.append_ #[46, 46] 46 #[v, .slice (some ⟨w.heap.size, 0, none⟩) 1 1]).run Tryz.prog (w.alloc (.cells #[.string (strN s)] 9)) = .ok v' w' ∧ OwnT w' base v' (l ++ [s]) ∧ Kept (fun j => v.ownBlock = some j) w w' ∧ (v'.ownBlock = v.ownBlock ∨ v'.ownBlock = some (w.heap.size + 1)) := by
  have kA : Same w (w.alloc (.cells #[.string (strN s)] 9)) := (Kept.refl _ w).alloc _
  have hone : TxtsAt (w.alloc (.cells #[.string (strN s)] 9)) (some ⟨w.heap.size, 0, none⟩) [s] := elsAt_one (E := strE) (x := s) (Blk.new w _ _) rfl
  obtain ⟨v', w', hrun, ho, hgr, hob⟩ := run_appendE (P := Tryz.prog) (w.alloc (.cells #[.string (strN s)] 9)) 46 46 base 9 (.string ByteArray.empty) 16 strE Tryz.underlying46 strInfo rfl v l (h.same kA) (some ⟨w.heap.size, 0, none⟩) 1 1 [s] rfl hone (fun q => by cases q) (by unfold maxLen; simp; omega) (by simp; omega) (by simp; omega)
  refine ⟨v', w', hrun, ho, ?_, ?_⟩
  · exact (kA.mono (fun _ _ q => q.elim)).grown hgr (fun k hk _ => hk)
  · rcases hob with q | q
    · exact .inl q
    · exact .inr (by rw [q]; simp)
theorem LogP.push {w w' : World} {g d bs m H : Nat} {L : Lg} {v v' : Value} (h : LogP w g d bs m L (fun j => ¬ v.ownBlock = some j)) (hg : ¬ v.ownBlock = some g) (hH : w.heap.size ≤ H) (hv : v'.ownBlock = v.ownBlock ∨ v'.ownBlock = some H) (k : Kept (fun j => v.ownBlock = some j) w w') :
    LogP w' g d bs m L (fun j => ¬ v'.ownBlock = some j) := by
  refine ((h.mono (Q := fun j => ¬ v.ownBlock = some j ∧ ¬ v'.ownBlock = some j) (fun j hj p => ⟨p, fun q => ?_⟩)).kept k hg (fun j p => p.1)).mono (fun _ _ p => p.2)
  rcases hv with e | e
  · rw [e] at q; exact p q
  · rw [e] at q
    cases q
    omega
end Go.Proofs.YtlmpkonfclnceaaGreat
