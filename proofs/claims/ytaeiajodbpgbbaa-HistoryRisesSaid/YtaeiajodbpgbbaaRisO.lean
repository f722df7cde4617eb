/- Events of the program's, of any number that there is room for. -/
import Derived.Test.YtaeiajodbpgbbaaHv2
namespace Go.Proofs.Ytaeiajodbpgbbaa
open Go.RowKit Go.Sort Go.Shelf

/-- append of one element, to a slice of one's own that there is room for. -/
theorem el_pushB {α : Type} (E : Enc α) {P : Program} (t e : TypeId) (ht : P.underlying t = some (.slice e)) {z : Value} {bytes : Nat} (hi : (P.info? e).map (fun i => (i.zero, i.size, i.bytes)) = some (some z, E.n, bytes)) (hzs : z.cells.size = E.n)
    {w : World} {base : Nat} {v : Value} {xs : List α} (h : OwnE E w base e v xs) (hb : base ≤ w.heap.size) (hl : xs.length + 1 ≤ maxLen) (hby : (xs.length + 1) * bytes ≤ 140737488355328) (x : α) (cs : Array Value) (hcs : cs = (E.enc x).toArray) :
    ∃ v' w', (Builtin.append_ #[t, t] t #[v, .slice (some ⟨w.heap.size, 0, none⟩) 1 1]).run P (w.alloc (.cells cs e)) = .ok v' w' ∧ OwnE E w' base e v' (xs ++ [x]) ∧ Kept (fun j => base ≤ j) w w' := by
  have kA : Same w (w.alloc (.cells cs e)) := (Kept.refl _ w).alloc _
  have hone : ElsAt E (w.alloc (.cells cs e)) (some ⟨w.heap.size, 0, none⟩) [x] := elsAt_one (E := E) (x := x) (Blk.new w _ _) hcs
  obtain ⟨v', w', hrun, ho, hgr, _⟩ := run_appendE (P := P) (w.alloc (.cells cs e)) t t base e z bytes E ht hi hzs v xs (h.same kA) (some ⟨w.heap.size, 0, none⟩) 1 1 [x] rfl hone (fun h => by cases h) hl hby (Nat.le_trans hb kA.size)
  have kg : Kept (fun j => v.ownBlock = some j) (w.alloc (.cells cs e)) w' := (Kept.refl _ _).grown hgr (fun k hk _ => hk)
  exact ⟨v', w', hrun, ho, (kA.mono (fun _ _ q => q.elim)).trans (kg.mono (fun j _ hj => (h.far j hj).1))⟩
theorem ev_pushB {w : World} {base : Nat} {v : Value} {xs : List HEv} (h : OwnE evE w base 42 v xs) (hb : base ≤ w.heap.size) (hby : (xs.length + 1) * 64 ≤ 140737488355328) (x : HEv) :
    ∃ v' w', (Builtin.append_ #[26, 26] 26 #[v, .slice (some ⟨w.heap.size, 0, none⟩) 1 1]).run Try.prog (w.alloc (.cells #[.int .u8 (x.k : Nat), .int .i64 x.x, .int .i64 x.t, encStr x.key, encStr x.val, .bool x.is] 42)) = .ok v' w' ∧ OwnE evE w' base 42 v' (xs ++ [x]) ∧ Kept (fun j => base ≤ j) w w' :=
  el_pushB evE _ _ Try.underlying26 evInfo rfl h hb (by unfold maxLen; omega) hby x _ rfl
section
attribute [local go_sem ↓] exec_app semAt_app
attribute [local go_sem] isApp_lit appA appX
set_option maxRecDepth 100000 in
set_option maxHeartbeats 800000 in
theorem hv_ownB (a : Option Addr) (n c : Nat) (l : List HEv) (hn : n = l.length) (hl : n * 64 ≤ 140737488355328) (w : World) (hat : ElsAt evE w a l) :
    Calls Try.prog 7 #[.slice a n c] w fun e w' => (∃ v, e = .returned v ∧ OwnE evE w' w.heap.size 42 v l) ∧ Same w w' := by
  have HN := Lib.hid hn; have HAT := Lib.hid hat; have HLL := Lib.hid hl
  clear hn hat hl
  go_enter Try.func7, Try.ntmps7
  go_wp2_with fail
  go_loopw [3, 4] (fun v t wr => ∃ (i : Nat), t = .int .i64 i ∧ i ≤ n ∧ OwnE evE wr w.heap.size 42 v (l.take i) ∧ Same w wr) (fun _ t _ => n - (intOf t).toNat)
  case atStart => exact ⟨0, rfl, by omega, OwnE.nil _ _ _, Kept.refl _ _⟩
  case round =>
    obtain ⟨i, rfl, hi, hg, hk⟩ := hrel
    have K := Lib.hid hk; have HG := Lib.hid hg
    clear hk hg
    have hbig := HLL.out
    by_cases hgo : i < n
    · have hil : i < l.length := by have := HN.out; omega
      obtain ⟨b, off, rfl, hbl, hc⟩ := ev_at HAT.out hil
      obtain ⟨c0, c1, c2, c3, c4, c5⟩ := hc _ K.out
      obtain ⟨x, hx⟩ : ∃ x, l[i] = x := ⟨_, rfl⟩
      have TK := Lib.hid (show l.take (i + 1) = l.take i ++ [x] by rw [← hx, List.take_append_getElem])
      rw [hx] at c0 c1 c2 c3 c4 c5
      have g1 : (i : Int) < (n : Int) := by omega
      have g0 : (0 : Int) ≤ (i : Int) := by omega
      obtain ⟨v', w', hrun, ho, k5⟩ := ev_pushB HG.out K.out.size (by rw [List.length_take]; omega) x
      have K5 := Lib.hid (K.out.step k5 (fun j hj q => by omega))
      have HO := Lib.hid ho
      obtain ⟨aok, aV, aW⟩ := app_of hrun
      clear hrun ho k5 hx hc
      go_wp2_with fail
      go_roundw
      case rel => exact ⟨i + 1, by go_num, by omega, by rw [TK.out]; exact HO.out, K5.out⟩
      case measure => simp [intOf]; omega
    · have hin : i = n := by omega
      have g1 : ¬ (i : Int) < (n : Int) := by omega
      have e1 : l.take i = l := List.take_of_length_le (by have := HN.out; omega)
      rw [e1] at HG
      go_wp2_with fail
      go_ret
      exact ⟨⟨_, rfl, HG.out⟩, K.out⟩
end
end Go.Proofs.Ytaeiajodbpgbbaa
