/- Events of the program's; when commits were. -/
import Derived.Test.YtaeiajodbpgbbaaHvP
import Derived.Test.YtaeiajodbpgbbaaProg
import Derived.Deep.RegionHeld3
import Derived.Deep.Cut
import Derived.Shelf.Abstract
namespace Go.Proofs.Ytaeiajodbpgbbaa
open Go.RowKit Go.Sort

theorem cutWl {P : Program} {c : Code} {Q : Exit → Act → World → Prop} {a : Act} {w : World} (R : World → Prop) (h : R w) (k : ∀ wn, R wn → Code.wp P c Q a wn) : Code.wp P c Q a w := k w h
theorem cutE {Q : Exit → Act → World → Prop} {e : Exit} {a : Act} {w : World} (R : World → Prop) (h : R w) (k : ∀ wn, R wn → Q e a wn) : Q e a w := k w h
/-- append of one element, to a slice of one's own. -/
theorem el_push {α : Type} (E : Enc α) {P : Program} (t e : TypeId) (ht : P.underlying t = some (.slice e)) {z : Value} {bytes : Nat} (hi : (P.info? e).map (fun i => (i.zero, i.size, i.bytes)) = some (some z, E.n, bytes)) (hzs : z.cells.size = E.n) (hby : bytes ≤ 1000)
    {w : World} {base : Nat} {v : Value} {xs : List α} (h : OwnE E w base e v xs) (hb : base ≤ w.heap.size) (hl : xs.length ≤ 100000) (x : α) (cs : Array Value) (hcs : cs = (E.enc x).toArray) :
    ∃ v' w', (Builtin.append_ #[t, t] t #[v, .slice (some ⟨w.heap.size, 0, none⟩) 1 1]).run P (w.alloc (.cells cs e)) = .ok v' w' ∧ OwnE E w' base e v' (xs ++ [x]) ∧ Kept (fun j => base ≤ j) w w' := by
  have kA : Same w (w.alloc (.cells cs e)) := (Kept.refl _ w).alloc _
  have hone : ElsAt E (w.alloc (.cells cs e)) (some ⟨w.heap.size, 0, none⟩) [x] := elsAt_one (E := E) (x := x) (Blk.new w _ _) hcs
  obtain ⟨v', w', hrun, ho, hgr, _⟩ := run_appendE (P := P) (w.alloc (.cells cs e)) t t base e z bytes E ht hi hzs v xs (h.same kA) (some ⟨w.heap.size, 0, none⟩) 1 1 [x] rfl hone (fun h => by cases h) (by unfold maxLen; simp; omega)
    (by
      have h1 : (xs.length + [x].length) * bytes ≤ (xs.length + [x].length) * 1000 := Nat.mul_le_mul_left _ hby
      simp at h1 ⊢; omega) (Nat.le_trans hb kA.size)
  have kg : Kept (fun j => v.ownBlock = some j) (w.alloc (.cells cs e)) w' := (Kept.refl _ _).grown hgr (fun k hk _ => hk)
  exact ⟨v', w', hrun, ho, (kA.mono (fun _ _ q => q.elim)).trans (kg.mono (fun j _ hj => (h.far j hj).1))⟩
theorem evInfo : (Try.prog.info? 42).map (fun i => (i.zero, i.size, i.bytes)) = some (some (.agg #[.int .u8 0, .int .i64 0, .int .i64 0, .string ByteArray.empty, .string ByteArray.empty, .bool false]), 6, 64) := by kernel_rfl
theorem ev_push {w : World} {base : Nat} {v : Value} {xs : List HEv} (h : OwnE evE w base 42 v xs) (hb : base ≤ w.heap.size) (hl : xs.length ≤ 100000) (x : HEv) :
    ∃ v' w', (Builtin.append_ #[26, 26] 26 #[v, .slice (some ⟨w.heap.size, 0, none⟩) 1 1]).run Try.prog (w.alloc (.cells #[.int .u8 (x.k : Nat), .int .i64 x.x, .int .i64 x.t, encStr x.key, encStr x.val, .bool x.is] 42)) = .ok v' w' ∧ OwnE evE w' base 42 v' (xs ++ [x]) ∧ Kept (fun j => base ≤ j) w w' :=
  el_push evE _ _ Try.underlying26 evInfo rfl (by decide) h hb hl x _ rfl
/-- An event in memory, cell by cell. -/
theorem ev_at {w : World} {a : Option Addr} {l : List HEv} (h : ElsAt evE w a l) {i : Nat} (hi : i < l.length) :
    ∃ b off, a = some ⟨b, off, none⟩ ∧ b < w.heap.size ∧ ∀ w', Same w w' → w'.cell? ⟨b, off + i * 6, none⟩ = some (.int .u8 (l[i].k : Nat)) ∧ w'.cell? ⟨b, off + i * 6 + 1, none⟩ = some (.int .i64 l[i].x) ∧ w'.cell? ⟨b, off + i * 6 + 2, none⟩ = some (.int .i64 l[i].t) ∧ w'.cell? ⟨b, off + i * 6 + 3, none⟩ = some (encStr l[i].key) ∧ w'.cell? ⟨b, off + i * 6 + 4, none⟩ = some (encStr l[i].val) ∧ w'.cell? ⟨b, off + i * 6 + 5, none⟩ = some (.bool l[i].is) := by
  obtain ⟨b, off, rfl, hb⟩ := h.there (fun e => by rw [e] at hi; simp at hi)
  have hx : l[i]? = some l[i] := List.getElem?_eq_getElem hi
  refine ⟨b, off, rfl, hb, fun w' k => ?_⟩
  have h2 := h.same k
  have g : ∀ j u, (encH l[i])[j]? = some u → w'.cell? ⟨b, off + i * 6 + j, none⟩ = some u := fun j u hu => by
    have := h2.get hx j (u := u) hu
    rw [Nat.add_assoc]
    exact this
  exact ⟨g 0 _ rfl, g 1 _ rfl, g 2 _ rfl, g 3 _ rfl, g 4 _ rfl, g 5 _ rfl⟩
section
attribute [local go_sem ↓] exec_app semAt_app
attribute [local go_sem] isApp_lit appA appX
set_option maxRecDepth 100000 in
set_option maxHeartbeats 800000 in
theorem hv_own (a : Option Addr) (n c : Nat) (l : List HEv) (hn : n = l.length) (hl : n ≤ 1000) (w : World) (hat : ElsAt evE w a l) :
    Calls Try.prog 7 #[.slice a n c] w fun e w' => (∃ v, e = .returned v ∧ OwnE evE w' w.heap.size 42 v l) ∧ Same w w' := by
  have HN := Lib.hid hn; have HAT := Lib.hid hat
  clear hn hat
  go_enter Try.func7, Try.ntmps7
  go_wp2_with fail
  go_loopw [3, 4] (fun v t wr => ∃ (i : Nat), t = .int .i64 i ∧ i ≤ n ∧ OwnE evE wr w.heap.size 42 v (l.take i) ∧ Same w wr) (fun _ t _ => n - (intOf t).toNat)
  case atStart => exact ⟨0, rfl, by omega, OwnE.nil _ _ _, Kept.refl _ _⟩
  case round =>
    obtain ⟨i, rfl, hi, hg, hk⟩ := hrel
    have K := Lib.hid hk; have HG := Lib.hid hg
    clear hk hg
    by_cases hgo : i < n
    · have hil : i < l.length := by have := HN.out; omega
      obtain ⟨b, off, rfl, hbl, hc⟩ := ev_at HAT.out hil
      obtain ⟨c0, c1, c2, c3, c4, c5⟩ := hc _ K.out
      obtain ⟨x, hx⟩ : ∃ x, l[i] = x := ⟨_, rfl⟩
      have TK := Lib.hid (show l.take (i + 1) = l.take i ++ [x] by rw [← hx, List.take_append_getElem])
      rw [hx] at c0 c1 c2 c3 c4 c5
      have g1 : (i : Int) < (n : Int) := by omega
      have g0 : (0 : Int) ≤ (i : Int) := by omega
      obtain ⟨v', w', hrun, ho, k5⟩ := ev_push HG.out K.out.size (by rw [List.length_take]; omega) x
      have K5 := Lib.hid (K.out.step k5 (fun j hj q => by omega))
      have HO := Lib.hid ho
      obtain ⟨aok, aV, aW⟩ := app_of hrun
      clear hrun ho k5 hx hc
      go_wp2_with fail
      go_roundw
      case rel => exact ⟨i + 1, by go_num, by omega, by rw [TK.out]; exact HO.out, K5.out⟩
      case measure => simp [intOf]; omega
    · have hin : i = n := by omega
      have g1 : ¬ (i : Int) < (n : Int) := by omega
      have e1 : l.take i = l := List.take_of_length_le (by have := HN.out; omega)
      rw [e1] at HG
      go_wp2_with fail
      go_ret
      exact ⟨⟨_, rfl, HG.out⟩, K.out⟩
end
end Go.Proofs.Ytaeiajodbpgbbaa
