/- Logs of who committed first: Note. -/
import Derived.Test.YtaeiajodbpgbbaaCf3
namespace Go.Proofs.Ytaeiajodbpgbbaa
open Go.RowKit Go.Sort Go.Shelf

set_option maxRecDepth 100000 in
theorem cl_ent {base : Nat} {v : Value} {L : List HEl} (hl : L.length ≤ 1000) (w : World) (ho : OwnE lgE w base 92 v L) :
    Calls Try.prog 51 #[v] w fun e w' => (∃ v', e = .returned v' ∧ OwnE lgE w' w.heap.size 92 v' L) ∧ Same w w' := by
  obtain ⟨a, n, c, rfl, hn, hp, hat⟩ := ho.rd2
  have hn := hn.out; have hat := hat.out
  rcases hp.out with ⟨rfl, rfl⟩ | ⟨b, off, rfl⟩
  · have h0 : L = [] := by rcases hat with h | ⟨_, _, h, _⟩; exact h; cases h
    subst h0
    have := AnyE.slices_Clone_nil Try.clnA n 0 w
    refine this.mono (fun e w' ⟨h1, h2⟩ => ⟨⟨_, h1, OwnE.nil _ _ _⟩, h2 ▸ Kept.refl _ _⟩)
  · obtain ⟨i0, hi, hz0, hz1, hz2⟩ := info_parts entInfo
    have := AnyE.slices_Clone Try.clnA i0 (.agg #[.int .i64 0, .slice none 0 0]) 2 32 hi hz0 hz1 hz2 rfl (by decide) (fun w => Try.sizeOf92 w) b off n c (lgE.all L) w (by rw [Enc.all_len, hn]; rfl) (by unfold maxLen; omega) (by omega) (fun j u hu => by
      rcases hat with h | ⟨b', off', e, _, hc⟩
      · subst h; simp [Enc.all] at hu
      · cases e; exact hc j u hu) (lgE.all_one L)
    refine this.mono (fun e w' ⟨v', h1, h2, _, h4⟩ => ⟨⟨v', h1, ?_⟩, Kept.of_below h4⟩)
    unfold OwnE
    rw [← hn]
    exact h2
/-- append of one element: what turns. -/
theorem el_pushK {α : Type} (E : Enc α) {P : Program} (t e : TypeId) (ht : P.underlying t = some (.slice e)) {z : Value} {bytes : Nat} (hi : (P.info? e).map (fun i => (i.zero, i.size, i.bytes)) = some (some z, E.n, bytes)) (hzs : z.cells.size = E.n) (hby : bytes ≤ 1000)
    {w : World} {base : Nat} {v : Value} {xs : List α} (h : OwnE E w base e v xs) (hb : base ≤ w.heap.size) (hl : xs.length ≤ 100000) (x : α) (cs : Array Value) (hcs : cs = (E.enc x).toArray) :
    ∃ v' w', (Builtin.append_ #[t, t] t #[v, .slice (some ⟨w.heap.size, 0, none⟩) 1 1]).run P (w.alloc (.cells cs e)) = .ok v' w' ∧ OwnE E w' base e v' (xs ++ [x]) ∧ Kept (fun j => v.ownBlock = some j) w w' ∧ (v'.ownBlock = v.ownBlock ∨ ∀ g, v'.ownBlock = some g → w.heap.size ≤ g) := by
  have kA : Same w (w.alloc (.cells cs e)) := (Kept.refl _ w).alloc _
  have hone : ElsAt E (w.alloc (.cells cs e)) (some ⟨w.heap.size, 0, none⟩) [x] := elsAt_one (E := E) (x := x) (Blk.new w _ _) hcs
  obtain ⟨v', w', hrun, ho, hgr, hor⟩ := run_appendE (P := P) (w.alloc (.cells cs e)) t t base e z bytes E ht hi hzs v xs (h.same kA) (some ⟨w.heap.size, 0, none⟩) 1 1 [x] rfl hone (fun h => by cases h) (by unfold maxLen; simp; omega)
    (by
      have h1 : (xs.length + [x].length) * bytes ≤ (xs.length + [x].length) * 1000 := Nat.mul_le_mul_left _ hby
      simp at h1 ⊢; omega) (Nat.le_trans hb kA.size)
  have kg : Kept (fun j => v.ownBlock = some j) (w.alloc (.cells cs e)) w' := (Kept.refl _ _).grown hgr (fun k hk _ => hk)
  exact ⟨v', w', hrun, ho, (kA.mono (fun _ _ q => q.elim)).trans kg, hor.imp id (fun q g hg => by rw [q] at hg; simp at hg; omega)⟩
theorem OwnE.blk {α : Type} {E : Enc α} {w : World} {base : Nat} {e : TypeId} {v : Value} {xs : List α} (h : OwnE E w base e v xs) {g : Nat} (hg : v.ownBlock = some g) : ∃ cur, Blk w g cur e := by
  rcases h.2 with ⟨rfl, _⟩ | ⟨g', cap, cur, rfl, _, h2, _⟩
  · simp [Value.ownBlock] at hg
  · obtain rfl : g' = g := by simpa [Value.ownBlock] using hg
    exact ⟨cur, h2⟩
theorem Blk.ty {w : World} {b : Nat} {cs cs' : Array Value} {t t' : TypeId} (h : Blk w b cs t) (h' : Blk w b cs' t') : t = t' := by
  have := h.symm.trans h'
  cases this
  rfl
/-- A slice of one's own stays, where only blocks of other types turn. -/
theorem OwnE.keptT {α : Type} {E : Enc α} {w w' : World} {base : Nat} {e : TypeId} {v : Value} {xs : List α} {fp : Nat → Prop} (h : OwnE E w base e v xs) (k : Kept fp w w') (hf : ∀ g cur, fp g → ¬ Blk w g cur e) : OwnE E w' base e v xs :=
  h.kept k (fun g hg hfg => by obtain ⟨cur, hb⟩ := h.blk hg; exact hf g cur hfg hb)
/-- What Note tells. -/
def NotePost (w : World) (L : List HEl) (ts : Int) (ks : List (List UInt8)) (e : Ending) (w' : World) : Prop :=
  (∃ v x, e = .returned v ∧ OwnE lgE w' w.heap.size 92 v (L ++ [x]) ∧ x.t = ts ∧ x.ks = ks ∧ OwnE stE w' w.heap.size 9 (.slice x.a x.n x.c) ks) ∧ Same w w'
section
attribute [local go_sem ↓] exec_app semAt_app
attribute [local go_sem] isApp_lit appA appX
set_option maxRecDepth 100000 in
set_option maxHeartbeats 800000 in
theorem cf_note {base : Nat} (v : Value) (L : List HEl) (hL : L.length ≤ 1000) (w : World) (ho : OwnE lgE w base 92 v L) (ts : Int) (a : Option Addr) (n c : Nat) (ks : List (List UInt8)) (hn : n = ks.length) (hpos : 0 < n) (hl : n ≤ 500) (hat : ElsAt stE w a ks) (hp : PlainA a c) :
    Calls Try.prog 39 #[v, .int .i64 ts, .slice a n c] w (NotePost w L ts ks) := by
  have CE := Lib.hid (cl_ent hL w ho)
  have CS := Lib.hid (fun w' (k : Same w w') => cl_str a n c ks hn (by omega) w' (hat.same k) hp)
  have LL := Lib.hid hL
  have g1 : ((n : Int) == 0) = false := by simp; omega
  have g2 : ¬ (n : Int) = 0 := by omega
  clear ho hat hp hn
  go_enter Try.func39, Try.ntmps39
  go_wp2_with fail
  with_reducible refine CE.out.mono ?_
  rintro e w1 ⟨⟨v1, rfl, ho1⟩, k1⟩
  have K1 := Lib.hid k1
  have O1 := Lib.hid ho1
  clear ho1 k1 CE
  go_wp2_with fail
  with_reducible refine (CS.out w1 K1.out).mono ?_
  rintro e w2 ⟨⟨v2, rfl, ho2⟩, k2⟩
  obtain ⟨a2, n2, c2, rfl, -, -, -⟩ := ho2.rd2
  have K2 := Lib.hid (K1.out.trans k2)
  have O2 := Lib.hid (O1.out.same k2)
  have S2 := Lib.hid (ho2.rebase K1.out.size)
  clear ho2 k2 K1 O1 CS
  obtain ⟨v', w', hrun, ho, k5, -⟩ := el_pushK lgE (P := Try.prog) _ _ Try.underlying71 entInfo rfl (by decide) O2.out K2.out.size (by have := LL.out; omega) ⟨ts, a2, n2, c2, ks⟩ #[.int .i64 ts, .slice a2 n2 c2] rfl
  have KR := Lib.hid (K2.out.step k5 (fun j hj q => by have := (O2.out.far j q).1; omega))
  have HO := Lib.hid ho
  have S5 := Lib.hid (show OwnE stE w' w.heap.size 9 (.slice a2 n2 c2) ks from (S2.out.keptT k5 (fun g cur hg hb => by
    obtain ⟨cur', hb'⟩ := O2.out.blk hg
    exact absurd (hb.ty hb') (by decide))))
  obtain ⟨aok, aV, aW⟩ := app_of hrun
  clear hrun ho k5
  go_wp2_with fail
  go_ret
  exact ⟨⟨_, _, rfl, HO.out, rfl, rfl, S5.out⟩, KR.out⟩
end
end Go.Proofs.Ytaeiajodbpgbbaa
