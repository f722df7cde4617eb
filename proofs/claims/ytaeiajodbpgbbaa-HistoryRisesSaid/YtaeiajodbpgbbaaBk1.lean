/- A book in memory; a transaction of it. -/
import Derived.Test.YtaeiajodbpgbbaaBk0
namespace Go.Proofs.Ytaeiajodbpgbbaa
open Go.RowKit Go.Sort Go.Shelf

def encW (v : List UInt8 × Bool) : Value := .agg #[encStr v.1, .bool v.2]
/-- A transaction lies in block p, what it wrote in map m. -/
def TxIn (w : World) (base p m : Nat) (t : HTx) : Prop := ∃ ka kn kc, Blk w p #[.int .i64 t.start, .bool t.live, .slice ka kn kc, .map (some m)] 81 ∧ OwnE stE w base 9 (.slice ka kn kc) t.keys ∧ MapS w m (fun k => (t.wrote k).map encW) ∧ base ≤ p ∧ base ≤ m
/-- A book lies in block B, its transactions in map M. -/
structure BkIn (w : World) (base B M : Nat) (pb pm : Int → Nat) (b : HBk) (N : Nat) : Prop where
  box : ∃ la ll lc ba bl bc L, Blk w B #[.int .i64 b.top, .map (some M), .slice la ll lc, .slice ba bl bc] 73 ∧ OwnE lgE w base 92 (.slice la ll lc) L ∧ L.map (fun x => (x.t, x.ks)) = b.log ∧ (∀ x ∈ L, OwnE stE w base 9 (.slice x.a x.n x.c) x.ks ∧ x.ks.length ≤ N) ∧ OwnE inE w base 3 (.slice ba bl bc) b.by_
  map : MapK (.int .i64) (Value.int .i64) w M (fun id => (b.txns id).map fun _ => .pointer (some ⟨pb id, 0, none⟩))
  tx : ∀ id t, b.txns id = some t → TxIn w base (pb id) (pm id) t ∧ t.keys.length ≤ N
  neM : ∀ id, (b.txns id).isSome = true → pm id ≠ M
  inj : ∀ i j, (b.txns i).isSome = true → (b.txns j).isSome = true → i ≠ j → pb i ≠ pb j ∧ pm i ≠ pm j
  ll : b.log.length ≤ N
  lb : b.by_.length = b.log.length
  kn : ∀ id ∈ b.by_, (b.txns id).isSome = true
  fB : base ≤ B
  fM : base ≤ M
/-- What turns is no block of a type that holds elements. -/
def Els0 (w : World) (fp : Nat → Prop) : Prop := ∀ g cur t, fp g → Blk w g cur t → t ≠ 9 ∧ t ≠ 92 ∧ t ≠ 3
theorem TxIn.kept {w w' : World} {base p m : Nat} {t : HTx} {fp : Nat → Prop} (h : TxIn w base p m t) (k : Kept fp w w') (h1 : ¬ fp p) (h2 : ¬ fp m) (hs : ∀ g cur, fp g → ¬ Blk w g cur 9) : TxIn w' base p m t := by
  obtain ⟨ka, kn, kc, h3, h4, h5, h6, h7⟩ := h
  exact ⟨ka, kn, kc, h3.kept k h1, h4.keptT k hs, h5.kept k h2, h6, h7⟩
theorem TxIn.same {w w' : World} {base p m : Nat} {t : HTx} (h : TxIn w base p m t) (k : Same w w') : TxIn w' base p m t := h.kept k (fun h => h) (fun h => h) (fun _ _ h => h.elim)
theorem TxIn.rebase {w : World} {base base' p m : Nat} {t : HTx} (h : TxIn w base p m t) (hb : base' ≤ base) : TxIn w base' p m t := by
  obtain ⟨ka, kn, kc, h3, h4, h5, h6, h7⟩ := h
  exact ⟨ka, kn, kc, h3, h4.rebase hb, h5, Nat.le_trans hb h6, Nat.le_trans hb h7⟩
theorem TxIn.lt {w : World} {base p m : Nat} {t : HTx} (h : TxIn w base p m t) : p < w.heap.size ∧ m < w.heap.size := by
  obtain ⟨ka, kn, kc, h3, h4, h5, h6, h7⟩ := h
  exact ⟨h3.lt, h5.lt⟩
theorem BkIn.same {w w' : World} {base B M : Nat} {pb pm : Int → Nat} {b : HBk} {N : Nat} (h : BkIn w base B M pb pm b N) (k : Same w w') : BkIn w' base B M pb pm b N := by
  obtain ⟨⟨la, ll, lc, ba, bl, bc, L, h1, h2, h3, h4, h5⟩, hm, ht, a1, a2, a3, a4, a5, a6, a7⟩ := h
  exact ⟨⟨la, ll, lc, ba, bl, bc, L, h1.kept k (fun h => h), h2.same k, h3, fun x hx => ⟨(h4 x hx).1.same k, (h4 x hx).2⟩, h5.same k⟩, hm.same k, fun id t e => ⟨(ht id t e).1.same k, (ht id t e).2⟩, a1, a2, a3, a4, a5, a6, a7⟩
theorem BkIn.lt {w : World} {base B M : Nat} {pb pm : Int → Nat} {b : HBk} {N : Nat} (h : BkIn w base B M pb pm b N) : B < w.heap.size ∧ M < w.heap.size := by
  obtain ⟨⟨la, ll, lc, ba, bl, bc, L, h1, h2, h3, h4, h5⟩, hm, ht, a1, a2, a3, a4, a5, a6, a7⟩ := h
  exact ⟨h1.lt, hm.lt⟩
/-- What of tells: the transaction, as it lies, or a new one. -/
def OfPost (w : World) (base : Nat) (b : HBk) (pb pm : Int → Nat) (id : Int) (e : Ending) (w' : World) : Prop :=
  (∃ p m, e = .returned (.pointer (some ⟨p, 0, none⟩)) ∧ TxIn w' base p m (b.of id) ∧ (((b.txns id).isSome = true ∧ p = pb id ∧ m = pm id) ∨ ((b.txns id).isSome = false ∧ w.heap.size ≤ p ∧ w.heap.size ≤ m))) ∧ Same w w'
theorem zero_ptr (w : World) : (zeroValue 74).run Try.prog w = .ok (.pointer none) w := Try.zeroValue74 w
set_option maxRecDepth 100000 in
theorem bk_of {w : World} {base B M : Nat} {pb pm : Int → Nat} {b : HBk} {N : Nat} (h : BkIn w base B M pb pm b N) (hbase : base ≤ w.heap.size) (id : Int) :
    Calls Try.prog 34 #[.pointer (some ⟨B, 0, none⟩), .int .i64 id] w (OfPost w base b pb pm id) := by
  obtain ⟨la, ll, lc, ba, bl, bc, L, h1, -, -, -, -⟩ := h.box
  have p0 := cell_blk h1
  have z0 := h1.lt
  have hlk := MapK.look (P := Try.prog) h.map Try.underlying70 Try.underlying3 id (zero_ptr w) true
  have hmm := @run_makeMap Try.prog
  cases ht : b.txns id with
  | some t =>
    have HT := Lib.hid ht
    have HX := Lib.hid (h.tx id t ht).1
    rw [ht, if_pos rfl] at hlk
    replace hlk : (Instr.lookup 70 (.map (some M)) (.int .i64 id) true).run Try.prog w = .ok (.tuple #[.pointer (some ⟨pb id, 0, none⟩), .bool true]) w := hlk
    clear h h1 ht hmm
    obtain ⟨p, hp⟩ : ∃ p, pb id = p := ⟨_, rfl⟩
    rw [hp] at hlk HX
    have HP := Lib.hid hp
    clear hp
    go_enter Try.func34, Try.ntmps34
    go_wp2_with fail
    go_ret
    exact ⟨⟨_, pm id, rfl, by unfold HBk.of; rw [HT.out]; exact HX.out, .inl ⟨by rw [HT.out]; rfl, HP.out.symm, rfl⟩⟩, Kept.refl _ _⟩
  | none =>
    have HT := Lib.hid ht
    rw [ht, if_pos rfl] at hlk
    replace hlk : (Instr.lookup 70 (.map (some M)) (.int .i64 id) true).run Try.prog w = .ok (.tuple #[.pointer none, .bool false]) w := hlk
    have HB := Lib.hid hbase
    clear h h1 ht hbase
    go_enter Try.func34, Try.ntmps34
    go_wp2_with fail
    go_ret
    refine ⟨⟨_, w.heap.size, rfl, ?_, .inr ⟨by rw [HT.out]; rfl, ?_, Nat.le_refl _⟩⟩, ?_⟩
    · unfold HBk.of
      rw [HT.out]
      exact ⟨none, 0, 0, Blk.new' (w.alloc (.map #[] 0)) _ _ (by simp), OwnE.nil _ _ _, (MapK.new keyE_enc w).same ((Kept.refl _ _).alloc _), by have := HB.out; omega, HB.out⟩
    · omega
    · exact ((Kept.refl _ _).alloc _).alloc _
end Go.Proofs.Ytaeiajodbpgbbaa
