/- Logs of who committed first: First, Note. -/
import Derived.Test.YtaeiajodbpgbbaaCf2
namespace Go.Proofs.Ytaeiajodbpgbbaa
open Go.RowKit Go.Sort Go.Shelf

/-- A log's entry: when, where its keys are, and the keys. -/
structure HEl where
  t : Int
  a : Option Addr
  n : Nat
  c : Nat
  ks : List (List UInt8)
instance : Inhabited HEl := ⟨⟨0, none, 0, 0, []⟩⟩
def encL (e : HEl) : List Value := [.int .i64 e.t, .slice e.a e.n e.c]
def lgE : Enc HEl := ⟨2, encL, fun _ => rfl, by decide, fun e v hv => by simp [encL] at hv; rcases hv with rfl | rfl <;> rfl⟩
/-- An entry's keys lie where it says. -/
def KeysAt (w : World) (base : Nat) (x : HEl) : Prop := OwnE stE w base 9 (.slice x.a x.n x.c) x.ks ∧ x.ks.length ≤ 500
theorem KeysAt.read {w : World} {base : Nat} {x : HEl} (h : KeysAt w base x) : x.n = x.ks.length ∧ ElsAt stE w x.a x.ks := ⟨h.1.at.2, h.1.at.1⟩
theorem idx_cases {α : Type} [Inhabited α] (p : α → Bool) (l : List α) : (Lib.idxBy (fun _ y => p y) l default = -1 ∧ l.any p = false) ∨ ∃ (k : Nat) (_ : k < l.length), Lib.idxBy (fun _ y => p y) l default = (k : Int) ∧ l.any p = true := by
  unfold Lib.idxBy
  suffices H : ∀ (l : List α) (i : Nat), (Lib.idxByFrom (fun _ y => p y) default l i = -1 ∧ l.any p = false) ∨ ∃ (k : Nat) (_ : k < l.length), Lib.idxByFrom (fun _ y => p y) default l i = ((i + k : Nat) : Int) ∧ l.any p = true by
    rcases H l 0 with h | ⟨k, h, h1, h2⟩
    · exact .inl h
    · exact .inr ⟨k, h, by simpa using h1, h2⟩
  intro l
  induction l with
  | nil => intro i; exact .inl ⟨rfl, rfl⟩
  | cons x l ih =>
    intro i
    cases hx : p x
    · rcases ih (i + 1) with ⟨h1, h2⟩ | ⟨k, h, h1, h2⟩
      · exact .inl ⟨by simp only [Lib.idxByFrom, hx]; exact h1, by rw [List.any_cons, hx, h2]; rfl⟩
      · exact .inr ⟨k + 1, by simpa using h, by simp only [Lib.idxByFrom, hx]; rw [show i + (k + 1) = i + 1 + k by omega]; exact h1, by rw [List.any_cons, hx, h2]; rfl⟩
    · exact .inr ⟨0, by simp, by simp [Lib.idxByFrom, hx], by rw [List.any_cons, hx]; rfl⟩
/-- An entry whose keys can be read in a world. -/
structure RdN (w : World) where
  val : HEl
  ok : val.n = val.ks.length ∧ val.ks.length ≤ 500 ∧ ElsAt stE w val.a val.ks
instance (w : World) : Inhabited (RdN w) := ⟨⟨⟨0, none, 0, 0, []⟩, rfl, by decide, .inl rfl⟩⟩
/-- Is an entry later, and meets? -/
def laterB (start : Int) (ms : List (List UInt8)) (x : HEl) : Bool := decide (start < x.t) && meetB x.ks ms
set_option maxRecDepth 100000 in
theorem pred_firstN (start : Int) (B1 B2 : Nat) (a : Option Addr) (n c : Nat) (ms : List (List UInt8)) (hn : n = ms.length) (hl : n ≤ 500) (w : World) (hat : ElsAt stE w a ms) (h1 : Blk w B1 #[.int .i64 start] 3) (h2 : Blk w B2 #[.slice a n c] 60) :
    PredBelow Try.prog 45 #[.pointer (some ⟨B1, 0, none⟩), .pointer (some ⟨B2, 0, none⟩)] (fun x : RdN w => .agg (encL x.1).toArray) (fun x => laterB start ms x.1) w := fun W x hb => by
  have k := Kept.of_below hb
  obtain ⟨⟨et, ea, en, ec, eks⟩, x1, x2, x3⟩ := x
  have HB := Lib.hid hb
  have HM := Lib.hid (fun w' (kk : Same w w') => cf_meet ea a en n ec c eks ms x1 (by dsimp only at x1 x2; omega) hn (by omega) w' (x3.same kk) (hat.same kk))
  have b1 := Lib.hid (h1.kept k (fun h => h))
  have b2 := Lib.hid (h2.kept k (fun h => h))
  have K := Lib.hid k
  show Calls Try.prog 45 #[.agg #[.int .i64 et, .slice ea en ec], .pointer (some ⟨B1, 0, none⟩), .pointer (some ⟨B2, 0, none⟩)] W (fun e w' => e = .returned (.bool (decide (start < et) && meetB eks ms)) ∧ RowKit.Below w.heap.size w w')
  clear h1 h2 k hb x1 x2 x3 hat hn
  have e0 : IntKind.i64.wrap 0 = 0 := rfl
  go_enter Try.func45, Try.ntmps45
  go_upto_region 1 with fail
  refine cutWl (fun wn => Fr wn [(W.heap.size, #[.int .i64 et, .slice ea en ec], 92), (B1, #[.int .i64 start], 3), (B2, #[.slice a n c], 60)] ∧ Same W wn) ⟨⟨Blk.new _ _ _, b1.out.alloc _, b2.out.alloc _, trivial⟩, (Kept.refl _ _).alloc _⟩ ?_
  rintro w4 ⟨hf4, k4⟩
  have F4 := Lib.hid hf4
  have K4 := Lib.hid (K.out.trans k4)
  obtain ⟨p2, f2, p1, f1, p0, f0, -⟩ := F4.out.rules
  have z2 := F4.out.1.lt
  have z1 := F4.out.2.1.lt
  have z0 := F4.out.2.2.1.lt
  clear hf4 k4 b1 b2 HB
  by_cases q : start < et
  · have g1 : decide (start < et) = true := decide_eq_true q
    go_wp2_with fail
    with_reducible refine (HM.out _ K4.out).mono ?_
    rintro e w5 ⟨rfl, k5⟩
    have K5 := Lib.hid (K4.out.trans k5)
    clear k5
    go_wp2_with fail
    go_ret
    exact ⟨by rw [g1]; rfl, K5.out.below (Nat.le_refl _) (fun _ _ h => h)⟩
  · have g1 : decide (start < et) = false := decide_eq_false q
    go_wp2_with fail
    go_ret
    exact ⟨rfl, K4.out.below (Nat.le_refl _) (fun _ _ h => h)⟩
theorem entInfo : (Try.prog.info? 92).map (fun i => (i.zero, i.size, i.bytes)) = some (some (.agg #[.int .i64 0, .slice none 0 0]), 2, 32) := by kernel_rfl
set_option maxRecDepth 100000 in
theorem ixn_empty (a : Option Addr) (c : Nat) (fv : Value) (w : World) : Calls Try.prog 44 #[.slice a 0 c, fv] w fun e w' => e = .returned (.int .i64 (-1)) ∧ w' = w := by
  go_enter Try.func44, Try.ntmps44
  go_wp2_with fail
  go_loopw [8] (fun t wr => t = .int .i64 0 ∧ wr = w) (fun _ _ => 0)
  case atStart => exact ⟨rfl, rfl⟩
  case round =>
    obtain ⟨rfl, rfl⟩ := hrel
    go_wp2_with fail
    go_ret
    exact ⟨rfl, rfl⟩
/-- What First tells: whether a later entry meets. -/
def FirPost (w : World) (b : Bool) (e : Ending) (w' : World) : Prop := (∃ z : Int, e = .returned (.tuple #[.int .i64 z, .bool b])) ∧ Same w w'
theorem rdN_list {w : World} : ∀ (L : List HEl), (∀ x ∈ L, x.n = x.ks.length ∧ x.ks.length ≤ 500 ∧ ElsAt stE w x.a x.ks) → ∃ zs : List (RdN w), zs.map (·.1) = L
  | [], _ => ⟨[], rfl⟩
  | x :: L, h => by
    obtain ⟨zs, hz⟩ := rdN_list L (fun y hy => h y (List.mem_cons_of_mem _ hy))
    exact ⟨⟨x, h x List.mem_cons_self⟩ :: zs, by simp [hz]⟩
set_option maxRecDepth 100000 in
set_option maxHeartbeats 800000 in
theorem cf_first (v : Value) (L : List HEl) (base : Nat) (hL : L.length ≤ 1000) (w : World) (ho : OwnE lgE w base 92 v L) (hks : ∀ x ∈ L, KeysAt w base x) (start : Int) (a : Option Addr) (n c : Nat) (ms : List (List UInt8)) (hn : n = ms.length) (hl : n ≤ 500) (hat : ElsAt stE w a ms) :
    Calls Try.prog 35 #[v, .int .i64 start, .slice a n c] w (FirPost w (L.any (laterB start ms))) := by
  obtain ⟨la, ln, lc, rfl, hln, hlp, hla⟩ := ho.rd2
  have HLN := hln; have HLA := hla
  obtain ⟨zs, hzs⟩ := rdN_list L (fun x hx => ⟨(hks x hx).read.1, (hks x hx).2, (hks x hx).read.2⟩)
  have hzl : zs.length = L.length := by rw [← hzs, List.length_map]
  have hzg : ∀ j (hj : j < L.length), (zs[j]!).1 = L[j] := fun j hj => by
    rw [getElem!_pos zs j (by rw [hzl]; exact hj)]
    simp [← hzs]
  have hany : zs.any (fun x => laterB start ms x.1) = L.any (laterB start ms) := by
    rw [← hzs, List.any_map]
    rfl
  have IC := Lib.hid (show (Lib.idxBy (fun _ (y : RdN w) => laterB start ms y.1) zs default = -1 ∧ L.any (laterB start ms) = false) ∨ ∃ (k : Nat) (_ : k < L.length), Lib.idxBy (fun _ (y : RdN w) => laterB start ms y.1) zs default = (k : Int) ∧ L.any (laterB start ms) = true from by
    have := idx_cases (fun x : RdN w => laterB start ms x.1) zs
    rw [hany, hzl] at this
    exact this)
  have IX := Lib.hid (show ∀ (W : World) (B1 B2 : Nat), Same w W → Blk W B1 #[.int .i64 start] 3 → Blk W B2 #[.slice a n c] 60 → Calls Try.prog 44 #[.slice la ln lc, .func (.func 45) #[] #[.pointer (some ⟨B1, 0, none⟩), .pointer (some ⟨B2, 0, none⟩)]] W fun e w' => e = .returned (.int .i64 (Lib.idxBy (fun _ (y : RdN w) => laterB start ms y.1) zs default)) ∧ Same W w' from by
    intro W B1 B2 k h1 h2
    have hln' := hln.out
    by_cases h0 : L = []
    · subst h0
      simp at hln'
      subst hln'
      have hz0 : zs = [] := List.eq_nil_of_length_eq_zero hzl
      rw [hz0]
      exact (ixn_empty la lc _ W).mono (fun e w' ⟨q1, q2⟩ => ⟨q1, q2 ▸ Kept.refl _ _⟩)
    · obtain ⟨b, off, rfl, hb⟩ := hla.out.there h0
      let emb : RdN w → RdN W := fun x => ⟨x.1, x.2.1, x.2.2.1, x.2.2.2.same k⟩
      have hcon := AnyQ.slices_IndexFunc Try.ixnA 2 Try.isAgg92 Try.sizeOf92 (fun x : RdN w => encL x.1) (fun _ => rfl) (fun x => laterB start ms x.1) 45 #[.pointer (some ⟨B1, 0, none⟩), .pointer (some ⟨B2, 0, none⟩)] (enters_of Try.func45 (by kernel_rfl) rfl) b off ln lc zs W (fun W' x hb' => pred_firstN start B1 B2 a n c ms hn hl W (hat.same k) h1 h2 W' (emb x) hb') (by omega) (by omega) (Nat.lt_of_lt_of_le hb k.size) (fun j hj i v hi => by
        rw [hzl] at hj
        have hx : L[j]? = some (zs[j]!).1 := by rw [hzg j hj, List.getElem?_eq_getElem hj]
        have := (hla.out.same k).get hx i hi
        rw [Nat.add_assoc]; exact this)
      change Calls Try.prog 44 _ _ _ at hcon
      rw [List.take_of_length_le (by omega)] at hcon
      exact hcon.mono (fun e w' ⟨q1, q2⟩ => ⟨q1, Kept.of_below q2⟩))
  generalize Lib.idxBy (fun _ (y : RdN w) => laterB start ms y.1) zs default = ix at *
  obtain ⟨r, hr⟩ : ∃ r, L.any (laterB start ms) = r := ⟨_, rfl⟩
  rw [hr] at IC ⊢
  clear hzg hany hzl hzs hat hn ho hks hr hla hln hlp
  clear zs
  go_enter Try.func35, Try.ntmps35
  go_upto_region 1 with fail
  obtain ⟨y, hy⟩ : ∃ y, w.heap.size = y := ⟨_, rfl⟩
  rw [hy]
  refine cutWl (fun wn => Fr wn [(y + 1, #[.slice a n c], 60), (y, #[.int .i64 start], 3)] ∧ Same w wn) ⟨⟨Blk.new' _ _ _ (by simp [hy]), (Blk.new' _ _ _ hy.symm).alloc _, trivial⟩, (((Kept.refl _ _).alloc _).alloc _)⟩ ?_
  rintro w4 ⟨hf4, k4⟩
  have K4 := Lib.hid k4
  have B1 := Lib.hid hf4.1
  have B0 := Lib.hid hf4.2.1
  clear hf4 k4 hy
  go_wp2_with fail
  with_reducible refine (IX.out w4 y (y + 1) K4.out B0.out B1.out).mono ?_
  rintro e w5 ⟨rfl, k5⟩
  have K5 := Lib.hid (K4.out.trans k5)
  clear k5 K4 IX B1 B0
  rcases IC.out with ⟨e1, e2⟩ | ⟨k, hk, e1, e2⟩
  · subst e1 e2
    clear IC
    go_wp2_with fail
    (try simp only [Exit.inBlock, Exit.then])
    refine bodyPost_ret (results_tmp2 rfl _ _ _) rfl ?_
    exact ⟨⟨0, rfl⟩, K5.out⟩
  · subst e1 e2
    clear IC
    have hx : L[k]? = some L[k] := List.getElem?_eq_getElem hk
    obtain ⟨b, off, rfl, hbl⟩ := HLA.out.there (fun e => by rw [e] at hk; simp at hk)
    have c0 := (HLA.out.same K5.out).get hx 0 (u := .int .i64 L[k].t) rfl
    rw [show k * lgE.n + 0 = k * 2 from rfl] at c0
    generalize L[k].t = et at c0
    have g1 : (k : Int) < (ln : Int) := by have := HLN.out; omega
    have g0 : (0 : Int) ≤ (k : Int) := by omega
    have g2 : ¬ (k : Int) < 0 := by omega
    clear hx
    go_wp2_with fail
    (try simp only [Exit.inBlock, Exit.then])
    refine bodyPost_ret (results_tmp2 rfl _ _ _) rfl ?_
    exact ⟨⟨et, rfl⟩, K5.out⟩
end Go.Proofs.Ytaeiajodbpgbbaa
