/- A book behind an event: the walk. -/
import Derived.Test.YtaeiajodbpgbbaaBk7
import Derived.Lib.MinMax
namespace Go.Proofs.Ytaeiajodbpgbbaa
open Go.RowKit Go.Sort Go.Shelf

section
variable {P : Program} {md : Region.Mode} {ops : Array Oper} {Q : Exit → Act → World → Prop} {S : World → Prop} {s : Nat}
/-- One alone comes up, behind s. -/
theorem wpT_oneE {i : Nat} {o : Oper} {f : Nat} {l : Array Bool} {a : Act} {w : World} (his : (i == s) = false) (hl : l.getD s false = true) (ho : ops[i]? = some o) (hr : Region.ready md ops l = [i]) (hD : DownL md ops l)
    (h : ∀ K' : Act → World → Prop, Shut (∀ a w, (DownL md ops (l.setIfInBounds i true) → wpT P md ops Q S s f (l.setIfInBounds i true) a w) → K' a w) → if Region.wanted o (yielded ops a.tmps) = true then Oper.wp P o a w K' Q else K' (a.put o.dst undef) w) :
    wpT P md ops Q S s (f + 1) l a w := by
  refine ⟨fun q => (by rw [q] at hr; cases hr), fun j hj => ?_⟩
  have hji : j = i := by rw [hr] at hj; simpa using hj
  subst hji
  exact wpOp_step ho (fun K' hK => h K' (fun a w hW => hK a w ⟨.inr (by rw [getD_set_ne false (by simpa using his)]; exact hl), hW (hD.next hj)⟩))
/-- One of two comes up; S holds behind it. -/
theorem wpT_two {i j : Nat} {oi oj : Oper} {f : Nat} {l : Array Bool} {a : Act} {w : World} (hoi : ops[i]? = some oi) (hoj : ops[j]? = some oj) (hr : Region.ready md ops l = [i, j]) (hD : DownL md ops l)
    (h1 : ∀ K' : Act → World → Prop, Shut (∀ a w, S w → (S w → DownL md ops (l.setIfInBounds i true) → wpT P md ops Q S s f (l.setIfInBounds i true) a w) → K' a w) → if Region.wanted oi (yielded ops a.tmps) = true then Oper.wp P oi a w K' Q else K' (a.put oi.dst undef) w)
    (h2 : ∀ K' : Act → World → Prop, Shut (∀ a w, S w → (S w → DownL md ops (l.setIfInBounds j true) → wpT P md ops Q S s f (l.setIfInBounds j true) a w) → K' a w) → if Region.wanted oj (yielded ops a.tmps) = true then Oper.wp P oj a w K' Q else K' (a.put oj.dst undef) w) :
    wpT P md ops Q S s (f + 1) l a w := by
  refine ⟨fun q => (by rw [q] at hr; cases hr), fun m hm => ?_⟩
  have hmi : m = i ∨ m = j := by rw [hr] at hm; simpa using hm
  rcases hmi with rfl | rfl
  · exact wpOp_step hoi (fun K' hK => h1 K' (fun a w hS hW => hK a w ⟨.inl hS, hW hS (hD.next hm)⟩))
  · exact wpOp_step hoj (fun K' hK => h2 K' (fun a w hS hW => hK a w ⟨.inl hS, hW hS (hD.next hm)⟩))
end
theorem note0 {T : HTx} {e : HEv} (h : e.k = 0) : T.note e = { T with start := e.t, live := true } := by unfold HTx.note; rw [if_pos h]
theorem note2 {T : HTx} {e : HEv} (h : e.k = 2) : T.note e = { T with keys := addK T.keys e.key, wrote := fun k => if k = e.key then some (e.val, e.is) else T.wrote k } := by unfold HTx.note; rw [if_neg (by omega), if_pos h]
theorem note345 {T : HTx} {e : HEv} (h : e.k = 3 ∨ e.k = 4 ∨ e.k = 5) : T.note e = { T with live := false } := by unfold HTx.note; rw [if_neg (by omega), if_neg (by omega), if_pos h]
theorem noteE {T : HTx} {e : HEv} (h0 : e.k ≠ 0) (h2 : e.k ≠ 2) (h : ¬ (e.k = 3 ∨ e.k = 4 ∨ e.k = 5)) : T.note e = T := by unfold HTx.note; rw [if_neg h0, if_neg h2, if_neg h]
theorem OwnE.plain {α : Type} {E : Enc α} {w : World} {base : Nat} {e : TypeId} {a : Option Addr} {n c : Nat} {xs : List α} (h : OwnE E w base e (.slice a n c) xs) : PlainA a c := by
  obtain ⟨a', l', c', q, -, h2, -⟩ := h.rd2
  cases q
  exact h2.out
/-- What note leaves. -/
def NotePo (w : World) (base B M N : Nat) (b : HBk) (x : HEv) (e : Ending) (w' : World) : Prop := e = .returned (.tuple #[]) ∧ (∃ pb' pm', BkIn w' base B M pb' pm' (b.note x) (N + 1)) ∧ Kept (fun j => base ≤ j) w w'
/-- Ahead of the switch. -/
structure NSt (w w4 w8 : World) (base B M N p m : Nat) (pb pm : Int → Nat) (b : HBk) (x : HEv) (la ba ka : Option Addr) (ll lc bl bc kn kc : Nat) (L : List HEl) : Prop where
  hb : BkIn w4 base B M pb pm b N
  ho : OfAt w4 b pb pm x.x p m
  k : Kept (fun g => g = B ∨ g = M ∨ g = p ∨ g = m) w4 w8
  kw : Same w w4
  bB : Blk w8 B #[.int .i64 (max b.top x.t), .map (some M), .slice la ll lc, .slice ba bl bc] 73
  bp : Blk w8 p #[.int .i64 (b.of x.x).start, .bool (b.of x.x).live, .slice ka kn kc, .map (some m)] 81
  ks : OwnE stE w8 base 9 (.slice ka kn kc) (b.of x.x).keys
  wr : MapS w8 m (fun k => ((b.of x.x).wrote k).map encW)
  mp : MapK (.int .i64) (Value.int .i64) w8 M (fun j => if j = x.x then some (.pointer (some ⟨p, 0, none⟩)) else (b.txns j).map fun _ => .pointer (some ⟨pb j, 0, none⟩))
  fp : base ≤ p
  fm : base ≤ m
  g2 : OwnE lgE w4 base 92 (.slice la ll lc) L
  g3 : L.map (fun x => (x.t, x.ks)) = b.log
  g4 : ∀ x ∈ L, OwnE stE w4 base 9 (.slice x.a x.n x.c) x.ks ∧ x.ks.length ≤ N
  g5 : OwnE inE w4 base 3 (.slice ba bl bc) b.by_
section
variable {w w4 w8 w' : World} {base B M N p m : Nat} {pb pm : Int → Nat} {b : HBk} {x : HEv} {la ba ka : Option Addr} {ll lc bl bc kn kc : Nat} {L : List HEl}
theorem NSt.fin (h : NSt w w4 w8 base B M N p m pb pm b x la ba ka ll lc bl bc kn kc L) (k' : Kept (fun g => g = p ∨ g = m) w8 w') (htx : TxIn w' base p m ((b.of x.x).note x)) (hk : ¬ (x.k = 3 ∧ (b.of x.x).keys ≠ [])) : NotePo w base B M N b x (.returned (.tuple #[])) w' := by
  have neB : ¬ (B = p ∨ B = m) := by
    rintro (q | q)
    · have h1 := h.bB; rw [q] at h1; exact absurd (h1.ty h.bp) (by decide)
    · have h1 := h.bB; rw [q] at h1; exact h.wr.ne h1 rfl
  have neM : ¬ (M = p ∨ M = m) := by
    rintro (q | q)
    · have h1 := h.bp; rw [← q] at h1; exact h.mp.ne h1 rfl
    · exact h.hb.neMm h.ho q.symm
  have K := h.k.trans (k'.mono (fun g _ q => (.inr (.inr q) : g = B ∨ g = M ∨ g = p ∨ g = m)))
  refine ⟨rfl, ?_, ?_⟩
  · refine h.hb.put h.ho K (fun g q => .inl q) ?_ (h.mp.kept k' neM) htx (h.hb.neMm h.ho)
    have hbox := h.hb.slices h.ho K (fun g q => q) h.g2 h.g3 h.g4 h.g5 (h.bB.kept k' neB)
    unfold HBk.note
    dsimp only
    rw [if_neg hk, if_neg hk]
    exact hbox
  · refine (h.kw.mono (fun _ _ q => q.elim)).trans (K.mono (fun g _ q => ?_))
    rcases q with rfl | rfl | rfl | rfl
    · exact h.hb.fB
    · exact h.hb.fM
    · exact h.fp
    · exact h.fm
/-- What is written behind the log. -/
structure Fin3 (w4 w8 wX wY : World) (base p m : Nat) (b : HBk) (x : HEv) (ba ka : Option Addr) (bl bc kn kc : Nat) (L : List HEl) (v v' : Value) : Prop where
  k1 : Kept (fun g => g = p) w8 wX
  ho : ∃ x' : HEl, OwnE lgE wX base 92 v (L ++ [x']) ∧ x'.t = x.t ∧ x'.ks = (b.of x.x).keys ∧ OwnE stE wX base 9 (.slice x'.a x'.n x'.c) (b.of x.x).keys
  bp : Blk wX p #[.int .i64 (b.of x.x).start, .bool false, .slice ka kn kc, .map (some m)] 81
  gr : wX.grownBy wY (Value.slice ba bl bc).ownBlock
  hby : OwnE inE wY base 3 v' (b.by_ ++ [x.x])
theorem NSt.fin3 {v v' : Value} {wX wY : World} (h : NSt w w4 w8 base B M N p m pb pm b x la ba ka ll lc bl bc kn kc L) (f : Fin3 w4 w8 wX wY base p m b x ba ka bl bc kn kc L v v') (hk : x.k = 3) (hks : (b.of x.x).keys ≠ []) {a1 a2 : Option Addr} {n1 c1 n2 c2 : Nat} (hv : v = .slice a1 n1 c1) (hv' : v' = .slice a2 n2 c2) :
    NotePo w base B M N b x (.returned (.tuple #[])) ((wY.setCell ⟨B, 2, none⟩ v).setCell ⟨B, 3, none⟩ v') := by
  obtain ⟨x', ho, e1, e2, hx⟩ := f.ho
  subst hv hv'
  have hpt : ¬ B = p := fun q => by have h1 := h.bB; rw [q] at h1; exact absurd (h1.ty h.bp) (by decide)
  have hpm : ¬ m = p := fun q => h.wr.ne h.bp q.symm
  have hpM : ¬ M = p := fun q => h.mp.ne h.bp q.symm
  have KX : Kept (fun g => g = B ∨ g = M ∨ g = p ∨ g = m) w4 wX := h.k.trans (f.k1.mono (fun _ _ q => .inr (.inr (.inl q))))
  have KY : Kept (fun g => ∃ cur, Blk w4 g cur 3) wX wY := Kept.grown (Kept.refl _ wX) f.gr (fun g hg _ => h.g5.blk hg)
  have hX : ∀ g, (∃ cur, Blk w4 g cur 3) → ∃ cur, Blk wX g cur 3 := fun g q => by
    obtain ⟨cur, q⟩ := q
    refine ⟨cur, q.kept KX (fun z => ?_)⟩
    rcases h.hb.foot h.ho q z with z | z <;> exact absurd z (by decide)
  have bX := h.bB.kept f.k1 hpt
  have mX := h.wr.kept f.k1 hpm
  have MX := h.mp.kept f.k1 hpM
  have no : ∀ (ty : TypeId), ty ≠ 3 → ∀ g cur, (∃ cur, Blk w4 g cur 3) → ¬ Blk wX g cur ty := fun ty n g cur q hb => by
    obtain ⟨cur', q⟩ := hX g q
    exact n (hb.ty q)
  have bY : Blk wY B _ _ := bX.kept KY (fun q => by obtain ⟨cur, q⟩ := hX B q; exact absurd (bX.ty q) (by decide))
  have pY : Blk wY p _ _ := f.bp.kept KY (fun q => by obtain ⟨cur, q⟩ := hX p q; exact absurd (f.bp.ty q) (by decide))
  have mY := mX.kept KY (fun q => by obtain ⟨cur, q⟩ := hX m q; exact mX.ne q rfl)
  have MY := MX.kept KY (fun q => by obtain ⟨cur, q⟩ := hX M q; exact MX.ne q rfl)
  have lY := ho.keptT KY (no _ (by decide))
  have xY := hx.keptT KY (no _ (by decide))
  have KB : Kept (fun g => g = B) wY ((wY.setCell ⟨B, 2, none⟩ (.slice a1 n1 c1)).setCell ⟨B, 3, none⟩ (.slice a2 n2 c2)) := ((Kept.refl _ _).setG 2 _).setG 3 _
  have nB : ∀ (ty : TypeId), ty ≠ 73 → ∀ g cur, g = B → ¬ Blk wY g cur ty := fun ty n g cur q hb => by
    subst q
    exact n (hb.ty bY)
  have K8 : Kept (fun g => (g = B ∨ g = M ∨ g = p ∨ g = m) ∨ ∃ cur, Blk w4 g cur 3) w4 ((wY.setCell ⟨B, 2, none⟩ (.slice a1 n1 c1)).setCell ⟨B, 3, none⟩ (.slice a2 n2 c2)) :=
    ((KX.mono (fun _ _ q => .inl q)).trans (KY.mono (fun _ _ q => .inr q))).trans (KB.mono (fun _ _ q => .inl (.inl q)))
  have kY := (h.ks.keptT f.k1 (fun g cur q hb => by subst q; exact absurd (hb.ty h.bp) (by decide))).keptT KY (no _ (by decide))
  have keyY : ∀ y ∈ L, OwnE stE wY base 9 (.slice y.a y.n y.c) y.ks := fun y hy => by
    refine ((h.g4 y hy).1.keptT KX (fun g cur q hb => ?_)).keptT KY (no _ (by decide))
    rcases h.hb.foot h.ho hb q with z | z <;> exact absurd z (by decide)
  refine ⟨rfl, ?_, ?_⟩
  · refine h.hb.put h.ho K8 (fun g q => q) ?_ (MY.kept KB (fun q => by subst q; exact MY.ne bY rfl)) ?_ (h.hb.neMm h.ho)
    · unfold HBk.note
      dsimp only
      rw [if_pos ⟨hk, hks⟩, if_pos ⟨hk, hks⟩]
      refine ⟨a1, n1, c1, a2, n2, c2, L ++ [x'], (bY.set 2 _).set 3 _, lY.keptT KB (nB _ (by decide)), ?_, ?_, f.hby.keptT KB (nB _ (by decide))⟩
      · rw [List.map_append, h.g3]
        simp [e1, e2]
      · intro y hy
        rcases List.mem_append.1 hy with hy | hy
        · exact ⟨(keyY y hy).keptT KB (nB _ (by decide)), by have := (h.g4 y hy).2; omega⟩
        · obtain rfl : y = x' := by simpa using hy
          rw [e2]
          exact ⟨xY.keptT KB (nB _ (by decide)), by have := TxIn.lenN h.hb x.x; omega⟩
    · rw [note345 (.inl hk)]
      exact ⟨ka, kn, kc, pY.kept KB (fun q => hpt q.symm), kY.keptT KB (nB _ (by decide)), mY.kept KB (fun q => by subst q; exact mY.ne bY rfl), h.fp, h.fm⟩
  · have KY2 : Kept (fun g => (Value.slice ba bl bc).ownBlock = some g) wX wY := Kept.grown (Kept.refl _ wX) f.gr (fun g hg _ => hg)
    refine (h.kw.mono (fun _ _ q => q.elim)).trans (((KX.mono (fun g _ q => ?_)).trans (KY2.mono (fun g _ q => ?_))).trans (KB.mono (fun g _ q => ?_)))
    · rcases q with rfl | rfl | rfl | rfl
      · exact h.hb.fB
      · exact h.hb.fM
      · exact h.fp
      · exact h.fm
    · exact (h.g5.far g q).1
    · subst q; exact h.hb.fB
end
section
attribute [local go_sem ↓] exec_app semAt_app
attribute [local go_sem] isApp_lit appA appX
set_option maxRecDepth 100000 in
set_option maxHeartbeats 4000000 in
theorem bk_note {w : World} {base B M N : Nat} {pb pm : Int → Nat} {b : HBk} (hB : BkIn w base B M pb pm b N) (hN : N ≤ 100) (hbase : base ≤ w.heap.size) (x : HEv) :
    Calls Try.prog 26 #[.pointer (some ⟨B, 0, none⟩), .agg #[.int .u8 (x.k : Nat), .int .i64 x.x, .int .i64 x.t, encStr x.key, encStr x.val, .bool x.is]] w (NotePo w base B M N b x) := by
  obtain ⟨la, ll, lc, ba, bl, bc, L, h1, h2, h3, h4, h5⟩ := hB.box
  have HK := Lib.hid hB; have HX := Lib.hid hbase
  have GB := Lib.hid h1; have GL := Lib.hid h2; have GE := Lib.hid h3; have GK := Lib.hid h4; have GY := Lib.hid h5
  obtain ⟨k, id, t, key, val, is⟩ := x
  dsimp only
  clear h1 h2 h3 h4 h5 hB hbase
  obtain ⟨NP, hNP⟩ : ∃ NP, NotePo w base B M N b ⟨k, id, t, key, val, is⟩ = NP := ⟨_, rfl⟩
  rw [hNP]
  have HNP := Lib.hid hNP
  clear hNP
  go_enter Try.func26, Try.ntmps26
  go_upto_region 1 with fail
  obtain ⟨y, hy⟩ : ∃ y, w.heap.size = y := ⟨_, rfl⟩
  rw [hy]
  refine cutWl (fun wn => Fr wn [(y, #[.int .u8 (k : Nat), .int .i64 id, .int .i64 t, encStr key, encStr val, .bool is], 42)] ∧ Same w wn) ⟨⟨Blk.new' _ _ _ hy.symm, trivial⟩, (Kept.refl _ _).alloc _⟩ ?_
  rintro w4 ⟨hf4, k4⟩
  have F4 := Lib.hid hf4
  have K4 := Lib.hid k4
  have hsz := k4.size
  have p0 := cell_blk F4.out.1
  have z0 := F4.out.1.lt
  clear hf4 k4 hy
  obtain ⟨top, htop⟩ : ∃ top, b.top = top := ⟨_, rfl⟩
  rw [htop] at GB
  have HTOP := Lib.hid htop
  clear htop
  have OF := Lib.hid (bk_of (HK.out.same K4.out) (Nat.le_trans HX.out hsz) id)
  go_wp2_with fail
  with_reducible refine OF.out.mono ?_
  rintro e w6 ⟨⟨p, m, rfl, htx, hof⟩, k6⟩
  obtain ⟨ka, kn, kc, t1, t2, t3, t4, t5⟩ := htx
  have T1 := Lib.hid t1; have T2 := Lib.hid t2; have T3 := Lib.hid t3; have T4 := Lib.hid t4; have T5 := Lib.hid t5
  have HOF := Lib.hid (show OfAt w4 b pb pm id p m from hof)
  have F6 := Lib.hid (F4.out.same k6)
  have K46 := Lib.hid k6
  have K6 := Lib.hid (K4.out.trans k6)
  have G6 := Lib.hid (GB.out.kept K6.out (fun h => h))
  have M6 := Lib.hid (HK.out.map.same K6.out)
  clear F4 p0 z0 OF t1 t2 t3 t4 t5 hsz k6 hof
  obtain ⟨w7, hst, hm7, k7, hz7⟩ := MapK.store (P := Try.prog) (M6.out.same ((Kept.refl _ _).drew)) Try.underlying70 Try.underlying3 id (.pointer (some ⟨p, 0, none⟩))
  have K67 := Lib.hid (show Kept (fun j => j = M) w6 w7 from ((Kept.refl _ _).drew).trans k7)
  have QX := Lib.hid (show ∀ w', Same w6 w' → (∀ i, w'.cell? ⟨B, i, none⟩ = (#[.int .i64 top, .map (some M), .slice la ll lc, .slice ba bl bc] : Array Value)[i]?) ∧ (∀ i, w'.cell? ⟨y, i, none⟩ = (#[.int .u8 (k : Nat), .int .i64 id, .int .i64 t, encStr key, encStr val, .bool is] : Array Value)[i]?) ∧ True ∧ True from fun w' k => ⟨cell_blk (G6.out.kept k (fun h => h)), cell_blk (F6.out.same k).1, trivial, trivial⟩)
  clear hz7 k7
  go_wp2_with fail
  refine wp_region_T (S := fun w' => Same w6 w') 7 (by kernel_rfl) (Kept.refl _ _).drew (fun hHeld hDn => ?_)
  refine wpT_take (i := 0) (t := 9) (v := ?_) rfl rfl rfl (by kernel_rfl) (by kernel_rfl) (by kernel_rfl) (by kernel_rfl) (fun _ _ _ h => h) (Or.inl ⟨by rfl, ?_⟩) hHeld hDn (fun hDn' => ?_)
  rotate_left
  · (intro w hSw; have hQX := QX.out w hSw; obtain ⟨s1, s2, s3, s4⟩ := hQX; go_simp; (try with_reducible rfl))
  clear hDn; have hDn := hDn'; clear hDn'
  simp only [Act.put, List.setIfInBounds_toArray, List.set_cons_zero, List.set_cons_succ]
  refine wpT_take (i := 1) (t := 10) (v := ?_) rfl rfl rfl (by kernel_rfl) (by kernel_rfl) (by kernel_rfl) (by kernel_rfl) (fun _ _ _ h => h) (Or.inl ⟨by rfl, ?_⟩) hHeld hDn (fun hDn' => ?_)
  rotate_left
  · (intro w hSw; have hQX := QX.out w hSw; obtain ⟨s1, s2, s3, s4⟩ := hQX; go_simp; (try with_reducible rfl))
  clear hDn; have hDn := hDn'; clear hDn'
  simp only [Act.put, List.setIfInBounds_toArray, List.set_cons_zero, List.set_cons_succ]
  refine wpT_take (i := 2) (t := 11) (v := ?_) rfl rfl rfl (by kernel_rfl) (by kernel_rfl) (by kernel_rfl) (by kernel_rfl) (fun _ _ _ h => h) (Or.inl ⟨by rfl, ?_⟩) hHeld hDn (fun hDn' => ?_)
  rotate_left
  · (intro w hSw; have hQX := QX.out w hSw; obtain ⟨s1, s2, s3, s4⟩ := hQX; go_simp; (try with_reducible rfl))
  clear hDn; have hDn := hDn'; clear hDn'
  simp only [Act.put, List.setIfInBounds_toArray, List.set_cons_zero, List.set_cons_succ]
  refine wpT_take (i := 3) (t := 12) (v := ?_) rfl rfl rfl (by kernel_rfl) (by kernel_rfl) (by kernel_rfl) (by kernel_rfl) (fun _ _ _ h => h) (Or.inl ⟨by rfl, ?_⟩) hHeld hDn (fun hDn' => ?_)
  rotate_left
  · (intro w hSw; have hQX := QX.out w hSw; obtain ⟨s1, s2, s3, s4⟩ := hQX; go_simp; (try with_reducible rfl))
  clear hDn; have hDn := hDn'; clear hDn'
  simp only [Act.put, List.setIfInBounds_toArray, List.set_cons_zero, List.set_cons_succ]
  refine wpT_take (i := 4) (t := 13) (v := ?_) rfl rfl rfl (by kernel_rfl) (by kernel_rfl) (by kernel_rfl) (by kernel_rfl) (fun _ _ _ h => h) (Or.inl ⟨by rfl, ?_⟩) hHeld hDn (fun hDn' => ?_)
  rotate_left
  · (intro w hSw; have hQX := QX.out w hSw; obtain ⟨s1, s2, s3, s4⟩ := hQX; go_simp; (try with_reducible rfl))
  clear hDn; have hDn := hDn'; clear hDn'
  simp only [Act.put, List.setIfInBounds_toArray, List.set_cons_zero, List.set_cons_succ]
  refine wpT_take (i := 5) (t := 14) (v := ?_) rfl rfl rfl (by kernel_rfl) (by kernel_rfl) (by kernel_rfl) (by kernel_rfl) (fun _ _ _ h => h) (Or.inl ⟨by rfl, ?_⟩) hHeld hDn (fun hDn' => ?_)
  rotate_left
  · (intro w hSw; have hQX := QX.out w hSw; obtain ⟨s1, s2, s3, s4⟩ := hQX; go_simp; (try with_reducible rfl))
  clear hDn; have hDn := hDn'; clear hDn'
  simp only [Act.put, List.setIfInBounds_toArray, List.set_cons_zero, List.set_cons_succ]
  refine wpT_take (i := 6) (t := 15) (v := ?_) rfl rfl rfl (by kernel_rfl) (by kernel_rfl) (by kernel_rfl) (by kernel_rfl) (fun _ _ _ h => h) (Or.inl ⟨by rfl, ?_⟩) hHeld hDn (fun hDn' => ?_)
  rotate_left
  · (intro w hSw; have hQX := QX.out w hSw; obtain ⟨s1, s2, s3, s4⟩ := hQX; go_simp; (try with_reducible rfl))
  clear hDn; have hDn := hDn'; clear hDn'
  simp only [Act.put, List.setIfInBounds_toArray, List.set_cons_zero, List.set_cons_succ]
  refine wpT_last rfl (by kernel_rfl) hDn (fun K hK => ?_)
  go_simp
  refine hK.out _ _ (fun hDn' => ?_)
  clear hK K hDn hHeld; have hDn := hDn'; clear hDn'
  refine wpT_done (by kernel_rfl) ?_ _
  clear QX hst hDn
  have M7 := Lib.hid hm7
  have G7 := Lib.hid (G6.out.kept K67.out (M6.out.ne G6.out))
  have F7 := Lib.hid (show Fr w7 [(y, #[.int .u8 (k : Nat), .int .i64 id, .int .i64 t, encStr key, encStr val, .bool is], 42)] from ⟨F6.out.1.kept K67.out (M6.out.ne F6.out.1), trivial⟩)
  have fB := fun i => Blk.free G7.out i
  have zB := G7.out.lt
  clear hm7
  have QX := Lib.hid (show ∀ w', Same w7 w' → (∀ i, w'.cell? ⟨B, i, none⟩ = (#[.int .i64 top, .map (some M), .slice la ll lc, .slice ba bl bc] : Array Value)[i]?) ∧ (∀ i, w'.cell? ⟨y, i, none⟩ = (#[.int .u8 (k : Nat), .int .i64 id, .int .i64 t, encStr key, encStr val, .bool is] : Array Value)[i]?) ∧ True ∧ True from fun w' k => ⟨cell_blk (G7.out.kept k (fun h => h)), cell_blk (F7.out.same k).1, trivial, trivial⟩)
  have q1 := cell_blk G7.out
  go_wp2_with fail
  refine wp_region_T (S := fun w' => Same w7 w') 10 (by kernel_rfl) (Kept.refl _ _).drew (fun hHeld hDn => ?_)
  refine wpT_take (i := 0) (t := 16) (v := ?_) rfl rfl rfl (by kernel_rfl) (by kernel_rfl) (by kernel_rfl) (by kernel_rfl) (fun _ _ _ h => h) (Or.inl ⟨by rfl, ?_⟩) hHeld hDn (fun hDn' => ?_)
  rotate_left
  · (intro w hSw; have hQX := QX.out w hSw; obtain ⟨s1, s2, s3, s4⟩ := hQX; go_simp; (try with_reducible rfl))
  clear hDn; have hDn := hDn'; clear hDn'
  simp only [Act.put, List.setIfInBounds_toArray, List.set_cons_zero, List.set_cons_succ]
  refine wpT_take (i := 1) (t := 17) (v := ?_) rfl rfl rfl (by kernel_rfl) (by kernel_rfl) (by kernel_rfl) (by kernel_rfl) (fun _ _ _ h => h) (Or.inl ⟨by rfl, ?_⟩) hHeld hDn (fun hDn' => ?_)
  rotate_left
  · (intro w hSw; have hQX := QX.out w hSw; obtain ⟨s1, s2, s3, s4⟩ := hQX; go_simp; (try with_reducible rfl))
  clear hDn; have hDn := hDn'; clear hDn'
  simp only [Act.put, List.setIfInBounds_toArray, List.set_cons_zero, List.set_cons_succ]
  refine wpT_take (i := 2) (t := 18) (v := ?_) rfl rfl rfl (by kernel_rfl) (by kernel_rfl) (by kernel_rfl) (by kernel_rfl) (fun _ _ _ h => h) (Or.inl ⟨by rfl, ?_⟩) hHeld hDn (fun hDn' => ?_)
  rotate_left
  · (intro w hSw; have hQX := QX.out w hSw; obtain ⟨s1, s2, s3, s4⟩ := hQX; go_simp; (try with_reducible rfl))
  clear hDn; have hDn := hDn'; clear hDn'
  simp only [Act.put, List.setIfInBounds_toArray, List.set_cons_zero, List.set_cons_succ]
  refine wpT_take (i := 3) (t := 19) (v := ?_) rfl rfl rfl (by kernel_rfl) (by kernel_rfl) (by kernel_rfl) (by kernel_rfl) (fun _ _ _ h => h) (Or.inl ⟨by rfl, ?_⟩) hHeld hDn (fun hDn' => ?_)
  rotate_left
  · (intro w hSw; have hQX := QX.out w hSw; obtain ⟨s1, s2, s3, s4⟩ := hQX; go_simp; (try with_reducible rfl))
  clear hDn; have hDn := hDn'; clear hDn'
  simp only [Act.put, List.setIfInBounds_toArray, List.set_cons_zero, List.set_cons_succ]
  refine wpT_take (i := 4) (t := 20) (v := ?_) rfl rfl rfl (by kernel_rfl) (by kernel_rfl) (by kernel_rfl) (by kernel_rfl) (fun _ _ _ h => h) (Or.inl ⟨by rfl, ?_⟩) hHeld hDn (fun hDn' => ?_)
  rotate_left
  · (intro w hSw; have hQX := QX.out w hSw; obtain ⟨s1, s2, s3, s4⟩ := hQX; go_simp; (try with_reducible rfl))
  clear hDn; have hDn := hDn'; clear hDn'
  simp only [Act.put, List.setIfInBounds_toArray, List.set_cons_zero, List.set_cons_succ]
  refine wpT_take (i := 5) (t := 21) (v := ?_) rfl rfl rfl (by kernel_rfl) (by kernel_rfl) (by kernel_rfl) (by kernel_rfl) (fun _ _ _ h => h) (Or.inl ⟨by rfl, ?_⟩) hHeld hDn (fun hDn' => ?_)
  rotate_left
  · (intro w hSw; have hQX := QX.out w hSw; obtain ⟨s1, s2, s3, s4⟩ := hQX; go_simp; (try with_reducible rfl))
  clear hDn; have hDn := hDn'; clear hDn'
  simp only [Act.put, List.setIfInBounds_toArray, List.set_cons_zero, List.set_cons_succ]
  refine wpT_take (i := 6) (t := 22) (v := ?_) rfl rfl rfl (by kernel_rfl) (by kernel_rfl) (by kernel_rfl) (by kernel_rfl) (fun _ _ _ h => h) (Or.inl ⟨by rfl, ?_⟩) hHeld hDn (fun hDn' => ?_)
  rotate_left
  · (intro w hSw; have hQX := QX.out w hSw; obtain ⟨s1, s2, s3, s4⟩ := hQX; go_simp; (try with_reducible rfl))
  clear hDn; have hDn := hDn'; clear hDn'
  simp only [Act.put, List.setIfInBounds_toArray, List.set_cons_zero, List.set_cons_succ]
  refine wpT_take (i := 7) (t := 23) (v := ?_) rfl rfl rfl (by kernel_rfl) (by kernel_rfl) (by kernel_rfl) (by kernel_rfl) (fun _ _ _ h => h) (Or.inl ⟨by rfl, ?_⟩) hHeld hDn (fun hDn' => ?_)
  rotate_left
  · (intro w hSw; have hQX := QX.out w hSw; obtain ⟨s1, s2, s3, s4⟩ := hQX; go_simp; (try with_reducible rfl))
  clear hDn; have hDn := hDn'; clear hDn'
  simp only [Act.put, List.setIfInBounds_toArray, List.set_cons_zero, List.set_cons_succ]
  refine wpT_take (i := 8) (t := 24) (v := ?_) rfl rfl rfl (by kernel_rfl) (by kernel_rfl) (by kernel_rfl) (by kernel_rfl) (fun _ _ _ h => h) (Or.inl ⟨by rfl, ?_⟩) hHeld hDn (fun hDn' => ?_)
  rotate_left
  · (intro w hSw; have hQX := QX.out w hSw; obtain ⟨s1, s2, s3, s4⟩ := hQX; go_simp; (try with_reducible rfl))
  clear hDn; have hDn := hDn'; clear hDn'
  simp only [Act.put, List.setIfInBounds_toArray, List.set_cons_zero, List.set_cons_succ]
  refine wpT_take (i := 9) (t := 25) (v := ?_) rfl rfl rfl (by kernel_rfl) (by kernel_rfl) (by kernel_rfl) (by kernel_rfl) (fun _ _ _ h => h) (Or.inl ⟨by rfl, ?_⟩) hHeld hDn (fun hDn' => ?_)
  rotate_left
  · (intro w hSw; have hQX := QX.out w hSw; obtain ⟨s1, s2, s3, s4⟩ := hQX; go_simp; (try with_reducible rfl))
  clear hDn; have hDn := hDn'; clear hDn'
  simp only [Act.put, List.setIfInBounds_toArray, List.set_cons_zero, List.set_cons_succ]
  refine wpT_last rfl (by kernel_rfl) hDn (fun K hK => ?_)
  go_simp
  refine hK.out _ _ (fun hDn' => ?_)
  clear hK K hDn hHeld; have hDn := hDn'; clear hDn'
  refine wpT_done (by kernel_rfl) ?_ _
  clear QX hDn
  refine cutE (fun wn => NSt w w4 wn base B M N p m pb pm b ⟨k, id, t, key, val, is⟩ la ba ka ll lc bl bc kn kc L ∧ Fr wn [(y, #[.int .u8 (k : Nat), .int .i64 id, .int .i64 t, encStr key, encStr val, .bool is], 42)]) ?_ ?_
  · have hyB : ¬ y = B := fun q => by subst q; exact absurd (Blk.ty F7.out.1 G7.out) (by decide : 42 ≠ 73)
    have hpB : ¬ p = B := fun q => by have h1 := T1.out; rw [q] at h1; exact absurd (h1.ty G6.out) (by decide)
    have K7n : Kept (fun g => g = B) w7 ((w7.setCell ⟨B, 0, none⟩ (.int .i64 (max top t))).drew) := ((Kept.refl _ _).setG 0 _).drew
    have K6n : Kept (fun g => g = M ∨ g = B) w6 ((w7.setCell ⟨B, 0, none⟩ (.int .i64 (max top t))).drew) := (K67.out.mono (fun _ _ q => .inl q)).trans (K7n.mono (fun _ _ q => .inr q))
    refine ⟨⟨HK.out.same K4.out, HOF.out, ?_, K4.out, ?_, ?_, ?_, ?_, ?_, T4.out, T5.out, GL.out.same K4.out, GE.out, fun x hx => ⟨(GK.out x hx).1.same K4.out, (GK.out x hx).2⟩, GY.out.same K4.out⟩, F7.out.1.kept K7n hyB, trivial⟩
    · exact (K46.out.mono (fun _ _ q => q.elim)).trans (K6n.mono (fun _ _ q => q.elim (fun q => .inr (.inl q)) (fun q => .inl q)))
    · rw [HTOP.out]; exact (G7.out.set 0 _).drew
    · exact T1.out.kept K6n (fun q => q.elim (M6.out.ne T1.out) hpB)
    · refine T2.out.keptT K6n (fun g cur hg hb => ?_)
      rcases hg with rfl | rfl
      · exact M6.out.ne hb rfl
      · exact absurd (hb.ty G6.out) (by decide)
    · refine T3.out.kept K6n (fun q => q.elim (HK.out.same K4.out |>.neMm HOF.out) (fun q => T3.out.ne G6.out q.symm))
    · exact M7.out.kept K7n (fun q => M7.out.ne G7.out q.symm)
  clear T1 T2 T3 T4 T5 HOF F6 K46 K6 G6 M6 K67 M7 G7 F7 fB zB q1
  rintro wn ⟨hns, hfn⟩
  have NS := Lib.hid hns
  have FN := Lib.hid hfn
  have PN := Lib.hid hns.bp
  have BN := Lib.hid hns.bB
  clear hns hfn
  obtain ⟨T, hT⟩ : ∃ T, b.of id = T := ⟨_, rfl⟩
  dsimp only at PN BN
  rw [hT] at PN
  have HT := Lib.hid hT
  clear hT
  obtain ⟨Ts, Tl, Tk, Tw⟩ := T
  dsimp only at PN
  have p0 := cell_blk FN.out.1
  have p2 := cell_blk PN.out
  have f2 := fun i => Blk.free PN.out i
  have z0 := FN.out.1.lt
  have z2 := PN.out.lt
  by_cases k0 : k = 0
  · subst k0
    go_wp2_with fail
    go_end0
    rw [← HNP.out]
    have KP : Kept (fun g => g = p ∨ g = m) wn ((wn.setCell ⟨p, 0, none⟩ (.int .i64 t)).setCell ⟨p, 1, none⟩ (.bool true)) := ((Kept.refl _ _).setCell (fun _ => .inl rfl) _).setCell (fun _ => .inl rfl) _
    have KP1 : Kept (fun g => g = p) wn ((wn.setCell ⟨p, 0, none⟩ (.int .i64 t)).setCell ⟨p, 1, none⟩ (.bool true)) := ((Kept.refl _ _).setG 0 _).setG 1 _
    refine NS.out.fin KP ?_ (fun q => by cases q.1)
    rw [note0 rfl]
    refine ⟨ka, kn, kc, ?_, NS.out.ks.keptT KP1 (fun g cur hg hb => ?_), NS.out.wr.kept KP1 (fun q => NS.out.wr.ne NS.out.bp q.symm), NS.out.fp, NS.out.fm⟩
    · exact (NS.out.bp.set 0 _).set 1 _
    · subst hg
      exact absurd (hb.ty NS.out.bp) (by decide)
  · have n0 : ((k : Int) == 0) = false := by simp; omega
    by_cases k2 : k = 2
    · subst k2
      clear n0 k0
      have AD := Lib.hid (fun w' (kk : Same wn w') => cf_add ka kn kc Tk (by have := NS.out.ks.at.2; rw [HT.out] at this; exact this) (by have h1 := NS.out.ks.at.2; have h2 := TxIn.lenN HK.out id; simp only [HT.out] at h1 h2; omega) key w' (by have := NS.out.ks.at.1.same kk; rw [HT.out] at this; exact this) NS.out.ks.plain)
      have QX := Lib.hid (show ∀ w', Same wn w' → (∀ i, w'.cell? ⟨p, i, none⟩ = (#[.int .i64 Ts, .bool Tl, .slice ka kn kc, .map (some m)] : Array Value)[i]?) ∧ (∀ i, w'.cell? ⟨y, i, none⟩ = (#[.int .u8 ((2 : Nat) : Int), .int .i64 id, .int .i64 t, encStr key, encStr val, .bool is] : Array Value)[i]?) ∧ True ∧ True from fun w' k => ⟨cell_blk (PN.out.kept k (fun h => h)), cell_blk (FN.out.same k).1, trivial, trivial⟩)
      go_wp2_with fail
      refine wp_region_T (S := fun w' => Same wn w') 10 (by kernel_rfl) (Kept.refl _ _).drew (fun hHeld hDn => ?_)
      refine wpT_take (i := 0) (t := 40) (v := ?_) rfl rfl rfl (by kernel_rfl) (by kernel_rfl) (by kernel_rfl) (by kernel_rfl) (fun _ _ _ h => h) (Or.inl ⟨by rfl, ?_⟩) hHeld hDn (fun hDn' => ?_)
      rotate_left
      · (intro w hSw; have hQX := QX.out w hSw; obtain ⟨s1, s2, s3, s4⟩ := hQX; go_simp; (try with_reducible rfl))
      clear hDn; have hDn := hDn'; clear hDn'
      simp only [Act.put, List.setIfInBounds_toArray, List.set_cons_zero, List.set_cons_succ]
      refine wpT_take (i := 1) (t := 41) (v := ?_) rfl rfl rfl (by kernel_rfl) (by kernel_rfl) (by kernel_rfl) (by kernel_rfl) (fun _ _ _ h => h) (Or.inl ⟨by rfl, ?_⟩) hHeld hDn (fun hDn' => ?_)
      rotate_left
      · (intro w hSw; have hQX := QX.out w hSw; obtain ⟨s1, s2, s3, s4⟩ := hQX; go_simp; (try with_reducible rfl))
      clear hDn; have hDn := hDn'; clear hDn'
      simp only [Act.put, List.setIfInBounds_toArray, List.set_cons_zero, List.set_cons_succ]
      refine wpT_take (i := 2) (t := 42) (v := ?_) rfl rfl rfl (by kernel_rfl) (by kernel_rfl) (by kernel_rfl) (by kernel_rfl) (fun _ _ _ h => h) (Or.inl ⟨by rfl, ?_⟩) hHeld hDn (fun hDn' => ?_)
      rotate_left
      · (intro w hSw; have hQX := QX.out w hSw; obtain ⟨s1, s2, s3, s4⟩ := hQX; go_simp; (try with_reducible rfl))
      clear hDn; have hDn := hDn'; clear hDn'
      simp only [Act.put, List.setIfInBounds_toArray, List.set_cons_zero, List.set_cons_succ]
      refine wpT_take (i := 3) (t := 43) (v := ?_) rfl rfl rfl (by kernel_rfl) (by kernel_rfl) (by kernel_rfl) (by kernel_rfl) (fun _ _ _ h => h) (Or.inl ⟨by rfl, ?_⟩) hHeld hDn (fun hDn' => ?_)
      rotate_left
      · (intro w hSw; have hQX := QX.out w hSw; obtain ⟨s1, s2, s3, s4⟩ := hQX; go_simp; (try with_reducible rfl))
      clear hDn; have hDn := hDn'; clear hDn'
      simp only [Act.put, List.setIfInBounds_toArray, List.set_cons_zero, List.set_cons_succ]
      refine wpT_take (i := 4) (t := 44) (v := ?_) rfl rfl rfl (by kernel_rfl) (by kernel_rfl) (by kernel_rfl) (by kernel_rfl) (fun _ _ _ h => h) (Or.inl ⟨by rfl, ?_⟩) hHeld hDn (fun hDn' => ?_)
      rotate_left
      · (intro w hSw; have hQX := QX.out w hSw; obtain ⟨s1, s2, s3, s4⟩ := hQX; go_simp; (try with_reducible rfl))
      clear hDn; have hDn := hDn'; clear hDn'
      simp only [Act.put, List.setIfInBounds_toArray, List.set_cons_zero, List.set_cons_succ]
      refine wpT_take (i := 5) (t := 45) (v := ?_) rfl rfl rfl (by kernel_rfl) (by kernel_rfl) (by kernel_rfl) (by kernel_rfl) (fun _ _ _ h => h) (Or.inl ⟨by rfl, ?_⟩) hHeld hDn (fun hDn' => ?_)
      rotate_left
      · (intro w hSw; have hQX := QX.out w hSw; obtain ⟨s1, s2, s3, s4⟩ := hQX; go_simp; (try with_reducible rfl))
      clear hDn; have hDn := hDn'; clear hDn'
      simp only [Act.put, List.setIfInBounds_toArray, List.set_cons_zero, List.set_cons_succ]
      refine wpT_take (i := 6) (t := 46) (v := ?_) rfl rfl rfl (by kernel_rfl) (by kernel_rfl) (by kernel_rfl) (by kernel_rfl) (fun _ _ _ h => h) (Or.inl ⟨by rfl, ?_⟩) hHeld hDn (fun hDn' => ?_)
      rotate_left
      · (intro w hSw; have hQX := QX.out w hSw; obtain ⟨s1, s2, s3, s4⟩ := hQX; go_simp; (try with_reducible rfl))
      clear hDn; have hDn := hDn'; clear hDn'
      simp only [Act.put, List.setIfInBounds_toArray, List.set_cons_zero, List.set_cons_succ]
      refine wpT_one (i := 7) rfl (by kernel_rfl) hDn (fun K' hK => ?_)
      go_simp
      with_reducible refine (AD.out _ ((Kept.refl _ _).drew)).mono ?_
      rintro e w9 ⟨⟨v, rfl, hv⟩, k9⟩
      obtain ⟨a2, n2, c2, rfl, -, -, -⟩ := hv.rd2
      have HV := Lib.hid (hv.rebase (show base ≤ wn.heap.size from by have := HX.out; have := NS.out.kw.size; have := NS.out.k.size; omega))
      have K9 := Lib.hid (show Same wn w9 from ((Kept.refl _ _).drew).trans k9)
      have P9 := Lib.hid (PN.out.kept K9.out (fun h => h))
      refine hK.out _ _ ?_ (fun hHeld2 hDn2 => ?_)
      · exact K9.out
      clear hK K' hHeld hDn hv k9 p2 f2 z2 p0 z0
      have hHeld := hHeld2; have hDn := hDn2
      clear hHeld2 hDn2
      refine wpT_take (i := 8) (t := 48) (v := ?_) rfl rfl rfl (by kernel_rfl) (by kernel_rfl) (by kernel_rfl) (by kernel_rfl) (fun _ _ _ h => h) (Or.inl ⟨by rfl, ?_⟩) hHeld hDn (fun hDn' => ?_)
      rotate_left
      · (intro w hSw; have hQX := QX.out w hSw; obtain ⟨s1, s2, s3, s4⟩ := hQX; go_simp; (try with_reducible rfl))
      clear hDn; have hDn := hDn'; clear hDn'
      simp only [Act.put, List.setIfInBounds_toArray, List.set_cons_zero, List.set_cons_succ]
      refine wpT_take (i := 9) (t := 49) (v := ?_) rfl rfl rfl (by kernel_rfl) (by kernel_rfl) (by kernel_rfl) (by kernel_rfl) (fun _ _ _ h => h) (Or.inl ⟨by rfl, ?_⟩) hHeld hDn (fun hDn' => ?_)
      rotate_left
      · (intro w hSw; have hQX := QX.out w hSw; obtain ⟨s1, s2, s3, s4⟩ := hQX; go_simp; (try with_reducible rfl))
      clear hDn; have hDn := hDn'; clear hDn'
      simp only [Act.put, List.setIfInBounds_toArray, List.set_cons_zero, List.set_cons_succ]
      have p2 := cell_blk P9.out
      have f2 := fun i => Blk.free P9.out i
      have z2 := P9.out.lt
      refine wpT_last rfl (by kernel_rfl) hDn (fun K hK => ?_)
      go_simp
      refine hK.out _ _ (fun hDn' => ?_)
      clear hK K hDn hHeld; have hDn := hDn'; clear hDn'
      refine wpT_done (by kernel_rfl) ?_ _
      clear QX hDn AD p2 f2 z2
      refine cutE (fun wq => Kept (fun g => g = p) wn wq ∧ Blk wq p #[.int .i64 Ts, .bool Tl, .slice a2 n2 c2, .map (some m)] 81 ∧ OwnE stE wq base 9 (.slice a2 n2 c2) (addK Tk key) ∧ MapS wq m (fun k => (Tw k).map encW) ∧ Blk wq y #[.int .u8 ((2 : Nat) : Int), .int .i64 id, .int .i64 t, encStr key, encStr val, .bool is] 42) ?_ ?_
      · have KP1 : Kept (fun g => g = p) w9 (w9.setCell ⟨p, 2, none⟩ (.slice a2 n2 c2)) := (Kept.refl _ _).setG 2 _
        have KA := (K9.out.mono (fun _ _ q => q.elim)).trans KP1
        refine ⟨KA, P9.out.set 2 _, HV.out.keptT KP1 (fun g cur q hb => by subst q; exact absurd (hb.ty P9.out) (by decide)), ?_, ?_⟩
        · have := NS.out.wr.kept KA (fun q => NS.out.wr.ne NS.out.bp q.symm)
          simp only [HT.out] at this
          exact this
        · exact FN.out.1.kept KA (fun q => by subst q; exact absurd (Blk.ty FN.out.1 NS.out.bp) (by decide : 42 ≠ 81))
      rintro wq ⟨kq, bq, oq, mq, yq⟩
      have KQ := Lib.hid kq; have BQ := Lib.hid bq; have OQ := Lib.hid oq; have MQ := Lib.hid mq; have YQ := Lib.hid yq
      clear kq bq oq mq yq P9 K9 HV
      obtain ⟨wr, hst, hmr, kr, -⟩ := MapK.store (P := Try.prog) (MQ.out.same ((Kept.refl _ wq).drew)) Try.underlying79 Try.underlying9 key (.agg #[encStr val, .bool is])
      have KR := Lib.hid (show Kept (fun j => j = m) wq wr from ((Kept.refl _ _).drew).trans kr)
      have HMR := Lib.hid hmr
      clear hmr kr
      have QX := Lib.hid (show ∀ w', Same wq w' → (∀ i, w'.cell? ⟨p, i, none⟩ = (#[.int .i64 Ts, .bool Tl, .slice a2 n2 c2, .map (some m)] : Array Value)[i]?) ∧ (∀ i, w'.cell? ⟨y, i, none⟩ = (#[.int .u8 ((2 : Nat) : Int), .int .i64 id, .int .i64 t, encStr key, encStr val, .bool is] : Array Value)[i]?) ∧ True ∧ True from fun w' k => ⟨cell_blk (BQ.out.kept k (fun h => h)), cell_blk (YQ.out.kept k (fun h => h)), trivial, trivial⟩)
      go_wp2_with fail
      refine wp_region_T (S := fun w' => Same wq w') 11 (by kernel_rfl) (Kept.refl _ _).drew (fun hHeld hDn => ?_)
      refine wpT_take (i := 0) (t := 50) (v := ?_) rfl rfl rfl (by kernel_rfl) (by kernel_rfl) (by kernel_rfl) (by kernel_rfl) (fun _ _ _ h => h) (Or.inl ⟨by rfl, ?_⟩) hHeld hDn (fun hDn' => ?_)
      rotate_left
      · (intro w hSw; have hQX := QX.out w hSw; obtain ⟨s1, s2, s3, s4⟩ := hQX; go_simp; (try with_reducible rfl))
      clear hDn; have hDn := hDn'; clear hDn'
      simp only [Act.put, List.setIfInBounds_toArray, List.set_cons_zero, List.set_cons_succ]
      refine wpT_take (i := 1) (t := 51) (v := ?_) rfl rfl rfl (by kernel_rfl) (by kernel_rfl) (by kernel_rfl) (by kernel_rfl) (fun _ _ _ h => h) (Or.inl ⟨by rfl, ?_⟩) hHeld hDn (fun hDn' => ?_)
      rotate_left
      · (intro w hSw; have hQX := QX.out w hSw; obtain ⟨s1, s2, s3, s4⟩ := hQX; go_simp; (try with_reducible rfl))
      clear hDn; have hDn := hDn'; clear hDn'
      simp only [Act.put, List.setIfInBounds_toArray, List.set_cons_zero, List.set_cons_succ]
      refine wpT_take (i := 2) (t := 52) (v := ?_) rfl rfl rfl (by kernel_rfl) (by kernel_rfl) (by kernel_rfl) (by kernel_rfl) (fun _ _ _ h => h) (Or.inl ⟨by rfl, ?_⟩) hHeld hDn (fun hDn' => ?_)
      rotate_left
      · (intro w hSw; have hQX := QX.out w hSw; obtain ⟨s1, s2, s3, s4⟩ := hQX; go_simp; (try with_reducible rfl))
      clear hDn; have hDn := hDn'; clear hDn'
      simp only [Act.put, List.setIfInBounds_toArray, List.set_cons_zero, List.set_cons_succ]
      refine wpT_take (i := 3) (t := 53) (v := ?_) rfl rfl rfl (by kernel_rfl) (by kernel_rfl) (by kernel_rfl) (by kernel_rfl) (fun _ _ _ h => h) (Or.inl ⟨by rfl, ?_⟩) hHeld hDn (fun hDn' => ?_)
      rotate_left
      · (intro w hSw; have hQX := QX.out w hSw; obtain ⟨s1, s2, s3, s4⟩ := hQX; go_simp; (try with_reducible rfl))
      clear hDn; have hDn := hDn'; clear hDn'
      simp only [Act.put, List.setIfInBounds_toArray, List.set_cons_zero, List.set_cons_succ]
      refine wpT_take (i := 4) (t := 54) (v := ?_) rfl rfl rfl (by kernel_rfl) (by kernel_rfl) (by kernel_rfl) (by kernel_rfl) (fun _ _ _ h => h) (Or.inl ⟨by rfl, ?_⟩) hHeld hDn (fun hDn' => ?_)
      rotate_left
      · (intro w hSw; have hQX := QX.out w hSw; obtain ⟨s1, s2, s3, s4⟩ := hQX; go_simp; (try with_reducible rfl))
      clear hDn; have hDn := hDn'; clear hDn'
      simp only [Act.put, List.setIfInBounds_toArray, List.set_cons_zero, List.set_cons_succ]
      refine wpT_take (i := 5) (t := 55) (v := ?_) rfl rfl rfl (by kernel_rfl) (by kernel_rfl) (by kernel_rfl) (by kernel_rfl) (fun _ _ _ h => h) (Or.inl ⟨by rfl, ?_⟩) hHeld hDn (fun hDn' => ?_)
      rotate_left
      · (intro w hSw; have hQX := QX.out w hSw; obtain ⟨s1, s2, s3, s4⟩ := hQX; go_simp; (try with_reducible rfl))
      clear hDn; have hDn := hDn'; clear hDn'
      simp only [Act.put, List.setIfInBounds_toArray, List.set_cons_zero, List.set_cons_succ]
      refine wpT_take (i := 6) (t := 56) (v := ?_) rfl rfl rfl (by kernel_rfl) (by kernel_rfl) (by kernel_rfl) (by kernel_rfl) (fun _ _ _ h => h) (Or.inl ⟨by rfl, ?_⟩) hHeld hDn (fun hDn' => ?_)
      rotate_left
      · (intro w hSw; have hQX := QX.out w hSw; obtain ⟨s1, s2, s3, s4⟩ := hQX; go_simp; (try with_reducible rfl))
      clear hDn; have hDn := hDn'; clear hDn'
      simp only [Act.put, List.setIfInBounds_toArray, List.set_cons_zero, List.set_cons_succ]
      refine wpT_take (i := 7) (t := 57) (v := ?_) rfl rfl rfl (by kernel_rfl) (by kernel_rfl) (by kernel_rfl) (by kernel_rfl) (fun _ _ _ h => h) (Or.inl ⟨by rfl, ?_⟩) hHeld hDn (fun hDn' => ?_)
      rotate_left
      · (intro w hSw; have hQX := QX.out w hSw; obtain ⟨s1, s2, s3, s4⟩ := hQX; go_simp; (try with_reducible rfl))
      clear hDn; have hDn := hDn'; clear hDn'
      simp only [Act.put, List.setIfInBounds_toArray, List.set_cons_zero, List.set_cons_succ]
      refine wpT_take (i := 8) (t := 58) (v := ?_) rfl rfl rfl (by kernel_rfl) (by kernel_rfl) (by kernel_rfl) (by kernel_rfl) (fun _ _ _ h => h) (Or.inl ⟨by rfl, ?_⟩) hHeld hDn (fun hDn' => ?_)
      rotate_left
      · (intro w hSw; have hQX := QX.out w hSw; obtain ⟨s1, s2, s3, s4⟩ := hQX; go_simp; (try with_reducible rfl))
      clear hDn; have hDn := hDn'; clear hDn'
      simp only [Act.put, List.setIfInBounds_toArray, List.set_cons_zero, List.set_cons_succ]
      refine wpT_take (i := 9) (t := 59) (v := ?_) rfl rfl rfl (by kernel_rfl) (by kernel_rfl) (by kernel_rfl) (by kernel_rfl) (fun _ _ _ h => h) (Or.inl ⟨by rfl, ?_⟩) hHeld hDn (fun hDn' => ?_)
      rotate_left
      · (intro w hSw; have hQX := QX.out w hSw; obtain ⟨s1, s2, s3, s4⟩ := hQX; go_simp; (try with_reducible rfl))
      clear hDn; have hDn := hDn'; clear hDn'
      simp only [Act.put, List.setIfInBounds_toArray, List.set_cons_zero, List.set_cons_succ]
      refine wpT_take (i := 10) (t := 60) (v := ?_) rfl rfl rfl (by kernel_rfl) (by kernel_rfl) (by kernel_rfl) (by kernel_rfl) (fun _ _ _ h => h) (Or.inl ⟨by rfl, ?_⟩) hHeld hDn (fun hDn' => ?_)
      rotate_left
      · (intro w hSw; have hQX := QX.out w hSw; obtain ⟨s1, s2, s3, s4⟩ := hQX; go_simp; (try with_reducible rfl))
      clear hDn; have hDn := hDn'; clear hDn'
      simp only [Act.put, List.setIfInBounds_toArray, List.set_cons_zero, List.set_cons_succ]
      refine wpT_last rfl (by kernel_rfl) hDn (fun K hK => ?_)
      go_simp
      refine hK.out _ _ (fun hDn' => ?_)
      clear hK K hDn hHeld; have hDn := hDn'; clear hDn'
      refine wpT_done (by kernel_rfl) ?_ _
      clear QX hDn hst
      go_wp2_with fail
      go_end0
      rw [← HNP.out]
      have hpm : ¬ p = m := MQ.out.ne BQ.out
      refine NS.out.fin ((KQ.out.mono (fun _ _ q => .inl q)).trans (KR.out.mono (fun _ _ q => .inr q))) ?_ (fun q => by cases q.1)
      rw [note2 rfl]
      show TxIn wr base p m { b.of id with keys := addK (b.of id).keys key, wrote := fun k => if k = key then some (val, is) else (b.of id).wrote k }
      rw [HT.out]
      refine ⟨a2, n2, c2, BQ.out.kept KR.out hpm, OQ.out.keptT KR.out (fun g cur q hb => by subst q; exact MQ.out.ne hb rfl), HMR.out.congr (fun k => ?_), NS.out.fp, NS.out.fm⟩
      show _ = Option.map encW (if k = key then some (val, is) else Tw k)
      split <;> rfl
    · have n2 : ((k : Int) == 2) = false := by simp; omega
      by_cases k45 : k = 4 ∨ k = 5
      · have KP := Lib.hid (fun (W : World) (hW : W = wn.setCell ⟨p, 1, none⟩ (.bool false)) => show NP (.returned (.tuple #[])) W from by
          subst hW
          rw [← HNP.out]
          have KP1 : Kept (fun g => g = p) wn (wn.setCell ⟨p, 1, none⟩ (.bool false)) := (Kept.refl _ _).setG 1 _
          refine NS.out.fin (KP1.mono (fun _ _ q => .inl q)) ?_ (fun q => by have := q.1; dsimp only at this; omega)
          rw [note345 (.inr k45)]
          refine ⟨ka, kn, kc, ?_, NS.out.ks.keptT KP1 (fun g cur hg hb => ?_), NS.out.wr.kept KP1 (fun q => NS.out.wr.ne NS.out.bp q.symm), NS.out.fp, NS.out.fm⟩
          · exact NS.out.bp.set 1 _
          · subst hg
            exact absurd (hb.ty NS.out.bp) (by decide))
        rcases k45 with rfl | rfl
        · go_wp2_with fail
          go_end0
          exact KP.out _ rfl
        · go_wp2_with fail
          go_end0
          exact KP.out _ rfl
      · by_cases k3 : k = 3
        · subst k3
          clear n0 n2 k0 k2 k45
          have HKN := Lib.hid (show kn = Tk.length from by have := NS.out.ks.at.2; rw [HT.out] at this; exact this)
          have HTL := Lib.hid (show Tk.length ≤ N from by have := TxIn.lenN HK.out id; rw [HT.out] at this; exact this)
          by_cases hk0 : kn = 0
          · have KP := Lib.hid (fun (W : World) (hW : W = wn.setCell ⟨p, 1, none⟩ (.bool false)) => show NP (.returned (.tuple #[])) W from by
              subst hW
              rw [← HNP.out]
              have KP1 : Kept (fun g => g = p) wn (wn.setCell ⟨p, 1, none⟩ (.bool false)) := (Kept.refl _ _).setG 1 _
              refine NS.out.fin (KP1.mono (fun _ _ q => .inl q)) ?_ (fun q => q.2 (by show (b.of id).keys = []; rw [HT.out]; exact List.eq_nil_of_length_eq_zero (by rw [← HKN.out]; exact hk0)))
              rw [note345 (.inl rfl)]
              refine ⟨ka, kn, kc, ?_, NS.out.ks.keptT KP1 (fun g cur hg hb => ?_), NS.out.wr.kept KP1 (fun q => NS.out.wr.ne NS.out.bp q.symm), NS.out.fp, NS.out.fm⟩
              · exact NS.out.bp.set 1 _
              · subst hg
                exact absurd (hb.ty NS.out.bp) (by decide))
            clear HKN
            subst hk0
            go_wp2_with fail
            go_end0
            exact KP.out _ rfl
          · have g0 : 0 < kn := by omega
            go_upto_region 12 with fail
            refine cutWl (fun wo => Kept (fun g => g = p) wn wo ∧ Blk wo p #[.int .i64 Ts, .bool false, .slice ka kn kc, .map (some m)] 81) ⟨(Kept.refl _ _).setG 1 _, PN.out.set 1 _⟩ ?_
            rintro wo ⟨ko, po⟩
            have KO := Lib.hid ko
            have PO := Lib.hid po
            have YO := Lib.hid (FN.out.1.kept ko (fun q => by subst q; exact absurd (Blk.ty FN.out.1 PN.out) (by decide : 42 ≠ 81)))
            have BO := Lib.hid (BN.out.kept ko (fun q => by subst q; exact absurd (Blk.ty BN.out PN.out) (by decide : 73 ≠ 81)))
            clear ko po p0 p2 f2 z0 z2
            have p2 := cell_blk PO.out
            have z2 := PO.out.lt
            have KSO := Lib.hid (show OwnE stE wo base 9 (.slice ka kn kc) Tk from by
              have := NS.out.ks.keptT KO.out (fun g cur q hb => by subst q; exact absurd (Blk.ty hb PN.out) (by decide))
              rw [HT.out] at this
              exact this)
            have LO := Lib.hid (show OwnE lgE wo base 92 (.slice la ll lc) L from
              (NS.out.g2.keptT NS.out.k (fun g cur q hb => by rcases NS.out.hb.foot NS.out.ho hb q with z | z <;> exact absurd z (by decide))).keptT KO.out (fun g cur q hb => by subst q; exact absurd (Blk.ty hb PN.out) (by decide)))
            have YBO := Lib.hid (show OwnE inE wo base 3 (.slice ba bl bc) b.by_ from
              (NS.out.g5.keptT NS.out.k (fun g cur q hb => by rcases NS.out.hb.foot NS.out.ho hb q with z | z <;> exact absurd z (by decide))).keptT KO.out (fun g cur q hb => by subst q; exact absurd (Blk.ty hb PN.out) (by decide)))
            have HLN := Lib.hid (show L.length ≤ N from by have h1 := HK.out.ll; rw [← GE.out, List.length_map] at h1; exact h1)
            have CN := Lib.hid (fun w' (kk : Same wo w') => cf_note (.slice la ll lc) L (by have := HLN.out; omega) w' (LO.out.same kk) t ka kn kc Tk HKN.out g0 (by have := HKN.out; have := HTL.out; omega) (KSO.out.at.1.same kk) KSO.out.plain)
            have HBN := Lib.hid (show b.by_.length ≤ N from by have h1 := HK.out.ll; have h2 := HK.out.lb; omega)
            have HWO := Lib.hid (show base ≤ wo.heap.size from by have := HX.out; have := NS.out.kw.size; have := NS.out.k.size; have := KO.out.size; omega)
            go_wp2_with fail
            have QX := Lib.hid (show ∀ w', Same wo w' → (∀ i, w'.cell? ⟨p, i, none⟩ = (#[.int .i64 Ts, .bool false, .slice ka kn kc, .map (some m)] : Array Value)[i]?) ∧ (∀ i, w'.cell? ⟨y, i, none⟩ = (#[.int .u8 ((3 : Nat) : Int), .int .i64 id, .int .i64 t, encStr key, encStr val, .bool is] : Array Value)[i]?) ∧ (∀ i, w'.cell? ⟨B, i, none⟩ = (#[.int .i64 (max b.top t), .map (some M), .slice la ll lc, .slice ba bl bc] : Array Value)[i]?) ∧ True from fun w' k => ⟨cell_blk (PO.out.kept k (fun h => h)), cell_blk (YO.out.kept k (fun h => h)), cell_blk (BO.out.kept k (fun h => h)), trivial⟩)
            refine wp_region_T (S := fun w' => Same wo w') 20 (by kernel_rfl) (Kept.refl _ _).drew (fun hHeld hDn => ?_)
            refine wpT_takeW (i := 0) (t := 72) (v := ?_) rfl rfl rfl (by kernel_rfl) (by kernel_rfl) (by kernel_rfl) (fun _ _ _ h => h) (Or.inl ⟨by rfl, ?_⟩) hHeld hDn (fun hDn' => ?_)
            rotate_left
            · (intro w _; go_simp; (try with_reducible rfl))
            clear hDn; have hDn := hDn'; clear hDn'
            simp only [Act.put, List.setIfInBounds_toArray, List.set_cons_zero, List.set_cons_succ]
            refine wpT_takeW (i := 1) (t := 73) (v := ?_) rfl rfl rfl (by kernel_rfl) (by kernel_rfl) (by kernel_rfl) (fun _ _ _ h => h) (Or.inl ⟨by rfl, ?_⟩) hHeld hDn (fun hDn' => ?_)
            rotate_left
            · (intro w _; go_simp; (try with_reducible rfl))
            clear hDn; have hDn := hDn'; clear hDn'
            simp only [Act.put, List.setIfInBounds_toArray, List.set_cons_zero, List.set_cons_succ]
            refine wpT_take (i := 2) (t := 74) (v := ?_) rfl rfl rfl (by kernel_rfl) (by kernel_rfl) (by kernel_rfl) (by kernel_rfl) (fun _ _ _ h => h) (Or.inl ⟨by rfl, ?_⟩) hHeld hDn (fun hDn' => ?_)
            rotate_left
            · (intro w hSw; have hQX := QX.out w hSw; obtain ⟨s1, s2, s3, s4⟩ := hQX; go_simp; (try with_reducible rfl))
            clear hDn; have hDn := hDn'; clear hDn'
            simp only [Act.put, List.setIfInBounds_toArray, List.set_cons_zero, List.set_cons_succ]
            refine wpT_take (i := 3) (t := 75) (v := ?_) rfl rfl rfl (by kernel_rfl) (by kernel_rfl) (by kernel_rfl) (by kernel_rfl) (fun _ _ _ h => h) (Or.inl ⟨by rfl, ?_⟩) hHeld hDn (fun hDn' => ?_)
            rotate_left
            · (intro w hSw; have hQX := QX.out w hSw; obtain ⟨s1, s2, s3, s4⟩ := hQX; go_simp; (try with_reducible rfl))
            clear hDn; have hDn := hDn'; clear hDn'
            simp only [Act.put, List.setIfInBounds_toArray, List.set_cons_zero, List.set_cons_succ]
            refine wpT_take (i := 4) (t := 76) (v := ?_) rfl rfl rfl (by kernel_rfl) (by kernel_rfl) (by kernel_rfl) (by kernel_rfl) (fun _ _ _ h => h) (Or.inl ⟨by rfl, ?_⟩) hHeld hDn (fun hDn' => ?_)
            rotate_left
            · (intro w hSw; have hQX := QX.out w hSw; obtain ⟨s1, s2, s3, s4⟩ := hQX; go_simp; (try with_reducible rfl))
            clear hDn; have hDn := hDn'; clear hDn'
            simp only [Act.put, List.setIfInBounds_toArray, List.set_cons_zero, List.set_cons_succ]
            refine wpT_take (i := 5) (t := 77) (v := ?_) rfl rfl rfl (by kernel_rfl) (by kernel_rfl) (by kernel_rfl) (by kernel_rfl) (fun _ _ _ h => h) (Or.inl ⟨by rfl, ?_⟩) hHeld hDn (fun hDn' => ?_)
            rotate_left
            · (intro w hSw; have hQX := QX.out w hSw; obtain ⟨s1, s2, s3, s4⟩ := hQX; go_simp; (try with_reducible rfl))
            clear hDn; have hDn := hDn'; clear hDn'
            simp only [Act.put, List.setIfInBounds_toArray, List.set_cons_zero, List.set_cons_succ]
            refine wpT_take (i := 6) (t := 78) (v := ?_) rfl rfl rfl (by kernel_rfl) (by kernel_rfl) (by kernel_rfl) (by kernel_rfl) (fun _ _ _ h => h) (Or.inl ⟨by rfl, ?_⟩) hHeld hDn (fun hDn' => ?_)
            rotate_left
            · (intro w hSw; have hQX := QX.out w hSw; obtain ⟨s1, s2, s3, s4⟩ := hQX; go_simp; (try with_reducible rfl))
            clear hDn; have hDn := hDn'; clear hDn'
            simp only [Act.put, List.setIfInBounds_toArray, List.set_cons_zero, List.set_cons_succ]
            refine wpT_take (i := 7) (t := 79) (v := ?_) rfl rfl rfl (by kernel_rfl) (by kernel_rfl) (by kernel_rfl) (by kernel_rfl) (fun _ _ _ h => h) (Or.inl ⟨by rfl, ?_⟩) hHeld hDn (fun hDn' => ?_)
            rotate_left
            · (intro w hSw; have hQX := QX.out w hSw; obtain ⟨s1, s2, s3, s4⟩ := hQX; go_simp; (try with_reducible rfl))
            clear hDn; have hDn := hDn'; clear hDn'
            simp only [Act.put, List.setIfInBounds_toArray, List.set_cons_zero, List.set_cons_succ]
            refine wpT_take (i := 8) (t := 80) (v := ?_) rfl rfl rfl (by kernel_rfl) (by kernel_rfl) (by kernel_rfl) (by kernel_rfl) (fun _ _ _ h => h) (Or.inl ⟨by rfl, ?_⟩) hHeld hDn (fun hDn' => ?_)
            rotate_left
            · (intro w hSw; have hQX := QX.out w hSw; obtain ⟨s1, s2, s3, s4⟩ := hQX; go_simp; (try with_reducible rfl))
            clear hDn; have hDn := hDn'; clear hDn'
            simp only [Act.put, List.setIfInBounds_toArray, List.set_cons_zero, List.set_cons_succ]
            refine wpT_take (i := 9) (t := 81) (v := ?_) rfl rfl rfl (by kernel_rfl) (by kernel_rfl) (by kernel_rfl) (by kernel_rfl) (fun _ _ _ h => h) (Or.inl ⟨by rfl, ?_⟩) hHeld hDn (fun hDn' => ?_)
            rotate_left
            · (intro w hSw; have hQX := QX.out w hSw; obtain ⟨s1, s2, s3, s4⟩ := hQX; go_simp; (try with_reducible rfl))
            clear hDn; have hDn := hDn'; clear hDn'
            simp only [Act.put, List.setIfInBounds_toArray, List.set_cons_zero, List.set_cons_succ]
            refine wpT_take (i := 10) (t := 82) (v := ?_) rfl rfl rfl (by kernel_rfl) (by kernel_rfl) (by kernel_rfl) (by kernel_rfl) (fun _ _ _ h => h) (Or.inl ⟨by rfl, ?_⟩) hHeld hDn (fun hDn' => ?_)
            rotate_left
            · (intro w hSw; have hQX := QX.out w hSw; obtain ⟨s1, s2, s3, s4⟩ := hQX; go_simp; (try with_reducible rfl))
            clear hDn; have hDn := hDn'; clear hDn'
            simp only [Act.put, List.setIfInBounds_toArray, List.set_cons_zero, List.set_cons_succ]
            refine wpT_take (i := 11) (t := 83) (v := ?_) rfl rfl rfl (by kernel_rfl) (by kernel_rfl) (by kernel_rfl) (by kernel_rfl) (fun _ _ _ h => h) (Or.inl ⟨by rfl, ?_⟩) hHeld hDn (fun hDn' => ?_)
            rotate_left
            · (intro w hSw; have hQX := QX.out w hSw; obtain ⟨s1, s2, s3, s4⟩ := hQX; go_simp; (try with_reducible rfl))
            clear hDn; have hDn := hDn'; clear hDn'
            simp only [Act.put, List.setIfInBounds_toArray, List.set_cons_zero, List.set_cons_succ]
            refine wpT_take (i := 13) (t := 85) (v := ?_) rfl rfl rfl (by kernel_rfl) (by kernel_rfl) (by kernel_rfl) (by kernel_rfl) (fun _ _ _ h => h) (Or.inl ⟨by rfl, ?_⟩) hHeld hDn (fun hDn' => ?_)
            rotate_left
            · (intro w hSw; have hQX := QX.out w hSw; obtain ⟨s1, s2, s3, s4⟩ := hQX; go_simp; (try with_reducible rfl))
            clear hDn; have hDn := hDn'; clear hDn'
            simp only [Act.put, List.setIfInBounds_toArray, List.set_cons_zero, List.set_cons_succ]
            refine wpT_take (i := 14) (t := 86) (v := ?_) rfl rfl rfl (by kernel_rfl) (by kernel_rfl) (by kernel_rfl) (by kernel_rfl) (fun _ _ _ h => h) (Or.inl ⟨by rfl, ?_⟩) hHeld hDn (fun hDn' => ?_)
            rotate_left
            · (intro w hSw; have hQX := QX.out w hSw; obtain ⟨s1, s2, s3, s4⟩ := hQX; go_simp; (try with_reducible rfl))
            clear hDn; have hDn := hDn'; clear hDn'
            simp only [Act.put, List.setIfInBounds_toArray, List.set_cons_zero, List.set_cons_succ]
            refine wpT_take (i := 15) (t := 87) (v := ?_) rfl rfl rfl (by kernel_rfl) (by kernel_rfl) (by kernel_rfl) (by kernel_rfl) (fun _ _ _ h => h) (Or.inl ⟨by rfl, ?_⟩) hHeld hDn (fun hDn' => ?_)
            rotate_left
            · (intro w hSw; have hQX := QX.out w hSw; obtain ⟨s1, s2, s3, s4⟩ := hQX; go_simp; (try with_reducible rfl))
            clear hDn; have hDn := hDn'; clear hDn'
            simp only [Act.put, List.setIfInBounds_toArray, List.set_cons_zero, List.set_cons_succ]
            refine wpT_take (i := 16) (t := 88) (v := ?_) rfl rfl rfl (by kernel_rfl) (by kernel_rfl) (by kernel_rfl) (by kernel_rfl) (fun _ _ _ h => h) (Or.inl ⟨by rfl, ?_⟩) hHeld hDn (fun hDn' => ?_)
            rotate_left
            · (intro w hSw; have hQX := QX.out w hSw; obtain ⟨s1, s2, s3, s4⟩ := hQX; go_simp; (try with_reducible rfl))
            clear hDn; have hDn := hDn'; clear hDn'
            simp only [Act.put, List.setIfInBounds_toArray, List.set_cons_zero, List.set_cons_succ]
            refine wpT_take (i := 17) (t := 89) (v := ?_) rfl rfl rfl (by kernel_rfl) (by kernel_rfl) (by kernel_rfl) (by kernel_rfl) (fun _ _ _ h => h) (Or.inl ⟨by rfl, ?_⟩) hHeld hDn (fun hDn' => ?_)
            rotate_left
            · (intro w hSw; have hQX := QX.out w hSw; obtain ⟨s1, s2, s3, s4⟩ := hQX; go_simp; (try with_reducible rfl))
            clear hDn; have hDn := hDn'; clear hDn'
            simp only [Act.put, List.setIfInBounds_toArray, List.set_cons_zero, List.set_cons_succ]
            refine wpT_take (i := 18) (t := 90) (v := ?_) rfl rfl rfl (by kernel_rfl) (by kernel_rfl) (by kernel_rfl) (by kernel_rfl) (fun _ _ _ h => h) (Or.inl ⟨by rfl, ?_⟩) hHeld hDn (fun hDn' => ?_)
            rotate_left
            · (intro w hSw; have hQX := QX.out w hSw; obtain ⟨s1, s2, s3, s4⟩ := hQX; go_simp; (try with_reducible rfl))
            clear hDn; have hDn := hDn'; clear hDn'
            simp only [Act.put, List.setIfInBounds_toArray, List.set_cons_zero, List.set_cons_succ]
            refine wpT_two (i := 12) (j := 19) rfl rfl (by kernel_rfl) hDn (fun K' hK => ?_) (fun K' hK => ?_)
            · go_simp
              with_reducible refine (CN.out _ ((Kept.refl _ _).drew)).mono ?_
              rintro e w9 ⟨⟨v, x', rfl, hv, e1, e2, e3⟩, k9⟩
              obtain ⟨a6, n6, c6, rfl, -, -, -⟩ := hv.rd2
              have K9 : Same wo w9 := ((Kept.refl _ _).drew).trans k9
              refine hK.out _ _ K9 (fun hHeld2 hDn2 => ?_)
              clear hK K' hHeld hDn
              have hHeld := hHeld2; have hDn := hDn2
              clear hHeld2 hDn2
              refine wpT_one (i := 19) rfl (by kernel_rfl) hDn (fun K' hK => ?_)
              go_simp
              refine hK.out _ _ (K9.alloc _) (fun hHeld2 hDn2 => ?_)
              clear hK K' hHeld hDn
              have hHeld := hHeld2; have hDn := hDn2
              clear hHeld2 hDn2
              have hX : Blk (w9.alloc (.cells #[.int .i64 id] 3)) w9.heap.size #[.int .i64 id] 3 := Blk.new _ _ _
              have hks' := (e3.rebase HWO.out).same ((Kept.refl _ w9).alloc (.cells #[.int .i64 id] 3))
              obtain ⟨v', wY, hrun, hoY, hgr, -⟩ := run_appendE (P := Try.prog) (w9.alloc (.cells #[.int .i64 id] 3)) 28 28 base 3 (.int .i64 0) 8 inE Try.underlying28 inInfo rfl (.slice ba bl bc) b.by_ (YBO.out.same (K9.alloc (.cells #[.int .i64 id] 3))) (some ⟨w9.heap.size, 0, none⟩) 1 1 [id] rfl (elsAt_one hX rfl) (fun h => by cases h) (by unfold maxLen; have := HBN.out; simp; omega) (by have := HBN.out; simp; omega) (by have := HWO.out; have := ((K9.alloc (.cells #[.int .i64 id] 3))).size; omega)
              obtain ⟨a5, n5, c5, rfl, -, -, -⟩ := hoY.rd2
              have KYb : Kept (fun g => (Value.slice ba bl bc).ownBlock = some g) (w9.alloc (.cells #[.int .i64 id] 3)) wY := Kept.grown (Kept.refl _ _) hgr (fun g hg _ => hg)
              have BY := (BO.out.kept (K9.alloc (.cells #[.int .i64 id] 3)) (fun q => q)).kept KYb (fun q => by obtain ⟨cur, hb⟩ := (YBO.out.same (K9.alloc (.cells #[.int .i64 id] 3))).blk q; exact absurd (Blk.ty (BO.out.kept (K9.alloc (.cells #[.int .i64 id] 3)) (fun q => q)) hb) (by decide : 73 ≠ 3))
              have BY := Lib.hid BY
              have fY := fun i => Blk.free BY.out i
              have pY := cell_blk BY.out
              have zY := BY.out.lt
              have FIN := Lib.hid (show NotePo w base B M N b ⟨3, id, t, key, val, is⟩ (.returned (.tuple #[])) ((wY.setCell ⟨B, 2, none⟩ (.slice a6 n6 c6)).setCell ⟨B, 3, none⟩ (.slice a5 n5 c5)) from
                NS.out.fin3 ⟨KO.out.trans (((K9.alloc (.cells #[.int .i64 id] 3))).mono (fun _ _ q => q.elim)), ⟨x', ((hv.rebase HWO.out).same ((Kept.refl _ w9).alloc (.cells #[.int .i64 id] 3))), e1, by rw [e2]; show Tk = (b.of id).keys; rw [HT.out], by show OwnE _ _ _ _ _ (b.of id).keys; rw [HT.out]; exact hks'⟩, by show Blk _ _ #[.int .i64 (b.of id).start, _, _, _] _; rw [HT.out]; exact PO.out.kept (K9.alloc (.cells #[.int .i64 id] 3)) (fun q => q), hgr, hoY⟩ rfl (by show (b.of id).keys ≠ []; rw [HT.out]; intro q; have h0 := HKN.out; dsimp only at q; rw [q] at h0; simp at h0; omega) rfl rfl)
              obtain ⟨aok, aV, aW⟩ := app_of hrun
              clear hrun hoY hgr KYb
              refine wpT_last rfl (by kernel_rfl) hDn (fun K hK => ?_)
              go_simp
              refine hK.out _ _ (fun hDn' => ?_)
              clear hK K hDn hHeld; have hDn := hDn'; clear hDn'
              refine wpT_takeE (i := 21) (t := 93) (v := ?_) rfl (by kernel_rfl) rfl rfl (by kernel_rfl) (by kernel_rfl) (by kernel_rfl) (fun _ _ _ h => h) (Or.inl ⟨by rfl, ?_⟩) hDn (fun hDn' => ?_)
              rotate_left
              · (intro w _; go_simp; (try with_reducible rfl))
              clear hDn; have hDn := hDn'; clear hDn'
              simp only [Act.put, List.setIfInBounds_toArray, List.set_cons_zero, List.set_cons_succ]
              refine wpT_takeE (i := 22) (t := 94) (v := ?_) rfl (by kernel_rfl) rfl rfl (by kernel_rfl) (by kernel_rfl) (by kernel_rfl) (fun _ _ _ h => h) (Or.inl ⟨by rfl, ?_⟩) hDn (fun hDn' => ?_)
              rotate_left
              · (intro w _; go_simp; (try with_reducible rfl))
              clear hDn; have hDn := hDn'; clear hDn'
              simp only [Act.put, List.setIfInBounds_toArray, List.set_cons_zero, List.set_cons_succ]
              refine wpT_oneE (i := 23) rfl (by kernel_rfl) rfl (by kernel_rfl) hDn (fun K' hK => ?_)
              go_simp
              refine hK.out _ _ (fun hDn2 => ?_)
              clear hK K' hDn
              have hDn := hDn2
              clear hDn2
              refine wpT_takeE (i := 24) (t := 95) (v := ?_) rfl (by kernel_rfl) rfl rfl (by kernel_rfl) (by kernel_rfl) (by kernel_rfl) (fun _ _ _ h => h) (Or.inl ⟨by rfl, ?_⟩) hDn (fun hDn' => ?_)
              rotate_left
              · (intro w _; go_simp; (try with_reducible rfl))
              clear hDn; have hDn := hDn'; clear hDn'
              simp only [Act.put, List.setIfInBounds_toArray, List.set_cons_zero, List.set_cons_succ]
              refine wpT_takeE (i := 25) (t := 96) (v := ?_) rfl (by kernel_rfl) rfl rfl (by kernel_rfl) (by kernel_rfl) (by kernel_rfl) (fun _ _ _ h => h) (Or.inl ⟨by rfl, ?_⟩) hDn (fun hDn' => ?_)
              rotate_left
              · (intro w _; go_simp; (try with_reducible rfl))
              clear hDn; have hDn := hDn'; clear hDn'
              simp only [Act.put, List.setIfInBounds_toArray, List.set_cons_zero, List.set_cons_succ]
              refine wpT_oneE (i := 26) rfl (by kernel_rfl) rfl (by kernel_rfl) hDn (fun K' hK => ?_)
              go_simp
              refine hK.out _ _ (fun hDn2 => ?_)
              clear hK K' hDn
              refine wpT_done (by kernel_rfl) ?_ _
              clear hDn2 aok aV aW
              go_wp2_with fail
              go_end0
              rw [← HNP.out]
              exact FIN.out
            · go_simp
              refine hK.out _ _ ((Kept.refl _ _).drew.alloc _) (fun hHeld2 hDn2 => ?_)
              clear hK K' hHeld hDn
              have hHeld := hHeld2; have hDn := hDn2
              clear hHeld2 hDn2
              obtain ⟨wb, hwb⟩ : ∃ wb, (wo.alloc (.cells #[.int .i64 id] 3)).drew = wb := ⟨_, rfl⟩
              obtain ⟨gb, hgb⟩ : ∃ gb, wo.heap.size = gb := ⟨_, rfl⟩
              have XB : Blk wb gb #[.int .i64 id] 3 := by rw [← hwb, ← hgb]; exact (Blk.new _ _ _).drew
              have KB : Same wo wb := by rw [← hwb]; exact ((Kept.refl _ _).alloc _).drew
              rw [hwb, hgb]
              have XB := Lib.hid XB
              have KB := Lib.hid KB
              clear hwb hgb
              refine wpT_one (i := 12) rfl (by kernel_rfl) hDn (fun K' hK => ?_)
              go_simp
              with_reducible refine (CN.out _ KB.out).mono ?_
              rintro e w9 ⟨⟨v, x', rfl, hv, e1, e2, e3⟩, k9⟩
              obtain ⟨a6, n6, c6, rfl, -, -, -⟩ := hv.rd2
              have K9 : Same wo w9 := KB.out.trans k9
              refine hK.out _ _ K9 (fun hHeld2 hDn2 => ?_)
              clear hK K' hHeld hDn
              have hHeld := hHeld2; have hDn := hDn2
              clear hHeld2 hDn2
              have hX : Blk w9 gb #[.int .i64 id] 3 := XB.out.kept k9 (fun q => q)
              have hks' := e3.rebase (Nat.le_trans HWO.out KB.out.size)
              obtain ⟨v', wY, hrun, hoY, hgr, -⟩ := run_appendE (P := Try.prog) w9 28 28 base 3 (.int .i64 0) 8 inE Try.underlying28 inInfo rfl (.slice ba bl bc) b.by_ (YBO.out.same K9) (some ⟨gb, 0, none⟩) 1 1 [id] rfl (elsAt_one hX rfl) (fun h => by cases h) (by unfold maxLen; have := HBN.out; simp; omega) (by have := HBN.out; simp; omega) (by have := HWO.out; have := (K9).size; omega)
              obtain ⟨a5, n5, c5, rfl, -, -, -⟩ := hoY.rd2
              have KYb : Kept (fun g => (Value.slice ba bl bc).ownBlock = some g) w9 wY := Kept.grown (Kept.refl _ _) hgr (fun g hg _ => hg)
              have BY := (BO.out.kept K9 (fun q => q)).kept KYb (fun q => by obtain ⟨cur, hb⟩ := (YBO.out.same K9).blk q; exact absurd (Blk.ty (BO.out.kept K9 (fun q => q)) hb) (by decide : 73 ≠ 3))
              have BY := Lib.hid BY
              have fY := fun i => Blk.free BY.out i
              have pY := cell_blk BY.out
              have zY := BY.out.lt
              have FIN := Lib.hid (show NotePo w base B M N b ⟨3, id, t, key, val, is⟩ (.returned (.tuple #[])) ((wY.setCell ⟨B, 2, none⟩ (.slice a6 n6 c6)).setCell ⟨B, 3, none⟩ (.slice a5 n5 c5)) from
                NS.out.fin3 ⟨KO.out.trans ((K9).mono (fun _ _ q => q.elim)), ⟨x', (hv.rebase (Nat.le_trans HWO.out KB.out.size)), e1, by rw [e2]; show Tk = (b.of id).keys; rw [HT.out], by show OwnE _ _ _ _ _ (b.of id).keys; rw [HT.out]; exact hks'⟩, by show Blk _ _ #[.int .i64 (b.of id).start, _, _, _] _; rw [HT.out]; exact PO.out.kept K9 (fun q => q), hgr, hoY⟩ rfl (by show (b.of id).keys ≠ []; rw [HT.out]; intro q; have h0 := HKN.out; dsimp only at q; rw [q] at h0; simp at h0; omega) rfl rfl)
              obtain ⟨aok, aV, aW⟩ := app_of hrun
              clear hrun hoY hgr KYb
              refine wpT_last rfl (by kernel_rfl) hDn (fun K hK => ?_)
              go_simp
              refine hK.out _ _ (fun hDn' => ?_)
              clear hK K hDn hHeld; have hDn := hDn'; clear hDn'
              refine wpT_takeE (i := 21) (t := 93) (v := ?_) rfl (by kernel_rfl) rfl rfl (by kernel_rfl) (by kernel_rfl) (by kernel_rfl) (fun _ _ _ h => h) (Or.inl ⟨by rfl, ?_⟩) hDn (fun hDn' => ?_)
              rotate_left
              · (intro w _; go_simp; (try with_reducible rfl))
              clear hDn; have hDn := hDn'; clear hDn'
              simp only [Act.put, List.setIfInBounds_toArray, List.set_cons_zero, List.set_cons_succ]
              refine wpT_takeE (i := 22) (t := 94) (v := ?_) rfl (by kernel_rfl) rfl rfl (by kernel_rfl) (by kernel_rfl) (by kernel_rfl) (fun _ _ _ h => h) (Or.inl ⟨by rfl, ?_⟩) hDn (fun hDn' => ?_)
              rotate_left
              · (intro w _; go_simp; (try with_reducible rfl))
              clear hDn; have hDn := hDn'; clear hDn'
              simp only [Act.put, List.setIfInBounds_toArray, List.set_cons_zero, List.set_cons_succ]
              refine wpT_oneE (i := 23) rfl (by kernel_rfl) rfl (by kernel_rfl) hDn (fun K' hK => ?_)
              go_simp
              refine hK.out _ _ (fun hDn2 => ?_)
              clear hK K' hDn
              have hDn := hDn2
              clear hDn2
              refine wpT_takeE (i := 24) (t := 95) (v := ?_) rfl (by kernel_rfl) rfl rfl (by kernel_rfl) (by kernel_rfl) (by kernel_rfl) (fun _ _ _ h => h) (Or.inl ⟨by rfl, ?_⟩) hDn (fun hDn' => ?_)
              rotate_left
              · (intro w _; go_simp; (try with_reducible rfl))
              clear hDn; have hDn := hDn'; clear hDn'
              simp only [Act.put, List.setIfInBounds_toArray, List.set_cons_zero, List.set_cons_succ]
              refine wpT_takeE (i := 25) (t := 96) (v := ?_) rfl (by kernel_rfl) rfl rfl (by kernel_rfl) (by kernel_rfl) (by kernel_rfl) (fun _ _ _ h => h) (Or.inl ⟨by rfl, ?_⟩) hDn (fun hDn' => ?_)
              rotate_left
              · (intro w _; go_simp; (try with_reducible rfl))
              clear hDn; have hDn := hDn'; clear hDn'
              simp only [Act.put, List.setIfInBounds_toArray, List.set_cons_zero, List.set_cons_succ]
              refine wpT_oneE (i := 26) rfl (by kernel_rfl) rfl (by kernel_rfl) hDn (fun K' hK => ?_)
              go_simp
              refine hK.out _ _ (fun hDn2 => ?_)
              clear hK K' hDn
              refine wpT_done (by kernel_rfl) ?_ _
              clear hDn2 aok aV aW
              go_wp2_with fail
              go_end0
              rw [← HNP.out]
              exact FIN.out
        · have n3 : ((k : Int) == 3) = false := by simp; omega
          have n4 : ((k : Int) == 4) = false := by simp; omega
          have n5 : ((k : Int) == 5) = false := by simp; omega
          have KP := Lib.hid (show NP (.returned (.tuple #[])) wn from by
            rw [← HNP.out]
            refine NS.out.fin (Kept.refl _ _) ?_ (fun q => k3 q.1)
            rw [noteE k0 k2 (by rintro (q | q | q); exact k3 q; exact k45 (.inl q); exact k45 (.inr q))]
            exact ⟨ka, kn, kc, NS.out.bp, NS.out.ks, NS.out.wr, NS.out.fp, NS.out.fm⟩)
          clear k0 k2 k45 k3
          go_wp2_with fail
          go_end0
          exact KP.out
end
end Go.Proofs.Ytaeiajodbpgbbaa
