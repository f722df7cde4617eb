/- What a transaction sees: by the log. -/
import Derived.Test.YtaeiajodbpgbbaaBk3
namespace Go.Proofs.Ytaeiajodbpgbbaa
open Go.RowKit Go.Sort Go.Shelf
attribute [local go_sem] Oper.semAt_some

theorem encW_getD (o : Option (List UInt8 × Bool)) (d : List UInt8 × Bool) : (o.map encW).getD (encW d) = encW (o.getD d) := by cases o <;> rfl
theorem by_at {w : World} {a : Option Addr} {l : List Int} (h : ElsAt inE w a l) {i : Nat} (hi : i < l.length) :
    ∃ b off, a = some ⟨b, off, none⟩ ∧ b < w.heap.size ∧ ∀ w', Same w w' → w'.cell? ⟨b, off + i, none⟩ = some (.int .i64 l[i]) := by
  obtain ⟨b, off, rfl, hb⟩ := h.there (fun e => by rw [e] at hi; simp at hi)
  refine ⟨b, off, rfl, hb, fun w' k => ?_⟩
  have := (h.same k).get (List.getElem?_eq_getElem hi) 0 (u := .int .i64 l[i]) rfl
  rw [show inE.n = 1 from rfl, Nat.mul_one, Nat.add_zero] at this
  exact this
theorem revF_val (n : Nat) : (revF n).map (·.1) = (List.range n).reverse := by
  unfold revF
  rw [List.map_reverse]
  congr 1
  apply List.ext_getElem
  · simp
  · intro i h1 h2
    simp
theorem find_first {n : Nat} {P : Nat → Bool} {p0 : List (Fin n)} {x : Fin n} (h : p0 ++ [x] <+: revF n) (h0 : ∀ i ∈ p0, P i.1 = false) (h1 : P x.1 = true) : (List.range n).reverse.find? P = some x.1 := by
  obtain ⟨r, hr⟩ := h
  rw [← revF_val, ← hr]
  simp only [List.map_append, List.find?_append, List.map_cons, List.map_nil]
  rw [show (p0.map (·.1)).find? P = none from List.find?_eq_none.2 (fun a ha => by obtain ⟨i, hi, rfl⟩ := List.mem_map.1 ha; simp [h0 i hi])]
  simp [h1]
theorem find_none {n : Nat} {P : Nat → Bool} (h0 : ∀ i ∈ revF n, P i.1 = false) : (List.range n).reverse.find? P = none := by
  rw [← revF_val]
  exact List.find?_eq_none.2 (fun a ha => by obtain ⟨i, hi, rfl⟩ := List.mem_map.1 ha; simp [h0 i hi])
/-- A round has found the entry. -/
def SeeX (w : World) (y : Nat) (b : HBk) (t : HTx) (key : List UInt8) (L : List HEl) (c : Code) (pre : List (Fin L.length)) (W : World) : Prop := ∃ (p0 : List (Fin L.length)) (x : Fin L.length) (u0 : List UInt8) (u1 : Bool), pre = p0 ++ [x] ∧ (∀ i ∈ p0, seeP b.log t.start key i.1 = false) ∧ seeP b.log t.start key x.1 = true ∧ c = .ret ∧ ((b.of (b.by_.getD x.1 0)).wrote key).getD ([], false) = (u0, u1) ∧ Blk W (y + 1 + 1 + 1) #[encStr u0, .bool u1] 83 ∧ Below w.heap.size w W
set_option maxRecDepth 100000 in
set_option maxHeartbeats 4000000 in
theorem see_log {w : World} {base base' B M p m N : Nat} {pb pm : Int → Nat} {b : HBk} {t : HTx} (hB : BkIn w base B M pb pm b N) (hN : N ≤ 100) (h : TxIn w base' p m t) (key : List UInt8) (hv : t.wrote key = none) :
    Calls Try.prog 37 #[.pointer (some ⟨B, 0, none⟩), .pointer (some ⟨p, 0, none⟩), encStr key] w fun e w' => e = .returned (encW (b.seeL t key)) ∧ Same w w' := by
  obtain ⟨ka, kn, kc, h1, -, h3, -, -⟩ := h
  have HB := Lib.hid h1; have HM := Lib.hid h3; have HV := Lib.hid hv; have HK := Lib.hid hB
  obtain ⟨la, ll, lc, ba, bl, bc, L, g1, g2, g3, g4, g5⟩ := hB.box
  have GB := Lib.hid g1; have GL := Lib.hid g2; have GM := Lib.hid g3; have GK := Lib.hid g4; have GY := Lib.hid g5
  clear h1 h3 hv hB g1 g2 g3 g4 g5
  obtain ⟨v, hv⟩ : ∃ v, b.seeL t key = v := ⟨_, rfl⟩
  rw [hv]
  have HVV := Lib.hid hv
  clear hv
  obtain ⟨v0, v1⟩ := v
  show Calls Try.prog 37 #[.pointer (some ⟨B, 0, none⟩), .pointer (some ⟨p, 0, none⟩), encStr key] w fun e w' => e = .returned (.agg #[encStr v0, .bool v1]) ∧ Same w w'
  refine calls_np 4 Try.func37 rfl ?_
  simp only [Try.ntmps37, List.size_toArray, List.length_cons, List.length_nil, Nat.reduceAdd, Nat.reduceSub, Array.replicate_succ, Array.replicate_zero, List.push_toArray, List.append_toArray, List.nil_append, List.cons_append]
  go_upto_region 1 with fail
  obtain ⟨y, hy⟩ : ∃ y, w.heap.size = y := ⟨_, rfl⟩
  rw [hy]
  refine cutWl (fun wn => Fr wn [(y + 1 + 1 + 1, #[encStr [], .bool false], 83), (y + 1 + 1, #[encStr key], 9), (y + 1, #[.pointer (some ⟨p, 0, none⟩)], 74), (y, #[.pointer (some ⟨B, 0, none⟩)], 56)] ∧ Same w wn ∧ y + 4 ≤ wn.heap.size) ⟨⟨Blk.new' _ _ _ (by simp [hy]), (Blk.new' _ _ _ (by simp [hy])).alloc _, ((Blk.new' _ _ _ (by simp [hy])).alloc _).alloc _, (((Blk.new' _ _ _ hy.symm).alloc _).alloc _).alloc _, trivial⟩, ((((Kept.refl _ _).alloc _).alloc _).alloc _).alloc _, by simp [hy]⟩ ?_
  rintro w4 ⟨hf4, k4, hz4⟩
  have F4 := Lib.hid hf4
  have K4 := Lib.hid k4
  have HY := Lib.hid hy
  have HZ := Lib.hid hz4
  clear hf4 k4 hy hz4
  have QX := Lib.hid (show ∀ w', Same w4 w' → (∀ i, w'.cell? ⟨y + 1, i, none⟩ = (#[Value.pointer (some ⟨p, 0, none⟩)] : Array Value)[i]?) ∧ (∀ i, w'.cell? ⟨p, i, none⟩ = (#[.int .i64 t.start, .bool t.live, .slice ka kn kc, .map (some m)] : Array Value)[i]?) ∧ (∀ i, w'.cell? ⟨y + 1 + 1, i, none⟩ = (#[encStr key] : Array Value)[i]?) ∧ (Instr.lookup 79 (.map (some m)) (encStr key) true).run Try.prog w' = .ok (.tuple #[.agg #[encStr [], .bool false], .bool false]) w' from fun w' k => by
    have F := F4.out.same k
    refine ⟨cell_blk F.2.2.1, cell_blk (HB.out.kept (K4.out.trans k) (fun h => h)), cell_blk F.2.1, ?_⟩
    have hlk := MapK.look (P := Try.prog) (HM.out.same (K4.out.trans k)) Try.underlying79 Try.underlying9 key (zero_wr w') true
    rw [HV.out, if_pos rfl] at hlk
    exact hlk)
  refine wp_region_T (S := fun w' => Same w4 w') 11 (by kernel_rfl) (Kept.refl _ _).drew (fun hHeld hDn => ?_)
  refine wpT_takeU2 (i := 0) (t := 12) (v := ?_) rfl rfl rfl (by kernel_rfl) (by kernel_rfl) (by kernel_rfl) (by kernel_rfl) (fun _ _ _ h => h) (Or.inl ⟨by rfl, ?_⟩) hHeld hDn (fun hDn' => ?_)
  rotate_left
  · (intro w hSw; have hQX := QX.out w hSw; obtain ⟨s1, s2, s3, s4⟩ := hQX; go_simp; (try with_reducible rfl))
  clear hDn; have hDn := hDn'; clear hDn'
  simp only [Act.put, List.setIfInBounds_toArray, List.set_cons_zero, List.set_cons_succ]
  refine wpT_takeU2 (i := 1) (t := 13) (v := ?_) rfl rfl rfl (by kernel_rfl) (by kernel_rfl) (by kernel_rfl) (by kernel_rfl) (fun _ _ _ h => h) (Or.inl ⟨by rfl, ?_⟩) hHeld hDn (fun hDn' => ?_)
  rotate_left
  · (intro w hSw; have hQX := QX.out w hSw; obtain ⟨s1, s2, s3, s4⟩ := hQX; go_simp; (try with_reducible rfl))
  clear hDn; have hDn := hDn'; clear hDn'
  simp only [Act.put, List.setIfInBounds_toArray, List.set_cons_zero, List.set_cons_succ]
  refine wpT_takeU2 (i := 2) (t := 14) (v := ?_) rfl rfl rfl (by kernel_rfl) (by kernel_rfl) (by kernel_rfl) (by kernel_rfl) (fun _ _ _ h => h) (Or.inl ⟨by rfl, ?_⟩) hHeld hDn (fun hDn' => ?_)
  rotate_left
  · (intro w hSw; have hQX := QX.out w hSw; obtain ⟨s1, s2, s3, s4⟩ := hQX; go_simp; (try with_reducible rfl))
  clear hDn; have hDn := hDn'; clear hDn'
  simp only [Act.put, List.setIfInBounds_toArray, List.set_cons_zero, List.set_cons_succ]
  refine wpT_takeU2 (i := 3) (t := 15) (v := ?_) rfl rfl rfl (by kernel_rfl) (by kernel_rfl) (by kernel_rfl) (by kernel_rfl) (fun _ _ _ h => h) (Or.inl ⟨by rfl, ?_⟩) hHeld hDn (fun hDn' => ?_)
  rotate_left
  · (intro w hSw; have hQX := QX.out w hSw; obtain ⟨s1, s2, s3, s4⟩ := hQX; go_simp; (try with_reducible rfl))
  clear hDn; have hDn := hDn'; clear hDn'
  simp only [Act.put, List.setIfInBounds_toArray, List.set_cons_zero, List.set_cons_succ]
  refine wpT_takeU2 (i := 4) (t := 16) (v := ?_) rfl rfl rfl (by kernel_rfl) (by kernel_rfl) (by kernel_rfl) (by kernel_rfl) (fun _ _ _ h => h) (Or.inl ⟨by rfl, ?_⟩) hHeld hDn (fun hDn' => ?_)
  rotate_left
  · (intro w hSw; have hQX := QX.out w hSw; obtain ⟨s1, s2, s3, s4⟩ := hQX; go_simp; (try with_reducible rfl))
  clear hDn; have hDn := hDn'; clear hDn'
  simp only [Act.put, List.setIfInBounds_toArray, List.set_cons_zero, List.set_cons_succ]
  refine wpT_takeU2 (i := 5) (t := 17) (v := ?_) rfl rfl rfl (by kernel_rfl) (by kernel_rfl) (by kernel_rfl) (by kernel_rfl) (fun _ _ _ h => h) (Or.inl ⟨by rfl, ?_⟩) hHeld hDn (fun hDn' => ?_)
  rotate_left
  · (intro w hSw; have hQX := QX.out w hSw; obtain ⟨s1, s2, s3, s4⟩ := hQX; go_simp; (try with_reducible rfl))
  clear hDn; have hDn := hDn'; clear hDn'
  simp only [Act.put, List.setIfInBounds_toArray, List.set_cons_zero, List.set_cons_succ]
  refine wpT_takeU2 (i := 6) (t := 11) (v := ?_) rfl rfl rfl (by kernel_rfl) (by kernel_rfl) (by kernel_rfl) (by kernel_rfl) (fun _ _ _ h => h) (Or.inl ⟨by rfl, ?_⟩) hHeld hDn (fun hDn' => ?_)
  rotate_left
  · (intro w hSw; have hQX := QX.out w hSw; obtain ⟨s1, s2, s3, s4⟩ := hQX; go_simp; (try with_reducible rfl))
  clear hDn; have hDn := hDn'; clear hDn'
  simp only [Act.put, List.setIfInBounds_toArray, List.set_cons_zero, List.set_cons_succ]
  refine wpT_takeU2 (i := 7) (t := 18) (v := ?_) rfl rfl rfl (by kernel_rfl) (by kernel_rfl) (by kernel_rfl) (by kernel_rfl) (fun _ _ _ h => h) (Or.inl ⟨by rfl, ?_⟩) hHeld hDn (fun hDn' => ?_)
  rotate_left
  · (intro w hSw; have hQX := QX.out w hSw; obtain ⟨s1, s2, s3, s4⟩ := hQX; go_simp; (try with_reducible rfl))
  clear hDn; have hDn := hDn'; clear hDn'
  simp only [Act.put, List.setIfInBounds_toArray, List.set_cons_zero, List.set_cons_succ]
  refine wpT_takeU2 (i := 8) (t := 19) (v := ?_) rfl rfl rfl (by kernel_rfl) (by kernel_rfl) (by kernel_rfl) (by kernel_rfl) (fun _ _ _ h => h) (Or.inl ⟨by rfl, ?_⟩) hHeld hDn (fun hDn' => ?_)
  rotate_left
  · (intro w hSw; have hQX := QX.out w hSw; obtain ⟨s1, s2, s3, s4⟩ := hQX; go_simp; (try with_reducible rfl))
  clear hDn; have hDn := hDn'; clear hDn'
  simp only [Act.put, List.setIfInBounds_toArray, List.set_cons_zero, List.set_cons_succ]
  refine wpT_one (i := 9) rfl (by kernel_rfl) hDn (fun K' hK => ?_)
  go_simp
  refine hK.out _ _ ?_ (fun hHeld2 hDn2 => ?_)
  · exact ((Kept.refl _ _).drew).alloc _
  clear hK K' hHeld hDn
  have hHeld := hHeld2; have hDn := hDn2
  clear hHeld2 hDn2
  refine wpT_one (i := 10) rfl (by kernel_rfl) hDn (fun K' hK => ?_)
  go_simp
  refine hK.out _ _ ?_ (fun hHeld2 hDn2 => ?_)
  · exact ((Kept.refl _ _).alloc _).drew
  clear hK K' hHeld hDn
  have hHeld := hHeld2; have hDn := hDn2
  clear hHeld2 hDn2
  refine wpT_last rfl (by kernel_rfl) hDn (fun K hK => ?_)
  go_simp
  refine hK.out _ _ (fun hDn' => ?_)
  clear hK K hDn hHeld; have hDn := hDn'; clear hDn'
  refine wpT_done (by kernel_rfl) ?_ _
  obtain ⟨z, hz⟩ : ∃ z, w4.heap.size = z := ⟨_, rfl⟩
  rw [hz]
  refine cutE (fun wn => Fr wn [(z, #[encStr [], .bool false], 83), (y + 1 + 1 + 1, #[encStr [], .bool false], 83), (y + 1 + 1, #[encStr key], 9), (y + 1, #[.pointer (some ⟨p, 0, none⟩)], 74), (y, #[.pointer (some ⟨B, 0, none⟩)], 56)] ∧ Same w4 wn) ⟨⟨Blk.new' w4 _ _ hz.symm, F4.out.same (((Kept.refl _ _).alloc _).drew)⟩, ((Kept.refl _ _).alloc _).drew⟩ ?_
  rintro w5 ⟨hf5, k5⟩
  have F5 := Lib.hid hf5
  have K5 := Lib.hid k5
  have HZ2 := Lib.hid hz
  obtain ⟨p5, f5, p4, f4, p3, f3, p2, f2, p1, f1, -⟩ := F5.out.rules
  have z5 := F5.out.1.lt
  have z4 := F5.out.2.1.lt
  clear hf5 k5 hz F4 hDn
  clear QX
  have q0 := cell_blk (GB.out.kept (K4.out.trans K5.out) (fun h => h))
  have zB : B < w5.heap.size := (GB.out.kept (K4.out.trans K5.out) (fun h => h)).lt
  have MK := Lib.hid (bw_make la ll lc w5)
  go_wp2_with fail
  with_reducible refine MK.out.mono ?_
  rintro e w6 ⟨rfl, hw6⟩
  have F6 := Lib.hid (show Fr w6 [(w5.heap.size, #[.slice la ll lc], 71), (y + 1 + 1 + 1, #[encStr [], .bool false], 83), (y + 1 + 1, #[encStr key], 9), (y + 1, #[.pointer (some ⟨p, 0, none⟩)], 74), (y, #[.pointer (some ⟨B, 0, none⟩)], 56)] from by
    rw [hw6]
    exact ⟨Blk.new w5 _ _, (F5.out.same ((Kept.refl _ _).alloc _)).2⟩)
  have K6 := Lib.hid (show Same w w6 from by rw [hw6]; exact (K4.out.trans K5.out).alloc _)
  obtain ⟨s, hs⟩ : ∃ s, w5.heap.size = s := ⟨_, rfl⟩
  have HS := Lib.hid (show w6.heap.size = s + 1 ∧ y + 5 ≤ s ∧ s = w5.heap.size from by
    have h1 := HZ.out; have h2 := HZ2.out
    refine ⟨by rw [hw6]; simp [hs], by omega, hs.symm⟩)
  rw [hs] at F6 ⊢
  clear hw6 hs MK F5 K5 K4 q0 p5 f5 p4 f4 p3 f3 p2 f2 p1 f1 z5 z4 zB HZ HZ2
  go_wp2_with fail
  have h6s := HS.out.1
  have hys := HS.out.2.1
  have hyw := HY.out
  have LEN := Lib.hid (show L.length = b.log.length from by rw [← GM.out, List.length_map])
  have h100 : L.length ≤ 100 := by rw [LEN.out]; have := HK.out.ll; omega
  have GET := Lib.hid (show ∀ x : Fin L.length, b.log.getD x.1 (0, []) = ((L.get x).t, (L.get x).ks) from fun x => by rw [← GM.out]; simp [List.getD])
  refine (wpIn_wide (n := 4)).1 ?_
  refine wpIn_rangeFunc_ownH rfl (by omega) (gf := 59) (lb := #[.pointer (some ⟨s, 0, none⟩)]) rfl trivial (enters_of Try.func59 (by kernel_rfl) rfl)
    (bw_stops 3 (by omega) s (s + 1) (.slice la ll lc) L (by omega) w6 (by omega) (by omega) base (GL.out.same K6.out) (fun g hg => by have := (GL.out.far g hg).2; omega) (F6.out.1.cell 0 rfl)) belowK_t (belowK_b (by omega)) (Below.refl _ _) (fun _ => rfl)
    (fun pre W => (∀ i ∈ pre, seeP b.log t.start key i.1 = false) ∧ Below (s + 1) w6 W)
    (fun c pre W => SeeX w y b t key L c pre W)
    (OwnFrom.and (ownFrom_pure _ _) (ownFrom_below (by omega) (by omega)))
    (fun c pre W W' row hs hg hr => by
      obtain ⟨p0, x, u0, u1, e1, e2, e3, e4, e5, e6, e7⟩ := hs
      refine ⟨p0, x, u0, u1, e1, e2, e3, e4, e5, ?_, ownFrom_below (β := Unit) (Nat.le_refl _) (by omega) () W W' row e7 hg hr⟩
      exact (hg.block _ e6.lt (fun q => by obtain ⟨_, o, ho, hc⟩ := hr _ q.symm; rw [show W.heap[_]? = _ from e6] at ho; cases ho; cases hc)).trans e6)
    ⟨by simp, Below.refl _ _⟩
    (fun x a' W => ∃ Bx, s < Bx ∧ Blk W Bx #[.int .i64 (L.get x).t, .slice (L.get x).a (L.get x).n (L.get x).c] 92 ∧ a' = { tmps := #[.pointer (some ⟨B, 0, none⟩), .pointer (some ⟨p, 0, none⟩), encStr key, .pointer (some ⟨y, 0, none⟩), .pointer (some ⟨y + 1, 0, none⟩), .pointer (some ⟨y + 1 + 1, 0, none⟩), .pointer (some ⟨y + 1 + 1 + 1, 0, none⟩), .pointer (some ⟨z, 0, none⟩), .bool false, .int .i64 ((x.1 : Nat) : Int), .pointer (some ⟨Bx, 0, none⟩), .tuple #[.agg #[encStr [], .bool false], .bool false], .pointer (some ⟨p, 0, none⟩), .pointer (some ⟨p, 0, none⟩), .pointer (some ⟨p, 3, none⟩), .map (some m), encStr key, .tuple #[.agg #[encStr [], .bool false], .bool false], .agg #[encStr [], .bool false], .bool false, .bool false, undef, .pointer (some ⟨B, 0, none⟩), .pointer (some ⟨B, 0, none⟩), .pointer (some ⟨B, 2, none⟩), .slice la ll lc, .func (.func 59) #[] #[.pointer (some ⟨s, 0, none⟩)], .int .i64 ((x.1 : Nat) : Int), .agg #[.int .i64 (L.get x).t, .slice (L.get x).a (L.get x).n (L.get x).c], undef, undef, undef, undef, undef, undef, undef, undef, undef, undef, undef, undef, undef, undef, undef, undef, undef, undef, undef, undef, undef, undef, undef, undef, undef, undef, undef, undef, undef, undef, undef], defers := [] })
    (fun x a' _ X Y row hs hg hr => by
      obtain ⟨Bx, e1, e2, e3⟩ := hs
      exact ⟨Bx, e1, (hg.block _ e2.lt (fun q => by obtain ⟨_, o, ho, hc⟩ := hr _ q.symm; rw [show X.heap[_]? = _ from e2] at ho; cases ho; cases hc)).trans e2, e3⟩)
    ?assign ?body ?done ?stop
  case assign =>
    rintro l pre x W K ⟨hp, hB1⟩ hK
    have hsz := hB1.size
    simp only [encX]
    gi_wp2
    exact hK _ _ ((KeepsOthers.alloc _ _).from _) ((Below.refl _ W).alloc (by omega) _) ⟨hp, hB1.alloc (by omega) _⟩ ⟨W.heap.size, by omega, Blk.new W _ _, rfl⟩
  case body =>
    rintro l pre x a' W hl hr ⟨hp, hB1⟩ ⟨Bx, hBx, bX, rfl⟩ hlt
    have HP := Lib.hid hp
    have hsz := hB1.size
    have k6 : Same w6 W := Kept.of_below (by rw [h6s]; exact hB1)
    have KW := Lib.hid (K6.out.trans k6)
    have FW := Lib.hid (F6.out.same k6)
    have B1 := Lib.hid hB1
    have BX := Lib.hid bX
    have SP := Lib.hid (show seeP b.log t.start key x.1 = (decide ((L.get x).t ≤ t.start) && decide (key ∈ (L.get x).ks)) from by unfold seeP; rw [GET.out x])
    have KE := Lib.hid (GK.out (L.get x) (List.get_mem L x))
    clear hp hB1 bX k6 hr
    obtain ⟨E, hE⟩ : ∃ E, L.get x = E := ⟨_, rfl⟩
    rw [hE] at SP KE BX
    have HCO := Lib.hid (fun w' (k : Same w w') => co_str E.a E.n E.c E.ks KE.out.1.at.2 (by have := KE.out.1.at.2; have := KE.out.2; omega) key w' (KE.out.1.at.1.same k))
    have QX := Lib.hid (show ∀ w', Same W w' → (∀ i, w'.cell? ⟨Bx, i, none⟩ = (#[.int .i64 E.t, .slice E.a E.n E.c] : Array Value)[i]?) ∧ (∀ i, w'.cell? ⟨y + 1, i, none⟩ = (#[Value.pointer (some ⟨p, 0, none⟩)] : Array Value)[i]?) ∧ (∀ i, w'.cell? ⟨p, i, none⟩ = (#[.int .i64 t.start, .bool t.live, .slice ka kn kc, .map (some m)] : Array Value)[i]?) ∧ (∀ i, w'.cell? ⟨y + 1 + 1, i, none⟩ = (#[encStr key] : Array Value)[i]?) from fun w' k => by
      have F := FW.out.same k
      exact ⟨cell_blk (BX.out.kept k (fun h => h)), cell_blk F.2.2.2.1, cell_blk (HB.out.kept (KW.out.trans k) (fun h => h)), cell_blk F.2.2.1⟩)
    simp only [hE]
    have XI := Lib.hid x.2
    obtain ⟨xi, hxi⟩ : ∃ xi, x.1 = xi := ⟨_, rfl⟩
    have XE := Lib.hid hxi
    rw [hxi] at SP XI
    have XH := Lib.hid hE
    simp only [hxi]
    clear hE hxi
    gi_wp2_with fail
    refine wpIn_region_T (S := fun w' => Same W w') 12 (by kernel_rfl) (by kernel_rfl) (fun _ _ h => h) (Kept.refl _ _).drew (fun hHeld hDn => ?_)
    refine wpT_take (i := 0) (t := 29) (v := ?_) rfl rfl rfl (by kernel_rfl) (by kernel_rfl) (by kernel_rfl) (by kernel_rfl) (fun _ _ _ h => h) (Or.inl ⟨by rfl, ?_⟩) hHeld hDn (fun hDn' => ?_)
    rotate_left
    · (intro w hSw; have hQX := QX.out w hSw; obtain ⟨s1, s2, s3, s4⟩ := hQX; go_simp; (try with_reducible rfl))
    clear hDn; have hDn := hDn'; clear hDn'
    simp only [Act.put, List.setIfInBounds_toArray, List.set_cons_zero, List.set_cons_succ]
    refine wpT_take (i := 1) (t := 30) (v := ?_) rfl rfl rfl (by kernel_rfl) (by kernel_rfl) (by kernel_rfl) (by kernel_rfl) (fun _ _ _ h => h) (Or.inl ⟨by rfl, ?_⟩) hHeld hDn (fun hDn' => ?_)
    rotate_left
    · (intro w hSw; have hQX := QX.out w hSw; obtain ⟨s1, s2, s3, s4⟩ := hQX; go_simp; (try with_reducible rfl))
    clear hDn; have hDn := hDn'; clear hDn'
    simp only [Act.put, List.setIfInBounds_toArray, List.set_cons_zero, List.set_cons_succ]
    refine wpT_take (i := 2) (t := 31) (v := ?_) rfl rfl rfl (by kernel_rfl) (by kernel_rfl) (by kernel_rfl) (by kernel_rfl) (fun _ _ _ h => h) (Or.inl ⟨by rfl, ?_⟩) hHeld hDn (fun hDn' => ?_)
    rotate_left
    · (intro w hSw; have hQX := QX.out w hSw; obtain ⟨s1, s2, s3, s4⟩ := hQX; go_simp; (try with_reducible rfl))
    clear hDn; have hDn := hDn'; clear hDn'
    simp only [Act.put, List.setIfInBounds_toArray, List.set_cons_zero, List.set_cons_succ]
    refine wpT_take (i := 3) (t := 32) (v := ?_) rfl rfl rfl (by kernel_rfl) (by kernel_rfl) (by kernel_rfl) (by kernel_rfl) (fun _ _ _ h => h) (Or.inl ⟨by rfl, ?_⟩) hHeld hDn (fun hDn' => ?_)
    rotate_left
    · (intro w hSw; have hQX := QX.out w hSw; obtain ⟨s1, s2, s3, s4⟩ := hQX; go_simp; (try with_reducible rfl))
    clear hDn; have hDn := hDn'; clear hDn'
    simp only [Act.put, List.setIfInBounds_toArray, List.set_cons_zero, List.set_cons_succ]
    refine wpT_take (i := 4) (t := 33) (v := ?_) rfl rfl rfl (by kernel_rfl) (by kernel_rfl) (by kernel_rfl) (by kernel_rfl) (fun _ _ _ h => h) (Or.inl ⟨by rfl, ?_⟩) hHeld hDn (fun hDn' => ?_)
    rotate_left
    · (intro w hSw; have hQX := QX.out w hSw; obtain ⟨s1, s2, s3, s4⟩ := hQX; go_simp; (try with_reducible rfl))
    clear hDn; have hDn := hDn'; clear hDn'
    simp only [Act.put, List.setIfInBounds_toArray, List.set_cons_zero, List.set_cons_succ]
    refine wpT_take (i := 5) (t := 34) (v := ?_) rfl rfl rfl (by kernel_rfl) (by kernel_rfl) (by kernel_rfl) (by kernel_rfl) (fun _ _ _ h => h) (Or.inl ⟨by rfl, ?_⟩) hHeld hDn (fun hDn' => ?_)
    rotate_left
    · (intro w hSw; have hQX := QX.out w hSw; obtain ⟨s1, s2, s3, s4⟩ := hQX; go_simp; (try with_reducible rfl))
    clear hDn; have hDn := hDn'; clear hDn'
    simp only [Act.put, List.setIfInBounds_toArray, List.set_cons_zero, List.set_cons_succ]
    by_cases q : E.t ≤ t.start
    · have d1 : decide (E.t ≤ t.start) = true := decide_eq_true q
      refine wpT_take (i := 6) (t := 35) (v := ?_) rfl rfl rfl (by kernel_rfl) (by kernel_rfl) (by kernel_rfl) (by kernel_rfl) (fun _ _ _ h => h) (Or.inl ⟨by rfl, ?_⟩) hHeld hDn (fun hDn' => ?_)
      rotate_left
      · (intro w hSw; have hQX := QX.out w hSw; obtain ⟨s1, s2, s3, s4⟩ := hQX; go_simp; (try with_reducible rfl))
      clear hDn; have hDn := hDn'; clear hDn'
      simp only [Act.put, List.setIfInBounds_toArray, List.set_cons_zero, List.set_cons_succ]
      refine wpT_take (i := 7) (t := 36) (v := ?_) rfl rfl rfl (by kernel_rfl) (by kernel_rfl) (by kernel_rfl) (by kernel_rfl) (fun _ _ _ h => h) (Or.inl ⟨by rfl, ?_⟩) hHeld hDn (fun hDn' => ?_)
      rotate_left
      · (intro w hSw; have hQX := QX.out w hSw; obtain ⟨s1, s2, s3, s4⟩ := hQX; go_simp; (try with_reducible rfl))
      clear hDn; have hDn := hDn'; clear hDn'
      simp only [Act.put, List.setIfInBounds_toArray, List.set_cons_zero, List.set_cons_succ]
      refine wpT_take (i := 8) (t := 37) (v := ?_) rfl rfl rfl (by kernel_rfl) (by kernel_rfl) (by kernel_rfl) (by kernel_rfl) (fun _ _ _ h => h) (Or.inl ⟨by rfl, ?_⟩) hHeld hDn (fun hDn' => ?_)
      rotate_left
      · (intro w hSw; have hQX := QX.out w hSw; obtain ⟨s1, s2, s3, s4⟩ := hQX; go_simp; (try with_reducible rfl))
      clear hDn; have hDn := hDn'; clear hDn'
      simp only [Act.put, List.setIfInBounds_toArray, List.set_cons_zero, List.set_cons_succ]
      refine wpT_take (i := 9) (t := 38) (v := ?_) rfl rfl rfl (by kernel_rfl) (by kernel_rfl) (by kernel_rfl) (by kernel_rfl) (fun _ _ _ h => h) (Or.inl ⟨by rfl, ?_⟩) hHeld hDn (fun hDn' => ?_)
      rotate_left
      · (intro w hSw; have hQX := QX.out w hSw; obtain ⟨s1, s2, s3, s4⟩ := hQX; go_simp; (try with_reducible rfl))
      clear hDn; have hDn := hDn'; clear hDn'
      simp only [Act.put, List.setIfInBounds_toArray, List.set_cons_zero, List.set_cons_succ]
      refine wpT_take (i := 10) (t := 39) (v := ?_) rfl rfl rfl (by kernel_rfl) (by kernel_rfl) (by kernel_rfl) (by kernel_rfl) (fun _ _ _ h => h) (Or.inl ⟨by rfl, ?_⟩) hHeld hDn (fun hDn' => ?_)
      rotate_left
      · (intro w hSw; have hQX := QX.out w hSw; obtain ⟨s1, s2, s3, s4⟩ := hQX; go_simp; (try with_reducible rfl))
      clear hDn; have hDn := hDn'; clear hDn'
      simp only [Act.put, List.setIfInBounds_toArray, List.set_cons_zero, List.set_cons_succ]
      refine wpT_one (i := 11) rfl (by kernel_rfl) hDn (fun K' hK => ?_)
      go_simp
      with_reducible refine (HCO.out _ (KW.out.drew)).mono ?_
      rintro e w8 ⟨rfl, hw8⟩
      subst hw8
      refine hK.out _ _ ?_ (fun hHeld2 hDn2 => ?_)
      · exact (Kept.refl _ _).drew
      clear hK K' hHeld hDn
      have hHeld := hHeld2; have hDn := hDn2
      clear hHeld2 hDn2
      refine wpT_last rfl (by kernel_rfl) hDn (fun K hK => ?_)
      go_simp
      refine hK.out _ _ (fun hDn' => ?_)
      clear hK K hDn hHeld; have hDn := hDn'; clear hDn'
      refine wpT_done (by kernel_rfl) ?_ _
      clear hDn
      by_cases qk : key ∈ E.ks
      · have d2 : decide (key ∈ E.ks) = true := decide_eq_true qk
        have ST := Lib.hid (show seeP b.log t.start key xi = true from by rw [SP.out, d1, d2]; rfl)
        rw [d2]
        clear qk d2 SP HCO q d1
        gi_wp2_with fail
        clear QX
        obtain ⟨id, hid⟩ : ∃ id, b.by_.getD xi 0 = id := ⟨_, rfl⟩
        have hxb : xi < b.by_.length := by rw [HK.out.lb, ← LEN.out]; exact XI.out
        have hgid : b.by_[xi] = id := by rw [← hid]; simp [List.getD, hxb]
        obtain ⟨ti, hti⟩ : ∃ ti, b.txns id = some ti := by
          have := HK.out.kn id (hgid ▸ List.getElem_mem hxb)
          exact Option.isSome_iff_exists.1 this
        obtain ⟨bb, boff, rfl, hbb, hbc⟩ := by_at GY.out.at.1 hxb
        obtain ⟨⟨ka2, kn2, kc2, x1, -, x3, -, -⟩, -⟩ := HK.out.tx id ti hti
        obtain ⟨u, hu⟩ : ∃ u, (ti.wrote key).getD ([], false) = u := ⟨_, rfl⟩
        obtain ⟨u0, u1⟩ := u
        have QX := Lib.hid (show ∀ w', Same W w' → (∀ i, w'.cell? ⟨y, i, none⟩ = (#[Value.pointer (some ⟨B, 0, none⟩)] : Array Value)[i]?) ∧ (∀ i, w'.cell? ⟨B, i, none⟩ = (#[.int .i64 b.top, .map (some M), .slice la ll lc, .slice (some ⟨bb, boff, none⟩) bl bc] : Array Value)[i]?) ∧ w'.cell? ⟨bb, boff + xi, none⟩ = some (.int .i64 id) ∧ (Instr.lookup 70 (.map (some M)) (.int .i64 id) false).run Try.prog w' = .ok (.pointer (some ⟨pb id, 0, none⟩)) w' ∧ (∀ i, w'.cell? ⟨pb id, i, none⟩ = (#[.int .i64 ti.start, .bool ti.live, .slice ka2 kn2 kc2, .map (some (pm id))] : Array Value)[i]?) ∧ (∀ i, w'.cell? ⟨y + 1 + 1, i, none⟩ = (#[encStr key] : Array Value)[i]?) ∧ (Instr.lookup 79 (.map (some (pm id))) (encStr key) false).run Try.prog w' = .ok (.agg #[encStr u0, .bool u1]) w' from fun w' k => by
          have F := FW.out.same k
          have kk := KW.out.trans k
          refine ⟨cell_blk F.2.2.2.2.1, cell_blk (GB.out.kept kk (fun h => h)), ?_, ?_, cell_blk (x1.kept kk (fun h => h)), cell_blk F.2.2.1, ?_⟩
          · rw [← hgid]; exact hbc _ kk
          · have hlk := MapK.look (P := Try.prog) (HK.out.map.same kk) Try.underlying70 Try.underlying3 id (zero_ptr w') false
            rw [hti, if_neg (by decide)] at hlk
            exact hlk
          · have hlk := MapK.look (P := Try.prog) (x3.same kk) Try.underlying79 Try.underlying9 key (zero_wr w') false
            rw [if_neg (by decide), encW_getD, hu] at hlk
            exact hlk)
        have UE := Lib.hid (show ((b.of (b.by_.getD x.1 0)).wrote key).getD ([], false) = (u0, u1) from by rw [XE.out, hid, show b.of id = ti from by unfold HBk.of; rw [hti]; rfl, hu])
        have gbl : (xi : Int) < (bl : Int) := by have := GY.out.at.2; omega
        have g0 : (0 : Int) ≤ (xi : Int) := by omega
        have pR := cell_blk FW.out.2.1
        have fR := fun i => Blk.free FW.out.2.1 i
        clear hid hgid hxb hti hbc x1 x3 hu hbb
        generalize pb id = pi at *
        generalize pm id = mi at *
        refine wpIn_region_T (S := fun w' => Same W w') 17 (by kernel_rfl) (by kernel_rfl) (fun _ _ h => h) (Kept.refl _ _).drew.drew (fun hHeld hDn => ?_)
        refine wpT_takeU2 (i := 0) (t := 42) (v := ?_) rfl rfl rfl (by kernel_rfl) (by kernel_rfl) (by kernel_rfl) (by kernel_rfl) (fun _ _ _ h => h) (Or.inl ⟨by rfl, ?_⟩) hHeld hDn (fun hDn' => ?_)
        rotate_left
        · (intro w hSw; have hQX := QX.out w hSw; obtain ⟨s1, s2, s3, s4, s5, s6, s7⟩ := hQX; go_simp; (try with_reducible rfl))
        clear hDn; have hDn := hDn'; clear hDn'
        simp only [Act.put, List.setIfInBounds_toArray, List.set_cons_zero, List.set_cons_succ]
        refine wpT_takeU2 (i := 1) (t := 43) (v := ?_) rfl rfl rfl (by kernel_rfl) (by kernel_rfl) (by kernel_rfl) (by kernel_rfl) (fun _ _ _ h => h) (Or.inl ⟨by rfl, ?_⟩) hHeld hDn (fun hDn' => ?_)
        rotate_left
        · (intro w hSw; have hQX := QX.out w hSw; obtain ⟨s1, s2, s3, s4, s5, s6, s7⟩ := hQX; go_simp; (try with_reducible rfl))
        clear hDn; have hDn := hDn'; clear hDn'
        simp only [Act.put, List.setIfInBounds_toArray, List.set_cons_zero, List.set_cons_succ]
        refine wpT_takeU2 (i := 2) (t := 44) (v := ?_) rfl rfl rfl (by kernel_rfl) (by kernel_rfl) (by kernel_rfl) (by kernel_rfl) (fun _ _ _ h => h) (Or.inl ⟨by rfl, ?_⟩) hHeld hDn (fun hDn' => ?_)
        rotate_left
        · (intro w hSw; have hQX := QX.out w hSw; obtain ⟨s1, s2, s3, s4, s5, s6, s7⟩ := hQX; go_simp; (try with_reducible rfl))
        clear hDn; have hDn := hDn'; clear hDn'
        simp only [Act.put, List.setIfInBounds_toArray, List.set_cons_zero, List.set_cons_succ]
        refine wpT_takeU2 (i := 3) (t := 45) (v := ?_) rfl rfl rfl (by kernel_rfl) (by kernel_rfl) (by kernel_rfl) (by kernel_rfl) (fun _ _ _ h => h) (Or.inl ⟨by rfl, ?_⟩) hHeld hDn (fun hDn' => ?_)
        rotate_left
        · (intro w hSw; have hQX := QX.out w hSw; obtain ⟨s1, s2, s3, s4, s5, s6, s7⟩ := hQX; go_simp; (try with_reducible rfl))
        clear hDn; have hDn := hDn'; clear hDn'
        simp only [Act.put, List.setIfInBounds_toArray, List.set_cons_zero, List.set_cons_succ]
        refine wpT_takeU2 (i := 4) (t := 46) (v := ?_) rfl rfl rfl (by kernel_rfl) (by kernel_rfl) (by kernel_rfl) (by kernel_rfl) (fun _ _ _ h => h) (Or.inl ⟨by rfl, ?_⟩) hHeld hDn (fun hDn' => ?_)
        rotate_left
        · (intro w hSw; have hQX := QX.out w hSw; obtain ⟨s1, s2, s3, s4, s5, s6, s7⟩ := hQX; go_simp; (try with_reducible rfl))
        clear hDn; have hDn := hDn'; clear hDn'
        simp only [Act.put, List.setIfInBounds_toArray, List.set_cons_zero, List.set_cons_succ]
        refine wpT_takeU2 (i := 5) (t := 47) (v := ?_) rfl rfl rfl (by kernel_rfl) (by kernel_rfl) (by kernel_rfl) (by kernel_rfl) (fun _ _ _ h => h) (Or.inl ⟨by rfl, ?_⟩) hHeld hDn (fun hDn' => ?_)
        rotate_left
        · (intro w hSw; have hQX := QX.out w hSw; obtain ⟨s1, s2, s3, s4, s5, s6, s7⟩ := hQX; go_simp; (try with_reducible rfl))
        clear hDn; have hDn := hDn'; clear hDn'
        simp only [Act.put, List.setIfInBounds_toArray, List.set_cons_zero, List.set_cons_succ]
        refine wpT_takeU2 (i := 6) (t := 48) (v := ?_) rfl rfl rfl (by kernel_rfl) (by kernel_rfl) (by kernel_rfl) (by kernel_rfl) (fun _ _ _ h => h) (Or.inl ⟨by rfl, ?_⟩) hHeld hDn (fun hDn' => ?_)
        rotate_left
        · (intro w hSw; have hQX := QX.out w hSw; obtain ⟨s1, s2, s3, s4, s5, s6, s7⟩ := hQX; go_simp; (try with_reducible rfl))
        clear hDn; have hDn := hDn'; clear hDn'
        simp only [Act.put, List.setIfInBounds_toArray, List.set_cons_zero, List.set_cons_succ]
        refine wpT_takeU2 (i := 7) (t := 49) (v := ?_) rfl rfl rfl (by kernel_rfl) (by kernel_rfl) (by kernel_rfl) (by kernel_rfl) (fun _ _ _ h => h) (Or.inl ⟨by rfl, ?_⟩) hHeld hDn (fun hDn' => ?_)
        rotate_left
        · (intro w hSw; have hQX := QX.out w hSw; obtain ⟨s1, s2, s3, s4, s5, s6, s7⟩ := hQX; go_simp; (try with_reducible rfl))
        clear hDn; have hDn := hDn'; clear hDn'
        simp only [Act.put, List.setIfInBounds_toArray, List.set_cons_zero, List.set_cons_succ]
        refine wpT_takeU2 (i := 8) (t := 50) (v := ?_) rfl rfl rfl (by kernel_rfl) (by kernel_rfl) (by kernel_rfl) (by kernel_rfl) (fun _ _ _ h => h) (Or.inl ⟨by rfl, ?_⟩) hHeld hDn (fun hDn' => ?_)
        rotate_left
        · (intro w hSw; have hQX := QX.out w hSw; obtain ⟨s1, s2, s3, s4, s5, s6, s7⟩ := hQX; go_simp; (try with_reducible rfl))
        clear hDn; have hDn := hDn'; clear hDn'
        simp only [Act.put, List.setIfInBounds_toArray, List.set_cons_zero, List.set_cons_succ]
        refine wpT_takeU2 (i := 9) (t := 51) (v := ?_) rfl rfl rfl (by kernel_rfl) (by kernel_rfl) (by kernel_rfl) (by kernel_rfl) (fun _ _ _ h => h) (Or.inl ⟨by rfl, ?_⟩) hHeld hDn (fun hDn' => ?_)
        rotate_left
        · (intro w hSw; have hQX := QX.out w hSw; obtain ⟨s1, s2, s3, s4, s5, s6, s7⟩ := hQX; go_simp; (try with_reducible rfl))
        clear hDn; have hDn := hDn'; clear hDn'
        simp only [Act.put, List.setIfInBounds_toArray, List.set_cons_zero, List.set_cons_succ]
        refine wpT_takeU2 (i := 10) (t := 52) (v := ?_) rfl rfl rfl (by kernel_rfl) (by kernel_rfl) (by kernel_rfl) (by kernel_rfl) (fun _ _ _ h => h) (Or.inl ⟨by rfl, ?_⟩) hHeld hDn (fun hDn' => ?_)
        rotate_left
        · (intro w hSw; have hQX := QX.out w hSw; obtain ⟨s1, s2, s3, s4, s5, s6, s7⟩ := hQX; go_simp; (try with_reducible rfl))
        clear hDn; have hDn := hDn'; clear hDn'
        simp only [Act.put, List.setIfInBounds_toArray, List.set_cons_zero, List.set_cons_succ]
        refine wpT_takeU2 (i := 11) (t := 53) (v := ?_) rfl rfl rfl (by kernel_rfl) (by kernel_rfl) (by kernel_rfl) (by kernel_rfl) (fun _ _ _ h => h) (Or.inl ⟨by rfl, ?_⟩) hHeld hDn (fun hDn' => ?_)
        rotate_left
        · (intro w hSw; have hQX := QX.out w hSw; obtain ⟨s1, s2, s3, s4, s5, s6, s7⟩ := hQX; go_simp; (try with_reducible rfl))
        clear hDn; have hDn := hDn'; clear hDn'
        simp only [Act.put, List.setIfInBounds_toArray, List.set_cons_zero, List.set_cons_succ]
        refine wpT_takeU2 (i := 12) (t := 54) (v := ?_) rfl rfl rfl (by kernel_rfl) (by kernel_rfl) (by kernel_rfl) (by kernel_rfl) (fun _ _ _ h => h) (Or.inl ⟨by rfl, ?_⟩) hHeld hDn (fun hDn' => ?_)
        rotate_left
        · (intro w hSw; have hQX := QX.out w hSw; obtain ⟨s1, s2, s3, s4, s5, s6, s7⟩ := hQX; go_simp; (try with_reducible rfl))
        clear hDn; have hDn := hDn'; clear hDn'
        simp only [Act.put, List.setIfInBounds_toArray, List.set_cons_zero, List.set_cons_succ]
        refine wpT_takeU2 (i := 13) (t := 55) (v := ?_) rfl rfl rfl (by kernel_rfl) (by kernel_rfl) (by kernel_rfl) (by kernel_rfl) (fun _ _ _ h => h) (Or.inl ⟨by rfl, ?_⟩) hHeld hDn (fun hDn' => ?_)
        rotate_left
        · (intro w hSw; have hQX := QX.out w hSw; obtain ⟨s1, s2, s3, s4, s5, s6, s7⟩ := hQX; go_simp; (try with_reducible rfl))
        clear hDn; have hDn := hDn'; clear hDn'
        simp only [Act.put, List.setIfInBounds_toArray, List.set_cons_zero, List.set_cons_succ]
        refine wpT_takeU2 (i := 14) (t := 56) (v := ?_) rfl rfl rfl (by kernel_rfl) (by kernel_rfl) (by kernel_rfl) (by kernel_rfl) (fun _ _ _ h => h) (Or.inl ⟨by rfl, ?_⟩) hHeld hDn (fun hDn' => ?_)
        rotate_left
        · (intro w hSw; have hQX := QX.out w hSw; obtain ⟨s1, s2, s3, s4, s5, s6, s7⟩ := hQX; go_simp; (try with_reducible rfl))
        clear hDn; have hDn := hDn'; clear hDn'
        simp only [Act.put, List.setIfInBounds_toArray, List.set_cons_zero, List.set_cons_succ]
        refine wpT_takeU2 (i := 15) (t := 57) (v := ?_) rfl rfl rfl (by kernel_rfl) (by kernel_rfl) (by kernel_rfl) (by kernel_rfl) (fun _ _ _ h => h) (Or.inl ⟨by rfl, ?_⟩) hHeld hDn (fun hDn' => ?_)
        rotate_left
        · (intro w hSw; have hQX := QX.out w hSw; obtain ⟨s1, s2, s3, s4, s5, s6, s7⟩ := hQX; go_simp; (try with_reducible rfl))
        clear hDn; have hDn := hDn'; clear hDn'
        simp only [Act.put, List.setIfInBounds_toArray, List.set_cons_zero, List.set_cons_succ]
        refine wpT_takeU2 (i := 16) (t := 58) (v := ?_) rfl rfl rfl (by kernel_rfl) (by kernel_rfl) (by kernel_rfl) (by kernel_rfl) (fun _ _ _ h => h) (Or.inl ⟨by rfl, ?_⟩) hHeld hDn (fun hDn' => ?_)
        rotate_left
        · (intro w hSw; have hQX := QX.out w hSw; obtain ⟨s1, s2, s3, s4, s5, s6, s7⟩ := hQX; go_simp; (try with_reducible rfl))
        clear hDn; have hDn := hDn'; clear hDn'
        simp only [Act.put, List.setIfInBounds_toArray, List.set_cons_zero, List.set_cons_succ]
        refine wpT_last rfl (by kernel_rfl) hDn (fun K hK => ?_)
        go_simp
        refine hK.out _ _ (fun hDn' => ?_)
        clear hK K hDn hHeld; have hDn := hDn'; clear hDn'
        refine wpT_done (by kernel_rfl) ?_ _
        clear hDn QX
        gi_wp2_with fail
        have hsy : w.heap.size ≤ y + 1 + 1 + 1 := by omega
        refine ⟨(((KeepsOthers.setCell _ _ _).trans (KeepsOthers.setCell _ _ _)).trans ((KeepsOthers.drew _).trans (KeepsOthers.drew _))).from _, pre, x, u0, u1, rfl, HP.out, by rw [XE.out]; exact ST.out, rfl, UE.out, (Blk.set (Blk.set FW.out.2.1 0 (encStr u0)) 1 (.bool u1)).drew.drew, ?_⟩
        exact (((KW.out.setNew hsy _).setNew hsy _).drew.drew).below (Nat.le_refl _) (fun _ _ h => h)
      · have d2 : decide (key ∈ E.ks) = false := decide_eq_false qk
        have SF := Lib.hid (show seeP b.log t.start key x.1 = false from by rw [XE.out, SP.out, d2]; simp)
        rw [d2]
        clear qk d2 SP HCO q d1 QX
        gi_wp2_with fail
        exact ⟨(KeepsOthers.drew W).from _, (Below.refl _ W).drew, ⟨fun i hi => (List.mem_append.1 hi).elim (HP.out i) (fun q => by simp at q; subst q; exact SF.out), B1.out.drew⟩⟩
    · have d1 : decide (E.t ≤ t.start) = false := decide_eq_false q
      have SF := Lib.hid (show seeP b.log t.start key x.1 = false from by rw [XE.out, SP.out, d1]; rfl)
      refine wpT_take (i := 6) (t := 35) (v := ?_) rfl rfl rfl (by kernel_rfl) (by kernel_rfl) (by kernel_rfl) (by kernel_rfl) (fun _ _ _ h => h) (Or.inl ⟨by rfl, ?_⟩) hHeld hDn (fun hDn' => ?_)
      rotate_left
      · (intro w hSw; have hQX := QX.out w hSw; obtain ⟨s1, s2, s3, s4⟩ := hQX; go_simp; (try with_reducible rfl))
      clear hDn; have hDn := hDn'; clear hDn'
      simp only [Act.put, List.setIfInBounds_toArray, List.set_cons_zero, List.set_cons_succ]
      refine wpT_take (i := 7) (t := 36) (v := ?_) rfl rfl rfl (by kernel_rfl) (by kernel_rfl) (by kernel_rfl) (by kernel_rfl) (fun _ _ _ h => h) (Or.inl ⟨by rfl, ?_⟩) hHeld hDn (fun hDn' => ?_)
      rotate_left
      · (intro w hSw; have hQX := QX.out w hSw; obtain ⟨s1, s2, s3, s4⟩ := hQX; go_simp; (try with_reducible rfl))
      clear hDn; have hDn := hDn'; clear hDn'
      simp only [Act.put, List.setIfInBounds_toArray, List.set_cons_zero, List.set_cons_succ]
      refine wpT_take (i := 8) (t := 37) (v := undef) rfl rfl rfl (by kernel_rfl) (by kernel_rfl) (by kernel_rfl) (by kernel_rfl) (fun _ _ _ h => h) (Or.inr ⟨by rfl, rfl⟩) hHeld hDn (fun hDn' => ?_)
      clear hDn; have hDn := hDn'; clear hDn'
      simp only [Act.put, List.setIfInBounds_toArray, List.set_cons_zero, List.set_cons_succ]
      refine wpT_take (i := 9) (t := 38) (v := undef) rfl rfl rfl (by kernel_rfl) (by kernel_rfl) (by kernel_rfl) (by kernel_rfl) (fun _ _ _ h => h) (Or.inr ⟨by rfl, rfl⟩) hHeld hDn (fun hDn' => ?_)
      clear hDn; have hDn := hDn'; clear hDn'
      simp only [Act.put, List.setIfInBounds_toArray, List.set_cons_zero, List.set_cons_succ]
      refine wpT_take (i := 10) (t := 39) (v := undef) rfl rfl rfl (by kernel_rfl) (by kernel_rfl) (by kernel_rfl) (by kernel_rfl) (fun _ _ _ h => h) (Or.inr ⟨by rfl, rfl⟩) hHeld hDn (fun hDn' => ?_)
      clear hDn; have hDn := hDn'; clear hDn'
      simp only [Act.put, List.setIfInBounds_toArray, List.set_cons_zero, List.set_cons_succ]
      refine wpT_take (i := 11) (t := 40) (v := undef) rfl rfl rfl (by kernel_rfl) (by kernel_rfl) (by kernel_rfl) (by kernel_rfl) (fun _ _ _ h => h) (Or.inr ⟨by rfl, rfl⟩) hHeld hDn (fun hDn' => ?_)
      clear hDn; have hDn := hDn'; clear hDn'
      simp only [Act.put, List.setIfInBounds_toArray, List.set_cons_zero, List.set_cons_succ]
      refine wpT_last rfl (by kernel_rfl) hDn (fun K hK => ?_)
      go_simp
      refine hK.out _ _ (fun hDn' => ?_)
      clear hK K hDn hHeld; have hDn := hDn'; clear hDn'
      refine wpT_done (by kernel_rfl) ?_ _
      clear hDn SP HCO q d1 QX
      gi_wp2_with fail
      exact ⟨(KeepsOthers.drew W).from _, (Below.refl _ W).drew, ⟨fun i hi => (List.mem_append.1 hi).elim (HP.out i) (fun q => by simp at q; subst q; exact SF.out), B1.out.drew⟩⟩
  case done =>
    rintro D ys W hD rfl ⟨hp, hB1⟩ hK
    have k6 : Same w6 W := Kept.of_below (by rw [h6s]; exact hB1)
    have KW := Lib.hid (K6.out.trans k6)
    have FW := Lib.hid (F6.out.same k6)
    have VE := Lib.hid (show (v0, v1) = ([], false) from by
      rw [← HVV.out]
      unfold HBk.seeL
      rw [← LEN.out, find_none hp])
    have HD := Lib.hid hK
    have pR := cell_blk FW.out.2.1
    have fR := fun i => Blk.free FW.out.2.1 i
    clear k6 hp hB1 hK
    go_wp2_with fail
    have hK' := ((KeepsOthers.setCell W ⟨y + 1 + 1 + 1, 0, none⟩ (.string ⟨#[]⟩)).trans (KeepsOthers.setCell _ ⟨y + 1 + 1 + 1, 1, none⟩ (.bool false))).same D _ HD.out rfl
    have hsy : w.heap.size ≤ y + 1 + 1 + 1 := by omega
    have BR : Blk (((W.setCell ⟨y + 1 + 1 + 1, 0, none⟩ (.string ⟨#[]⟩)).setCell ⟨y + 1 + 1 + 1, 1, none⟩ (.bool false)).putObj D (.deferred none)) (y + 1 + 1 + 1) #[encStr [], .bool false] 83 := (World.putObj_heap_other (by omega)).trans (Blk.set (Blk.set FW.out.2.1 0 (.string ⟨#[]⟩)) 1 (.bool false))
    show LeavesInM _ _ _ _ _ _ _ _ _
    refine ⟨by simp, .inl ⟨_, _, rfl, run_takeDeferred hK', ?_⟩⟩
    have VE := VE.out
    injection VE with V0 V1
    subst V0 V1
    refine ⟨_, results_two rfl _ _ _ _ _ _ rfl BR Try.underlying83 rfl (by kernel_rfl), rfl, ?_⟩
    exact Kept.of_below ((((KW.out.setNew hsy _).setNew hsy _).below (Nat.le_refl _) (fun _ _ h => h)).trans (belowK_b (w := w) (Nat.le_refl _) _ D _ _ (by omega) hK' rfl rfl))
  case stop =>
    rintro D c pre W hD hpre ⟨p0, x, u0, u1, rfl, e2, e3, rfl, e5, e6, e7⟩ hK
    have VE := Lib.hid (show (v0, v1) = (u0, u1) from by
      rw [← HVV.out, ← e5]
      unfold HBk.seeL
      rw [← LEN.out, find_first hpre e2 e3])
    gi_wp2
    have BR : Blk (W.putObj D (.deferred none)) (y + 1 + 1 + 1) #[encStr u0, .bool u1] 83 := (World.putObj_heap_other (by omega)).trans e6
    show LeavesInM _ _ _ _ _ _ _ _ _
    refine ⟨by simp, .inl ⟨_, _, rfl, run_takeDeferred hK, ?_⟩⟩
    have VE := VE.out
    injection VE with V0 V1
    subst V0 V1
    refine ⟨_, results_two rfl _ _ _ _ _ _ rfl BR Try.underlying83 rfl (by kernel_rfl), rfl, ?_⟩
    exact Kept.of_below (e7.trans (belowK_b (w := w) (Nat.le_refl _) _ D _ _ (by omega) hK rfl rfl))
end Go.Proofs.Ytaeiajodbpgbbaa
