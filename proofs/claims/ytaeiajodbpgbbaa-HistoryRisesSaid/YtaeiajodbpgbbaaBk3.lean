/- What a transaction sees: by what it wrote itself. -/
import Derived.Test.YtaeiajodbpgbbaaBk2
import Derived.Test.YtaeiajodbpgbbaaHeldR
import Derived.RangeFuncBox
namespace Go.Proofs.Ytaeiajodbpgbbaa
open Go.RowKit Go.Sort Go.Shelf

section
variable {P : Program} {md : Region.Mode} {ops : Array Oper} {Q : Exit → Act → World → Prop} {S : World → Prop} {s : Nat}
/-- Take number i first, its slot known; s waits for it, and says so itself. -/
theorem wpT_takeU2 {i t : Nat} {oi : Oper} {v : Value} {f : Nat} {l : Array Bool} {a : Act} {w : World} (his : (i == s) = false) (hi : ops[i]? = some oi) (hd : oi.dst = some t)
    (hs : Region.noSelect ops = true) (hf : Region.free md ops l i = true) (hr : (Region.ready md ops l).contains i = true) (ha : ancL md ops 1 i s = true)
    (hQ : ∀ c a w, Q (.panic c) (a.put (some t) v) w → Q (.panic c) a w) (hy : YieldsIf P ops S oi v a) (hS : S w) (hD : DownL md ops l)
    (h : DownL md ops (l.setIfInBounds i true) → wpT P md ops Q S s f (l.setIfInBounds i true) (a.put (some t) v) w) : wpT P md ops Q S s (f + 1) l a w := by
  have hr' : i ∈ Region.ready md ops l := by simpa using hr
  refine wpT_first 1 (by simpa using his) hi (Region.noSelect_spec hs) (by rw [hd]; exact hQ) (.inl ⟨ha, fun _ q => q⟩) f l a w hD (Region.free_spec hi hf) hr' hy hS (.inl hS) ?_
  rw [hd]
  exact h (hD.next hr')
end
theorem zero_wr (w : World) : (zeroValue 83).run Try.prog w = .ok (encW ([], false)) w := Try.zeroValue83 w
set_option maxRecDepth 100000 in
set_option maxHeartbeats 2000000 in
theorem see_own {w : World} {base p m B : Nat} {t : HTx} (h : TxIn w base p m t) (key : List UInt8) (v : List UInt8) (o : Bool) (hv : t.wrote key = some (v, o)) :
    Calls Try.prog 37 #[.pointer (some ⟨B, 0, none⟩), .pointer (some ⟨p, 0, none⟩), encStr key] w fun e w' => e = .returned (encW (v, o)) ∧ Same w w' := by
  obtain ⟨ka, kn, kc, h1, -, h3, -, -⟩ := h
  have HB := Lib.hid h1; have HM := Lib.hid h3; have HV := Lib.hid hv
  clear h1 h3 hv
  show Calls Try.prog 37 #[.pointer (some ⟨B, 0, none⟩), .pointer (some ⟨p, 0, none⟩), encStr key] w fun e w' => e = .returned (.agg #[encStr v, .bool o]) ∧ Same w w'
  go_enter Try.func37, Try.ntmps37
  go_upto_region 1 with fail
  obtain ⟨y, hy⟩ : ∃ y, w.heap.size = y := ⟨_, rfl⟩
  rw [hy]
  refine cutWl (fun wn => Fr wn [(y + 1 + 1 + 1, #[encStr [], .bool false], 83), (y + 1 + 1, #[encStr key], 9), (y + 1, #[.pointer (some ⟨p, 0, none⟩)], 74), (y, #[.pointer (some ⟨B, 0, none⟩)], 56)] ∧ Same w wn ∧ y + 4 ≤ wn.heap.size) ⟨⟨Blk.new' _ _ _ (by simp [hy]), (Blk.new' _ _ _ (by simp [hy])).alloc _, ((Blk.new' _ _ _ (by simp [hy])).alloc _).alloc _, (((Blk.new' _ _ _ hy.symm).alloc _).alloc _).alloc _, trivial⟩, ((((Kept.refl _ _).alloc _).alloc _).alloc _).alloc _, by simp [hy]⟩ ?_
  rintro w4 ⟨hf4, k4, hz4⟩
  have F4 := Lib.hid hf4
  have K4 := Lib.hid k4
  have HY := Lib.hid hy
  have HZ := Lib.hid hz4
  clear hf4 k4 hy hz4
  have QX := Lib.hid (show ∀ w', Same w4 w' → (∀ i, w'.cell? ⟨y + 1, i, none⟩ = (#[Value.pointer (some ⟨p, 0, none⟩)] : Array Value)[i]?) ∧ (∀ i, w'.cell? ⟨p, i, none⟩ = (#[.int .i64 t.start, .bool t.live, .slice ka kn kc, .map (some m)] : Array Value)[i]?) ∧ (∀ i, w'.cell? ⟨y + 1 + 1, i, none⟩ = (#[encStr key] : Array Value)[i]?) ∧ (Instr.lookup 79 (.map (some m)) (encStr key) true).run Try.prog w' = .ok (.tuple #[.agg #[encStr v, .bool o], .bool true]) w' from fun w' k => by
    have F := F4.out.same k
    refine ⟨cell_blk F.2.2.1, cell_blk (HB.out.kept (K4.out.trans k) (fun h => h)), cell_blk F.2.1, ?_⟩
    have hlk := MapK.look (P := Try.prog) (HM.out.same (K4.out.trans k)) Try.underlying79 Try.underlying9 key (zero_wr w') true
    rw [HV.out, if_pos rfl] at hlk
    exact hlk)
  refine wp_region_T (S := fun w' => Same w4 w') 11 (by kernel_rfl) (Kept.refl _ _).drew (fun hHeld hDn => ?_)
  refine wpT_takeU2 (i := 0) (t := 12) (v := ?_) rfl rfl rfl (by kernel_rfl) (by kernel_rfl) (by kernel_rfl) (by kernel_rfl) (fun _ _ _ h => h) (Or.inl ⟨by rfl, ?_⟩) hHeld hDn (fun hDn' => ?_)
  rotate_left
  · (intro w hSw; have hQX := QX.out w hSw; obtain ⟨s1, s2, s3, s4⟩ := hQX; go_simp; (try with_reducible rfl))
  clear hDn; have hDn := hDn'; clear hDn'
  simp only [Act.put, List.setIfInBounds_toArray, List.set_cons_zero, List.set_cons_succ]
  refine wpT_takeU2 (i := 1) (t := 13) (v := ?_) rfl rfl rfl (by kernel_rfl) (by kernel_rfl) (by kernel_rfl) (by kernel_rfl) (fun _ _ _ h => h) (Or.inl ⟨by rfl, ?_⟩) hHeld hDn (fun hDn' => ?_)
  rotate_left
  · (intro w hSw; have hQX := QX.out w hSw; obtain ⟨s1, s2, s3, s4⟩ := hQX; go_simp; (try with_reducible rfl))
  clear hDn; have hDn := hDn'; clear hDn'
  simp only [Act.put, List.setIfInBounds_toArray, List.set_cons_zero, List.set_cons_succ]
  refine wpT_takeU2 (i := 2) (t := 14) (v := ?_) rfl rfl rfl (by kernel_rfl) (by kernel_rfl) (by kernel_rfl) (by kernel_rfl) (fun _ _ _ h => h) (Or.inl ⟨by rfl, ?_⟩) hHeld hDn (fun hDn' => ?_)
  rotate_left
  · (intro w hSw; have hQX := QX.out w hSw; obtain ⟨s1, s2, s3, s4⟩ := hQX; go_simp; (try with_reducible rfl))
  clear hDn; have hDn := hDn'; clear hDn'
  simp only [Act.put, List.setIfInBounds_toArray, List.set_cons_zero, List.set_cons_succ]
  refine wpT_takeU2 (i := 3) (t := 15) (v := ?_) rfl rfl rfl (by kernel_rfl) (by kernel_rfl) (by kernel_rfl) (by kernel_rfl) (fun _ _ _ h => h) (Or.inl ⟨by rfl, ?_⟩) hHeld hDn (fun hDn' => ?_)
  rotate_left
  · (intro w hSw; have hQX := QX.out w hSw; obtain ⟨s1, s2, s3, s4⟩ := hQX; go_simp; (try with_reducible rfl))
  clear hDn; have hDn := hDn'; clear hDn'
  simp only [Act.put, List.setIfInBounds_toArray, List.set_cons_zero, List.set_cons_succ]
  refine wpT_takeU2 (i := 4) (t := 16) (v := ?_) rfl rfl rfl (by kernel_rfl) (by kernel_rfl) (by kernel_rfl) (by kernel_rfl) (fun _ _ _ h => h) (Or.inl ⟨by rfl, ?_⟩) hHeld hDn (fun hDn' => ?_)
  rotate_left
  · (intro w hSw; have hQX := QX.out w hSw; obtain ⟨s1, s2, s3, s4⟩ := hQX; go_simp; (try with_reducible rfl))
  clear hDn; have hDn := hDn'; clear hDn'
  simp only [Act.put, List.setIfInBounds_toArray, List.set_cons_zero, List.set_cons_succ]
  refine wpT_takeU2 (i := 5) (t := 17) (v := ?_) rfl rfl rfl (by kernel_rfl) (by kernel_rfl) (by kernel_rfl) (by kernel_rfl) (fun _ _ _ h => h) (Or.inl ⟨by rfl, ?_⟩) hHeld hDn (fun hDn' => ?_)
  rotate_left
  · (intro w hSw; have hQX := QX.out w hSw; obtain ⟨s1, s2, s3, s4⟩ := hQX; go_simp; (try with_reducible rfl))
  clear hDn; have hDn := hDn'; clear hDn'
  simp only [Act.put, List.setIfInBounds_toArray, List.set_cons_zero, List.set_cons_succ]
  refine wpT_takeU2 (i := 6) (t := 11) (v := ?_) rfl rfl rfl (by kernel_rfl) (by kernel_rfl) (by kernel_rfl) (by kernel_rfl) (fun _ _ _ h => h) (Or.inl ⟨by rfl, ?_⟩) hHeld hDn (fun hDn' => ?_)
  rotate_left
  · (intro w hSw; have hQX := QX.out w hSw; obtain ⟨s1, s2, s3, s4⟩ := hQX; go_simp; (try with_reducible rfl))
  clear hDn; have hDn := hDn'; clear hDn'
  simp only [Act.put, List.setIfInBounds_toArray, List.set_cons_zero, List.set_cons_succ]
  refine wpT_takeU2 (i := 7) (t := 18) (v := ?_) rfl rfl rfl (by kernel_rfl) (by kernel_rfl) (by kernel_rfl) (by kernel_rfl) (fun _ _ _ h => h) (Or.inl ⟨by rfl, ?_⟩) hHeld hDn (fun hDn' => ?_)
  rotate_left
  · (intro w hSw; have hQX := QX.out w hSw; obtain ⟨s1, s2, s3, s4⟩ := hQX; go_simp; (try with_reducible rfl))
  clear hDn; have hDn := hDn'; clear hDn'
  simp only [Act.put, List.setIfInBounds_toArray, List.set_cons_zero, List.set_cons_succ]
  refine wpT_takeU2 (i := 8) (t := 19) (v := ?_) rfl rfl rfl (by kernel_rfl) (by kernel_rfl) (by kernel_rfl) (by kernel_rfl) (fun _ _ _ h => h) (Or.inl ⟨by rfl, ?_⟩) hHeld hDn (fun hDn' => ?_)
  rotate_left
  · (intro w hSw; have hQX := QX.out w hSw; obtain ⟨s1, s2, s3, s4⟩ := hQX; go_simp; (try with_reducible rfl))
  clear hDn; have hDn := hDn'; clear hDn'
  simp only [Act.put, List.setIfInBounds_toArray, List.set_cons_zero, List.set_cons_succ]
  refine wpT_one (i := 9) rfl (by kernel_rfl) hDn (fun K' hK => ?_)
  go_simp
  refine hK.out _ _ ?_ (fun hHeld2 hDn2 => ?_)
  · exact ((Kept.refl _ _).drew).alloc _
  clear hK K' hHeld hDn
  have hHeld := hHeld2; have hDn := hDn2
  clear hHeld2 hDn2
  refine wpT_one (i := 10) rfl (by kernel_rfl) hDn (fun K' hK => ?_)
  go_simp
  refine hK.out _ _ ?_ (fun hHeld2 hDn2 => ?_)
  · exact ((Kept.refl _ _).alloc _).drew
  clear hK K' hHeld hDn
  have hHeld := hHeld2; have hDn := hDn2
  clear hHeld2 hDn2
  refine wpT_last rfl (by kernel_rfl) hDn (fun K hK => ?_)
  go_simp
  refine hK.out _ _ (fun hDn' => ?_)
  clear hK K hDn hHeld; have hDn := hDn'; clear hDn'
  refine wpT_done (by kernel_rfl) ?_ _
  obtain ⟨z, hz⟩ : ∃ z, w4.heap.size = z := ⟨_, rfl⟩
  rw [hz]
  refine cutE (fun wn => Fr wn [(z, #[encStr v, .bool o], 83), (y + 1 + 1 + 1, #[encStr [], .bool false], 83), (y + 1 + 1, #[encStr key], 9), (y + 1, #[.pointer (some ⟨p, 0, none⟩)], 74), (y, #[.pointer (some ⟨B, 0, none⟩)], 56)] ∧ Same w4 wn) ⟨⟨Blk.new' w4 _ _ hz.symm, F4.out.same (((Kept.refl _ _).alloc _).drew)⟩, ((Kept.refl _ _).alloc _).drew⟩ ?_
  rintro w5 ⟨hf5, k5⟩
  have F5 := Lib.hid hf5
  have K5 := Lib.hid k5
  have HZ2 := Lib.hid hz
  obtain ⟨p5, f5, p4, f4, p3, f3, p2, f2, p1, f1, -⟩ := F5.out.rules
  have z5 := F5.out.1.lt
  have z4 := F5.out.2.1.lt
  clear hf5 k5 hz F4 hDn
  clear QX HB HM
  go_wp2_with fail
  (try simp only [Exit.inBlock, Exit.then])
  have BR := F5.out.2.1
  have hyy := HY.out
  refine bodyPost_ret (results_two rfl _ _ _ _ _ _ rfl (Blk.set (Blk.set BR 0 (encStr v)) 1 (.bool o)) Try.underlying83 rfl (by kernel_rfl)) rfl ?_
  exact ⟨rfl, ((K4.out.trans K5.out).setNew (by dsimp only; omega) _).setNew (by dsimp only; omega) _⟩
end Go.Proofs.Ytaeiajodbpgbbaa
