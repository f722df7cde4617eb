/- InsC: slices.Insert, slices.Clone at stacks, of a slice of one's own. -/
import Derived.Test.YtlocjamhdddbcaaGreatDoorInsB
import Derived.Test.YtlocjamhdddbcaaGreatDoorShelf
namespace Go.Proofs.YtlocjamhdddbcaaGreatDoor
open Go.RowKit Go.Shelf

theorem put_mid {cur : Array Value} {cs us : List Value} {p : Nat} (hp : p ≤ cs.length) (hsz : cs.length + us.length ≤ cur.size) (hpre : ∀ j, j < p → cur[j]? = cs[j]?) :
    (putC (putC cur (p + us.length) (cs.drop p)) p us).toList.take (cs.length + us.length) = cs.take p ++ us ++ cs.drop p ∧ (putC (putC cur p us) (p + us.length) (cs.drop p)).toList.take (cs.length + us.length) = cs.take p ++ us ++ cs.drop p := by
  have hdl : (cs.drop p).length = cs.length - p := by rw [List.length_drop]
  have htl : (cs.take p).length = p := by rw [List.length_take]; omega
  have key : ∀ j, (cs.take p ++ us ++ cs.drop p)[j]? = if j < p then cs[j]? else if j < p + us.length then us[j - p]? else (cs.drop p)[j - (p + us.length)]? := by
    intro j
    by_cases h1 : j < p
    · rw [if_pos h1, List.append_assoc, List.getElem?_append_left (by omega), List.getElem?_take, if_pos h1]
    · rw [if_neg h1]
      by_cases h2 : j < p + us.length
      · rw [if_pos h2, List.getElem?_append_left (by rw [List.length_append]; omega), List.getElem?_append_right (by omega), htl]
      · rw [if_neg h2, List.getElem?_append_right (by rw [List.length_append]; omega), List.length_append, htl]
  have big : ∀ j, ¬ j < cs.length + us.length → (cs.take p ++ us ++ cs.drop p)[j]? = none := by
    intro j hj
    rw [List.getElem?_eq_none]
    rw [List.length_append, List.length_append, htl, hdl]; omega
  constructor
  · apply List.ext_getElem?
    intro j
    rw [List.getElem?_take]
    by_cases hj : j < cs.length + us.length
    · rw [if_pos hj, Array.getElem?_toList, putC_get _ _ _ _ (by rw [putC_size]; omega), putC_get _ _ _ _ (by rw [hdl]; omega), key j, hdl]
      by_cases h1 : j < p
      · rw [if_pos h1, if_neg (by omega), if_neg (by omega), hpre j h1]
      · rw [if_neg h1]
        by_cases h2 : j < p + us.length
        · rw [if_pos h2, if_pos (by omega)]
        · rw [if_neg h2, if_neg (by omega), if_pos (by omega)]
    · rw [if_neg hj, big j hj]
  · apply List.ext_getElem?
    intro j
    rw [List.getElem?_take]
    by_cases hj : j < cs.length + us.length
    · rw [if_pos hj, Array.getElem?_toList, putC_get _ _ _ _ (by rw [putC_size, hdl]; omega), putC_get _ _ _ _ (by omega), key j, hdl]
      by_cases h1 : j < p
      · rw [if_pos h1, if_neg (by omega), if_neg (by omega), hpre j h1]
      · rw [if_neg h1]
        by_cases h2 : j < p + us.length
        · rw [if_pos h2, if_neg (by omega), if_pos (by omega)]
        · rw [if_neg h2, if_pos (by omega)]
    · rw [if_neg hj, big j hj]
theorem own_rk {w : World} {base g cap : Nat} {cur : Array Value} {xs : List Rk} {n : Nat} (hb : Blk w g cur 108) (hbase : base ≤ g) (hn : n = xs.length) (h : cur.toList.take (n * 2) = rkE.all xs) (hc : n ≤ cap) (hm : cap ≤ maxLen) (hs : cur.size = cap * 2) : OwnE rkE w base 108 (.slice (some ⟨g, 0, none⟩) n cap) xs := by
  subst hn
  exact ⟨by rw [Enc.all_len], .inr ⟨g, cap, cur, rfl, hbase, hb, hc, hm, hs, h⟩⟩
theorem stkInfo : (Tryz.prog.info? 108).map (fun i => (i.zero, i.size, i.bytes)) = some (some stkZ, 2, 40) := by kernel_rfl
set_option maxHeartbeats 4000000 in
set_option maxRecDepth 100000 in
/-- At the end. -/
theorem ins_end {w : World} {base : Nat} {v : Value} {l : List Rk} (h : OwnE rkE w base 108 v l) (hb : base ≤ w.heap.size) (hl : l.length ≤ 1000) (x : Rk) (vb : Nat) (hvb : Blk w vb (rkE.enc x).toArray 108) :
    Calls Tryz.prog 201 #[v, .int .i64 (l.length : Nat), .slice (some ⟨vb, 0, none⟩) 1 1] w fun e w' => (∃ v', e = .returned v' ∧ OwnE rkE w' base 108 v' (l ++ [x])) ∧ Kept (fun j => base ≤ j) w w' := by
  obtain ⟨v', w1, hrun, h2, h3, h4⟩ := run_appendE (P := Tryz.prog) w 62 0 base 108 stkZ 40 rkE Tryz.underlying62 stkInfo rfl v l h (some ⟨vb, 0, none⟩) 1 1 [x] rfl (elsAt_one hvb rfl) (fun q => by cases q) (by unfold maxLen; simp; omega) (by simp; omega) hb
  have hrun' : ∀ ty, (Builtin.append_ #[62, 62] ty #[v, .slice (some ⟨vb, 0, none⟩) 1 1]).run Tryz.prog w = .ok v' w1 := fun ty => hrun
  have hfar := h.far
  obtain ⟨a, n, c, rfl, hn, hnil, hat, hcap⟩ := h.rd
  have hn' : n = l.length := hn.out
  have hc' : n ≤ c := hcap.out.1
  have hKept : Kept (fun j => base ≤ j) w w1 := (Kept.refl _ w).grown h3 (fun k hk _ => by
    exact (hfar k hk).1)
  have H2 := Lib.hid h2
  have HK := Lib.hid hKept
  clear hn hnil hat hcap h h2 h3 h4 hKept hfar hrun
  subst hn'
  cases a with
  | none =>
    go_enter Tryz.func201, Tryz.ntmps201
    go_wp2_with (at_builtin; refine Lib.wpList_append_run _ rfl _ _ _ _ rfl _ _ rfl rfl _ _ (hrun' _) ?_)
    go_ret
    exact ⟨⟨_, rfl, H2.out⟩, HK.out⟩
  | some a =>
    obtain ⟨ab, ao, asp⟩ := a
    go_enter Tryz.func201, Tryz.ntmps201
    go_wp2_with (at_builtin; refine Lib.wpList_append_run _ rfl _ _ _ _ rfl _ _ rfl rfl _ _ (hrun' _) ?_)
    all_goals (go_ret; exact ⟨⟨_, rfl, H2.out⟩, HK.out⟩)
set_option maxRecDepth 100000 in
theorem ins_rk {w : World} {base : Nat} {v : Value} {l : List Rk} (h : OwnE rkE w base 108 v l) (hb : base ≤ w.heap.size) (hl : l.length ≤ 1000) (i : Nat) (hi : i ≤ l.length) (x : Rk) (vb : Nat) (hvb : Blk w vb (rkE.enc x).toArray 108) (hne : ∀ g, v.ownBlock = some g → vb ≠ g) :
    Calls Tryz.prog 201 #[v, .int .i64 (i : Nat), .slice (some ⟨vb, 0, none⟩) 1 1] w fun e w' => (∃ v', e = .returned v' ∧ OwnE rkE w' base 108 v' (l.take i ++ x :: l.drop i)) ∧ Kept (fun j => base ≤ j) w w' := by
  by_cases hin : i = l.length
  · subst hin
    have e : l.take l.length ++ x :: l.drop l.length = l ++ [x] := by simp
    rw [e]
    exact ins_end h hb hl x vb hvb
  have hlt : i < l.length := by omega
  rcases h.2 with ⟨rfl, h0⟩ | ⟨g, cap, cur, rfl, hg, hblk, hnc, hm, hcs, htk⟩
  · omega
  have hn2 : rkE.n = 2 := rfl
  rw [hn2] at hcs htk
  have hol : (rkE.all l).length = l.length * 2 := rkE.all_len l
  have hvl : (rkE.enc x).length = 2 := rfl
  have hcells : rkE.all (l.take i ++ x :: l.drop i) = (rkE.all l).take (i * 2) ++ rkE.enc x ++ (rkE.all l).drop (i * 2) := by
    have e1 := rkE.all_take l i
    have e2 := rkE.all_drop l i
    rw [hn2] at e1 e2
    rw [rkE.all_append, rkE.all_cons, e1, e2, List.append_assoc]
  have hlen : (l.take i ++ x :: l.drop i).length = l.length + 1 := by simp; omega
  have hpre : ∀ j, j < i * 2 → cur[j]? = (rkE.all l)[j]? := fun j hj => by
    rw [← htk, List.getElem?_take, if_pos (by omega), Array.getElem?_toList]
  have hp : i * 2 ≤ (rkE.all l).length := by omega
  have hq : (i + 1) * 2 = i * 2 + (rkE.enc x).length := by rw [hvl]; omega
  have hN : (l.length + 1) * 2 = (rkE.all l).length + (rkE.enc x).length := by rw [hvl, hol]; omega
  by_cases hroom : l.length + 1 ≤ cap
  · refine (ins_shift g l.length cap i vb cur (rkE.all l) (rkE.enc x) w hlt hroom hm hblk hcs htk hol hvb hvl (hne g rfl) (rkE.all_one l) (rkE.one x)).mono ?_
    rintro e w' ⟨rfl, rfl⟩
    refine ⟨⟨_, rfl, ?_⟩, (kept_cells _ (kept_cells (fp := fun j => base ≤ j) _ ((Kept.refl _ w).drew) (fun _ => hg) _) (fun _ => hg) _)⟩
    refine own_rk (Blk.putC _ (Blk.putC _ (Blk.drew hblk) _) _) hg hlen.symm ?_ hroom hm (by rw [putC_size, putC_size, hcs])
    rw [hN, hq, hcells]
    exact (put_mid hp (by rw [hol, hvl, hcs]; omega) hpre).1
  · refine (ins_grow g l.length cap i vb cur (rkE.all l) (rkE.enc x) w hlt hnc (by omega) (by omega) hblk hcs htk hol hvb hvl (hne g rfl) (rkE.all_one l) (rkE.one x)).mono ?_
    rintro e w' ⟨rfl, rfl⟩
    have g1 := grownCap_ge w (l.length + 1) cap 108
    have g2 := grownCap_le_maxLen w (l.length + 1) cap 108 (by unfold maxLen; omega)
    have hz : stkZ.cells.size = 2 := rfl
    have htl : ((rkE.all l).take (i * 2)).length = i * 2 := by rw [List.length_take]; omega
    refine ⟨⟨_, rfl, ?_⟩, kept_cells (fp := fun j => base ≤ j) _ ((kept_cells (fp := fun j => base ≤ j) _ (((Kept.refl _ w).alloc _).drew) (fun _ => hb) _).drew) (fun _ => hb) _⟩
    refine own_rk (Blk.putC _ (Blk.drew (Blk.putC _ (Blk.drew (Blk.new' _ _ _ rfl)) _)) _) hb hlen.symm ?_ g1 g2 (by rw [putC_size, putC_size]; simp only [Array.size_append, size_zeroCells, hz, List.size_toArray, htl]; omega)
    rw [hN, hq, hcells]
    refine (put_mid hp (by simp only [Array.size_append, size_zeroCells, hz, List.size_toArray, htl, hol, hvl]; omega) (fun j hj => ?_)).2
    rw [Array.append_assoc, Array.getElem?_append_left (by simp [htl]; omega)]
    simp [hj]
/-- slices.Clone at stacks. -/
theorem clk_rk (a : Option Addr) (n c : Nat) (l : List Rk) (w : World) (hn : n = l.length) (hl : n ≤ 100000) (hat : ElsAt rkE w a l) (ha : ∀ x, a = some x → ∃ b off, x = ⟨b, off, none⟩) :
    Calls Tryz.prog 240 #[.slice a n c] w fun e w' => (∃ v', e = .returned v' ∧ OwnE rkE w' w.heap.size 108 v' l) ∧ Same w w' := by
  rcases a with _ | x
  · have h0 : l = [] := by rcases hat with h | ⟨_, _, h, _⟩; exact h; cases h
    subst h0
    have := AnyE.slices_Clone_nil Tryz.clkA n c w
    change Calls Tryz.prog 240 _ _ _ at this
    refine this.mono (fun e w' ⟨h1, h2⟩ => ⟨⟨_, h1, OwnE.nil _ _ _⟩, h2 ▸ Kept.refl _ _⟩)
  · obtain ⟨i0, hi, hz0, hz1, hz2⟩ := info_parts stkInfo
    obtain ⟨b, off, rfl⟩ := ha x rfl
    have := AnyE.slices_Clone Tryz.clkA i0 stkZ 2 40 hi hz0 hz1 hz2 rfl (by decide) (fun w => Tryz.sizeOf108 w) b off n c (rkE.all l) w (by rw [Enc.all_len, hn]; rfl) (by unfold maxLen; omega) (by omega) (fun j u hu => by
      rcases hat with h | ⟨b', off', e, _, hc⟩
      · subst h; simp [Enc.all] at hu
      · cases e; exact hc j u hu) (rkE.all_one l)
    change Calls Tryz.prog 240 _ _ _ at this
    refine this.mono (fun e w' ⟨v', h1, h2, _, h4⟩ => ⟨⟨v', h1, ?_⟩, Kept.of_below h4⟩)
    unfold OwnE
    rw [← hn]
    exact h2
end Go.Proofs.YtlocjamhdddbcaaGreatDoor
