/- Slices of texts: Contains, Clone, Insert of one, by slices of one's own. -/
import Derived.Test.YtaeiajodbpgbbaaHv4
import Derived.Test.YtaeiajodbpgbbaaShelfI
import Derived.Shelf.SlicesG.Turned
namespace Go.Proofs.Ytaeiajodbpgbbaa
open Go.RowKit Go.Sort Go.Shelf

/-- A text in memory. -/
theorem st_at {w : World} {a : Option Addr} {l : List (List UInt8)} (h : ElsAt stE w a l) {i : Nat} (hi : i < l.length) :
    ∃ b off, a = some ⟨b, off, none⟩ ∧ b < w.heap.size ∧ ∀ w', Same w w' → w'.cell? ⟨b, off + i, none⟩ = some (encStr l[i]) := by
  obtain ⟨b, off, rfl, hb⟩ := h.there (fun e => by rw [e] at hi; simp at hi)
  refine ⟨b, off, rfl, hb, fun w' k => ?_⟩
  have := (h.same k).get (List.getElem?_eq_getElem hi) 0 (u := encStr l[i]) rfl
  rw [show stE.n = 1 from rfl, Nat.mul_one, Nat.add_zero] at this
  exact this
/-- A slice as it stands: nil, or at a plain address. -/
def PlainA (a : Option Addr) (c : Nat) : Prop := (a = none ∧ c = 0) ∨ ∃ b off, a = some ⟨b, off, none⟩
theorem OwnE.rd2 {α : Type} {E : Enc α} {w : World} {base : Nat} {e : TypeId} {v : Value} {xs : List α} (h : OwnE E w base e v xs) : ∃ a l cap, v = .slice a l cap ∧ Hid (l = xs.length) ∧ Hid (PlainA a cap) ∧ Hid (ElsAt E w a xs) := by
  rcases h.2 with ⟨rfl, h0⟩ | ⟨g, cap, cur, rfl, h1, h2, h3, h4, h5, h6⟩
  · exact ⟨none, 0, 0, rfl, h0.symm, .inl ⟨rfl, rfl⟩, .inl (List.eq_nil_of_length_eq_zero h0)⟩
  · exact ⟨_, _, cap, rfl, rfl, .inr ⟨_, _, rfl⟩, elsAt_of h2 h6⟩
def bsOf (k : List UInt8) : ByteArray := ⟨k.toArray⟩
theorem bsOf_inj {a b : List UInt8} (h : bsOf a = bsOf b) : a = b := by
  unfold bsOf at h
  injection h with h
  have := congrArg Array.toList h
  simpa using this
set_option maxRecDepth 100000 in
theorem co_str (a : Option Addr) (n c : Nat) (ks : List (List UInt8)) (hn : n = ks.length) (hl : n ≤ 1000) (key : List UInt8) (w : World) (hat : ElsAt stE w a ks) :
    Calls Try.prog 48 #[.slice a n c, encStr key] w fun e w' => e = .returned (.bool (decide (key ∈ ks))) ∧ w' = w := by
  by_cases h0 : ks = []
  · subst h0
    simp at hn
    subst hn
    have := AnyG.slices_Contains_string_empty Try.conA a c (bsOf key) w
    exact this.mono (fun e w' ⟨h1, h2⟩ => ⟨by rw [h1]; simp, h2⟩)
  · obtain ⟨b, off, rfl, hb⟩ := hat.there h0
    have := AnyG.slices_Contains_string Try.conA b off n c (ks.map bsOf) (bsOf key) w (by simp [hn]) (by omega) (fun j hj => by
      rw [List.length_map] at hj
      obtain ⟨b', off', e, _, hc⟩ := st_at hat hj
      cases e
      rw [hc w (Kept.refl _ _)]
      simp [List.getD, hj, encStr, bsOf])
    refine this.mono (fun e w' ⟨h1, h2⟩ => ⟨?_, h2⟩)
    rw [h1, List.take_of_length_le (by simp [hn])]
    congr 2
    rw [Bool.eq_iff_iff, Lib.containsS_iff, decide_eq_true_eq, List.mem_map]
    constructor
    · rintro ⟨k, hk, he⟩; rw [← bsOf_inj he]; exact hk
    · intro h; exact ⟨key, h, rfl⟩
theorem strInfo : (Try.prog.info? 9).map (fun i => (i.zero, i.size, i.bytes)) = some (some (.string ByteArray.empty), 1, 16) := by kernel_rfl
set_option maxRecDepth 100000 in
theorem cl_str (a : Option Addr) (n c : Nat) (ks : List (List UInt8)) (hn : n = ks.length) (hl : n ≤ 1000) (w : World) (hat : ElsAt stE w a ks) (hp : PlainA a c) :
    Calls Try.prog 49 #[.slice a n c] w fun e w' => (∃ v, e = .returned v ∧ OwnE stE w' w.heap.size 9 v ks) ∧ Same w w' := by
  rcases hp with ⟨rfl, rfl⟩ | ⟨b, off, rfl⟩
  · have h0 : ks = [] := by rcases hat with h | ⟨_, _, h, _⟩; exact h; cases h
    subst h0
    have := AnyE.slices_Clone_nil Try.clsA n 0 w
    refine this.mono (fun e w' ⟨h1, h2⟩ => ⟨⟨_, h1, OwnE.nil _ _ _⟩, h2 ▸ Kept.refl _ _⟩)
  · obtain ⟨i0, hi, hz0, hz1, hz2⟩ := info_parts strInfo
    have := AnyE.slices_Clone Try.clsA i0 (.string ByteArray.empty) 1 16 hi hz0 hz1 hz2 rfl (by decide) (fun w => Try.sizeOf9 w) b off n c (stE.all ks) w (by rw [stE_all]; simp [hn]) (by unfold maxLen; omega) (by omega) (fun j u hu => by
      rcases hat with h | ⟨b', off', e, _, hc⟩
      · subst h; simp [Enc.all] at hu
      · cases e; exact hc j u hu) (stE.all_one ks)
    refine this.mono (fun e w' ⟨v', h1, h2, _, h4⟩ => ⟨⟨v', h1, ?_⟩, Kept.of_below h4⟩)
    unfold OwnE
    rw [← hn]
    exact h2
/-- A text laid in among others. -/
theorem put_ins {cur : Array Value} {cs : List Value} {i n : Nat} {u : Value} (hn : cs.length = n) (hi : i ≤ n) (hsz : n + 1 ≤ cur.size) (hpre : ∀ j, j < i → cur[j]? = cs[j]?) :
    (putC (putC cur (i + 1) (cs.drop i)) i [u]).toList.take (n + 1) = cs.take i ++ u :: cs.drop i ∧ (putC (putC cur i [u]) (i + 1) (cs.drop i)).toList.take (n + 1) = cs.take i ++ u :: cs.drop i := by
  have hdl : (cs.drop i).length = n - i := by rw [List.length_drop, hn]
  have key : ∀ j, j < n + 1 → (cs.take i ++ u :: cs.drop i)[j]? = if j < i then cs[j]? else if j = i then some u else (cs.drop i)[j - (i + 1)]? := by
    intro j hj
    by_cases h1 : j < i
    · rw [if_pos h1, List.getElem?_append_left (by rw [List.length_take]; omega), List.getElem?_take, if_pos h1]
    · rw [if_neg h1, List.getElem?_append_right (by rw [List.length_take]; omega), List.length_take, hn, Nat.min_eq_left hi]
      by_cases h2 : j = i
      · rw [if_pos h2, h2, Nat.sub_self]; rfl
      · rw [if_neg h2, show j - i = (j - (i + 1)) + 1 from by omega, List.getElem?_cons_succ]
  have big : ∀ j, ¬ j < n + 1 → (cs.take i ++ u :: cs.drop i)[j]? = none := by
    intro j hj
    rw [List.getElem?_eq_none]
    rw [List.length_append, List.length_take, List.length_cons, hdl]; omega
  constructor
  · apply List.ext_getElem?
    intro j
    rw [List.getElem?_take]
    by_cases hj : j < n + 1
    · rw [if_pos hj, Array.getElem?_toList, putC_get _ _ _ _ (by rw [putC_size]; simp; omega), putC_get _ _ _ _ (by rw [hdl]; omega), key j hj, hdl]
      by_cases h1 : j < i
      · rw [if_pos h1, if_neg (by simp; omega), if_neg (by omega), hpre j h1]
      · rw [if_neg h1]
        by_cases h2 : j = i
        · subst h2; rw [if_pos rfl, if_pos (by simp), Nat.sub_self]; rfl
        · rw [if_neg h2, if_neg (by simp; omega), if_pos (by omega)]
    · rw [if_neg hj, big j hj]
  · apply List.ext_getElem?
    intro j
    rw [List.getElem?_take]
    by_cases hj : j < n + 1
    · rw [if_pos hj, Array.getElem?_toList, putC_get _ _ _ _ (by rw [putC_size, hdl]; omega), putC_get _ _ _ _ (by simp; omega), key j hj, hdl]
      by_cases h1 : j < i
      · rw [if_pos h1, if_neg (by omega), if_neg (by simp; omega), hpre j h1]
      · rw [if_neg h1]
        by_cases h2 : j = i
        · subst h2; rw [if_pos rfl, if_neg (by omega), if_pos (by simp), Nat.sub_self]; rfl
        · rw [if_neg h2, if_pos (by omega)]
    · rw [if_neg hj, big j hj]
theorem own_str {w : World} {base g cap : Nat} {cur : Array Value} {xs : List (List UInt8)} {n : Nat} (hb : Blk w g cur 9) (hbase : base ≤ g) (hn : n = xs.length) (h : cur.toList.take n = xs.map encStr) (hc : n ≤ cap) (hm : cap ≤ maxLen) (hs : cur.size = cap) : OwnE stE w base 9 (.slice (some ⟨g, 0, none⟩) n cap) xs := by
  subst hn
  refine ⟨by rw [Enc.all_len], .inr ⟨g, cap, cur, rfl, hbase, hb, hc, hm, by rw [hs]; exact (Nat.mul_one _).symm, ?_⟩⟩
  rw [stE_all, show xs.length * stE.n = xs.length from by show xs.length * 1 = _; omega]
  exact h
theorem Kept.setCells {g : Nat} (vs : List Value) : ∀ {a w : World} (_ : Kept (fun k => k = g) a w) (o : Nat), Kept (fun k => k = g) a (w.setCells g o vs) := by
  induction vs with
  | nil => intro a w h o; exact h
  | cons v vs ih => intro a w h o; exact ih (h.setG o v) (o + 1)
theorem Kept.setCellsN {g : Nat} {fp : Nat → Prop} (vs : List Value) : ∀ {a w : World} (_ : Kept fp a w) (_ : a.heap.size ≤ g) (o : Nat), Kept fp a (w.setCells g o vs) := by
  induction vs with
  | nil => intro a w h _ o; exact h
  | cons v vs ih => intro a w h hg o; exact ih (h.setNew hg v) hg (o + 1)
theorem take_made (cs : List Value) (Z : Array Value) (n : Nat) (h : cs.length = n) : (cs.toArray ++ Z).toList.take n = cs := by
  rw [Array.toList_append]
  simp [← h]
theorem size_made (cs : List Value) (n G : Nat) (h : cs.length = n) (hg : n ≤ G) : (cs.toArray ++ Builtin.zeroCells (Value.string ⟨#[]⟩).cells (G - n)).size = G := by
  have h1 : ((Value.string ⟨#[]⟩).cells).size = 1 := rfl
  rw [Array.size_append, size_zeroCells, h1, Nat.mul_one]
  simp [h]; omega
set_option maxRecDepth 100000 in
theorem ins_own {w : World} {base : Nat} {v : Value} {ks : List (List UInt8)} (h : OwnE stE w base 9 v ks) (hb : base ≤ w.heap.size) (hl : ks.length ≤ 1000) (i : Nat) (hi : i ≤ ks.length) (x : List UInt8) (vb : Nat) (hvb : Blk w vb #[encStr x] 9) (hne : ∀ g, v.ownBlock = some g → vb ≠ g) :
    Calls Try.prog 50 #[v, .int .i64 (i : Nat), .slice (some ⟨vb, 0, none⟩) 1 1] w fun e w' => (∃ v', e = .returned v' ∧ OwnE stE w' base 9 v' (ks.take i ++ x :: ks.drop i)) ∧ Kept (fun j => base ≤ j) w w' := by
  have hvs : ∀ j u, [encStr x][j]? = some u → w.cell? ⟨vb, 0 + j, none⟩ = some u := fun j u hj => by
    rw [cell_blk hvb]
    rcases j with _ | j
    · simpa using hj
    · simp at hj
  have h1v : ∀ u ∈ [encStr x], u.oneCell' = true := fun u hu => by simp at hu; subst hu; rfl
  have h1c : ∀ u ∈ ks.map encStr, u.oneCell' = true := fun u hu => by obtain ⟨k, _, rfl⟩ := List.mem_map.1 hu; rfl
  have hmap : (ks.take i ++ x :: ks.drop i).map encStr = (ks.map encStr).take i ++ encStr x :: (ks.map encStr).drop i := by simp [List.map_take, List.map_drop]
  have hlen : (ks.take i ++ x :: ks.drop i).length = ks.length + 1 := by simp; omega
  rcases h.2 with ⟨rfl, h0⟩ | ⟨g, cap, cur, rfl, hg, hblk, hnc, hm, hcs, htk⟩
  · have hk0 : ks = [] := List.eq_nil_of_length_eq_zero h0
    subst hk0
    have hi0 : i = 0 := by simpa using hi
    subst hi0
    have C := Any2.slices_Insert_string_end_grow Try.insS none 0 0 vb 0 1 1 [] [encStr x] w (by decide) (by decide) (by decide) (by decide) rfl rfl (fun _ => rfl) (fun a q => by cases q) hvs h1v
    have g1 := grownCap_ge w (0 + 1) 0 (Try.insS_ren.t 9)
    have g2 := grownCap_le_maxLen w (0 + 1) 0 (Try.insS_ren.t 9) (by unfold maxLen; omega)
    refine C.mono (fun e w' ⟨h1, h2⟩ => ⟨⟨_, h1, ?_⟩, ?_⟩)
    · subst h2
      exact own_str (Blk.new' _ _ _ rfl) hb rfl (take_made _ _ _ rfl) g1 g2 (size_made _ _ _ rfl g1)
    · subst h2
      exact ((Kept.refl _ _).drew).alloc _
  · have hcs' : cur.size = cap := by rw [hcs]; exact Nat.mul_one _
    have htk' : cur.toList.take ks.length = ks.map encStr := by
      have := htk
      rw [stE_all, show ks.length * stE.n = ks.length from by show ks.length * 1 = _; omega] at this
      exact this
    have hget : ∀ j, j < ks.length → cur[j]? = (ks.map encStr)[j]? := fun j hj => by
      rw [← htk', List.getElem?_take, if_pos hj, Array.getElem?_toList]
    have hblk : Blk w g cur 9 := hblk
    have hvg : vb ≠ g := hne g rfl
    have hcells : ∀ j u, (ks.map encStr)[j]? = some u → w.cell? ⟨g, 0 + j, none⟩ = some u := fun j u hj => by
      have hjl : j < ks.length := by have := (List.getElem?_eq_some_iff.1 hj).1; simpa using this
      rw [cell_blk hblk, Nat.zero_add, hget j hjl, hj]
    by_cases hin : i = ks.length
    · subst hin
      by_cases hroom : ks.length + 1 ≤ cap
      · have C := Any2.slices_Insert_string_end_room Try.insS g 0 ks.length cap vb 0 1 1 [encStr x] w (by decide) hroom (by unfold maxLen at hm; omega) rfl (fun j hj => by rw [cell_blk hblk]; simp; omega) (fun j hj => hblk.free _) hvs h1v
        refine C.mono (fun e w' ⟨h1, h2⟩ => ⟨⟨_, h1, ?_⟩, ?_⟩)
        · subst h2
          rw [Nat.zero_add]
          refine own_str (Blk.putC [encStr x] hblk ks.length) hg hlen.symm ?_ hroom hm (by rw [putC_size, hcs'])
          have := (put_ins (cur := cur) (cs := ks.map encStr) (i := ks.length) (n := ks.length) (u := encStr x) (by simp) (Nat.le_refl _) (by omega) hget).1
          rw [List.drop_of_length_le (by simp)] at this
          rw [hmap, List.drop_of_length_le (by simp)]
          exact this
        · subst h2
          exact (Kept.setCells [encStr x] (Kept.refl _ _) _).mono (fun k _ q => by show base ≤ k; rw [q]; exact hg)
      · have C := Any2.slices_Insert_string_end_grow Try.insS (some ⟨g, 0, none⟩) ks.length cap vb 0 1 1 (ks.map encStr) [encStr x] w (by decide) hnc (by omega) (by omega) (by simp) rfl (fun q => by cases q) (fun a q j u hj => by
          cases q
          rw [Addr.add_lit]
          exact hcells j u hj) hvs h1v
        have g1 := grownCap_ge w (ks.length + 1) cap (Try.insS_ren.t 9)
        have g2 := grownCap_le_maxLen w (ks.length + 1) cap (Try.insS_ren.t 9) (by unfold maxLen; omega)
        refine C.mono (fun e w' ⟨h1, h2⟩ => ⟨⟨_, h1, ?_⟩, ?_⟩)
        · subst h2
          refine own_str (Blk.new' _ _ _ rfl) hb hlen.symm ?_ g1 g2 (size_made _ _ _ (by simp) g1)
          rw [take_made _ _ _ (by simp), hmap, List.take_of_length_le (by simp), List.drop_of_length_le (by simp)]
        · subst h2
          exact ((Kept.refl _ _).drew).alloc _
    · have hlt : i < ks.length := by omega
      have hsh : w.shape? vb = some (9, 1) := by
        have := hvb
        unfold Blk at this
        simp [World.shape?, this]
      have hsh2 : w.shape? g = some (9, cur.size) := by
        have := hblk
        unfold Blk at this
        simp [World.shape?, this]
      by_cases hroom : ks.length + 1 ≤ cap
      · have C := Any2.slices_Insert_string_shift Try.insS g 0 ks.length cap i vb 0 1 1 (ks.map encStr) [encStr x] w hlt (by decide) hroom (by unfold maxLen at hm; omega) hvg (by simp) rfl hcells (fun j hj => by rw [cell_blk hblk]; simp; omega) (fun j hj => hblk.free _) hvs h1c h1v 9 9 1 cur.size hsh hsh2 (by omega) (hvb.free _) (hvb.free _)
        refine C.mono (fun e w' ⟨h1, h2⟩ => ⟨⟨_, h1, ?_⟩, ?_⟩)
        · subst h2
          rw [Nat.zero_add, Nat.zero_add]
          refine own_str (Blk.putC [encStr x] (Blk.putC ((ks.map encStr).drop i) hblk.drew (i + 1)) i) hg hlen.symm ?_ hroom hm (by rw [putC_size, putC_size, hcs'])
          rw [hmap]
          exact (put_ins (by simp) (by omega) (by omega) (fun j hj => hget j (by omega))).1
        · subst h2
          exact (Kept.setCells [encStr x] (Kept.setCells _ ((Kept.refl _ _).drew) _) _).mono (fun k _ q => by show base ≤ k; rw [q]; exact hg)
      · have C := Any2.slices_Insert_string_grow Try.insS g 0 ks.length cap i vb 0 1 1 (ks.map encStr) [encStr x] w hlt (by decide) hnc (by omega) (by omega) (by simp) rfl hcells hvs h1c h1v
        have g1 := grownCap_ge w (ks.length + 1) cap (Try.insS_ren.t 9)
        have g2 := grownCap_le_maxLen w (ks.length + 1) cap (Try.insS_ren.t 9) (by unfold maxLen; omega)
        refine C.mono (fun e w' ⟨h1, h2⟩ => ⟨⟨_, h1, ?_⟩, ?_⟩)
        · subst h2
          refine own_str (Blk.putC ((ks.map encStr).drop i) (Blk.drew (Blk.putC [encStr x] (Blk.drew (Blk.new' _ _ _ rfl)) i)) (i + 1)) hb hlen.symm ?_ g1 g2 (by rw [putC_size, putC_size]; simp [size_zeroCells, Value.cells]; omega)
          rw [hmap]
          exact (put_ins (by simp) (by omega) (by simp [size_zeroCells, Value.cells]; omega) (fun j hj => by
            rw [Array.append_assoc, Array.getElem?_append_left (by simp; omega)]
            simp [hj])).2
        · subst h2
          exact Kept.setCellsN _ (Kept.setCellsN _ (((Kept.refl _ _).alloc _).drew) (Nat.le_refl _) _).drew (Nat.le_refl _) _
end Go.Proofs.Ytaeiajodbpgbbaa
