/- Cfa: sets of keys: slices.Contains, Clone, Insert at texts; conflict.Add. -/
import Derived.Test.YtlocjamhdddbcaaGreatDoorEl
import Derived.Test.YtlocjamhdddbcaaGreatDoorShelf
import Derived.Test.YtlocjamhdddbcaaGreatDoorShelfI
import Derived.Shelf.SlicesG.Turned
import Derived.Shelf.Abstract
import Derived.Sort.EncStr
namespace Go.Proofs.YtlocjamhdddbcaaGreatDoor
open Go.RowKit Go.Sort Go.Shelf

def stE : Enc (List UInt8) := ⟨1, fun x => [encStr x], fun _ => rfl, by decide, fun e v hv => by simp at hv; rw [hv]; rfl⟩
theorem stE_all (l : List (List UInt8)) : stE.all l = l.map encStr := by
  induction l with
  | nil => rfl
  | cons x l ih => rw [Enc.all_cons, ih]; rfl
/-- A text in memory. -/
theorem st_at {w : World} {a : Option Addr} {l : List (List UInt8)} (h : ElsAt stE w a l) {i : Nat} (hi : i < l.length) :
    ∃ b off, a = some ⟨b, off, none⟩ ∧ b < w.heap.size ∧ ∀ w', Same w w' → w'.cell? ⟨b, off + i, none⟩ = some (encStr l[i]) := by
  obtain ⟨b, off, rfl, hb⟩ := h.there (fun e => by rw [e] at hi; simp at hi)
  refine ⟨b, off, rfl, hb, fun w' k => ?_⟩
  have := (h.same k).get (List.getElem?_eq_getElem hi) 0 (u := encStr l[i]) rfl
  rw [show stE.n = 1 from rfl, Nat.mul_one, Nat.add_zero] at this
  exact this
/-- A slice as it stands: nil, or at a plain address. -/
def PlainA (a : Option Addr) (c : Nat) : Prop := (a = none ∧ c = 0) ∨ ∃ b off, a = some ⟨b, off, none⟩
theorem OwnE.rd2 {α : Type} {E : Enc α} {w : World} {base : Nat} {e : TypeId} {v : Value} {xs : List α} (h : OwnE E w base e v xs) : ∃ a l cap, v = .slice a l cap ∧ Hid (l = xs.length) ∧ Hid (PlainA a cap) ∧ Hid (ElsAt E w a xs) := by
  rcases h.2 with ⟨rfl, h0⟩ | ⟨g, cap, cur, rfl, h1, h2, h3, h4, h5, h6⟩
  · exact ⟨none, 0, 0, rfl, h0.symm, .inl ⟨rfl, rfl⟩, .inl (List.eq_nil_of_length_eq_zero h0)⟩
  · exact ⟨_, _, cap, rfl, rfl, .inr ⟨_, _, rfl⟩, elsAt_of h2 h6⟩
def bsOf (k : List UInt8) : ByteArray := ⟨k.toArray⟩
theorem bsOf_inj {a b : List UInt8} (h : bsOf a = bsOf b) : a = b := by
  unfold bsOf at h
  injection h with h
  have := congrArg Array.toList h
  simpa using this
set_option maxRecDepth 100000 in
theorem co_str (a : Option Addr) (n c : Nat) (ks : List (List UInt8)) (hn : n = ks.length) (hl : n ≤ 1000) (key : List UInt8) (w : World) (hat : ElsAt stE w a ks) :
    Calls Tryz.prog 174 #[.slice a n c, encStr key] w fun e w' => e = .returned (.bool (decide (key ∈ ks))) ∧ w' = w := by
  by_cases h0 : ks = []
  · subst h0
    simp at hn
    subst hn
    have := AnyG.slices_Contains_string_empty Tryz.conA a c (bsOf key) w
    exact this.mono (fun e w' ⟨h1, h2⟩ => ⟨by rw [h1]; simp, h2⟩)
  · obtain ⟨b, off, rfl, hb⟩ := hat.there h0
    have := AnyG.slices_Contains_string Tryz.conA b off n c (ks.map bsOf) (bsOf key) w (by simp [hn]) (by omega) (fun j hj => by
      rw [List.length_map] at hj
      obtain ⟨b', off', e, _, hc⟩ := st_at hat hj
      cases e
      rw [hc w (Kept.refl _ _)]
      simp [List.getD, hj, encStr, bsOf])
    refine this.mono (fun e w' ⟨h1, h2⟩ => ⟨?_, h2⟩)
    rw [h1, List.take_of_length_le (by simp [hn])]
    congr 2
    rw [Bool.eq_iff_iff, Lib.containsS_iff, decide_eq_true_eq, List.mem_map]
    constructor
    · rintro ⟨k, hk, he⟩; rw [← bsOf_inj he]; exact hk
    · intro h; exact ⟨key, h, rfl⟩
theorem strInfo : (Tryz.prog.info? 9).map (fun i => (i.zero, i.size, i.bytes)) = some (some (.string ByteArray.empty), 1, 16) := by kernel_rfl
set_option maxRecDepth 100000 in
theorem cl_str (a : Option Addr) (n c : Nat) (ks : List (List UInt8)) (hn : n = ks.length) (hl : n ≤ 1000) (w : World) (hat : ElsAt stE w a ks) (hp : PlainA a c) :
    Calls Tryz.prog 75 #[.slice a n c] w fun e w' => (∃ v, e = .returned v ∧ OwnE stE w' w.heap.size 9 v ks) ∧ Same w w' := by
  rcases hp with ⟨rfl, rfl⟩ | ⟨b, off, rfl⟩
  · have h0 : ks = [] := by rcases hat with h | ⟨_, _, h, _⟩; exact h; cases h
    subst h0
    have := AnyE.slices_Clone_nil Tryz.clsA n 0 w
    refine this.mono (fun e w' ⟨h1, h2⟩ => ⟨⟨_, h1, OwnE.nil _ _ _⟩, h2 ▸ Kept.refl _ _⟩)
  · obtain ⟨i0, hi, hz0, hz1, hz2⟩ := info_parts strInfo
    have := AnyE.slices_Clone Tryz.clsA i0 (.string ByteArray.empty) 1 16 hi hz0 hz1 hz2 rfl (by decide) (fun w => Tryz.sizeOf9 w) b off n c (stE.all ks) w (by rw [stE_all]; simp [hn]) (by unfold maxLen; omega) (by omega) (fun j u hu => by
      rcases hat with h | ⟨b', off', e, _, hc⟩
      · subst h; simp [Enc.all] at hu
      · cases e; exact hc j u hu) (stE.all_one ks)
    refine this.mono (fun e w' ⟨v', h1, h2, _, h4⟩ => ⟨⟨v', h1, ?_⟩, Kept.of_below h4⟩)
    unfold OwnE
    rw [← hn]
    exact h2
/-- A text laid in among others. -/
theorem put_ins {cur : Array Value} {cs : List Value} {i n : Nat} {u : Value} (hn : cs.length = n) (hi : i ≤ n) (hsz : n + 1 ≤ cur.size) (hpre : ∀ j, j < i → cur[j]? = cs[j]?) :
    (putC (putC cur (i + 1) (cs.drop i)) i [u]).toList.take (n + 1) = cs.take i ++ u :: cs.drop i ∧ (putC (putC cur i [u]) (i + 1) (cs.drop i)).toList.take (n + 1) = cs.take i ++ u :: cs.drop i := by
  have hdl : (cs.drop i).length = n - i := by rw [List.length_drop, hn]
  have key : ∀ j, j < n + 1 → (cs.take i ++ u :: cs.drop i)[j]? = if j < i then cs[j]? else if j = i then some u else (cs.drop i)[j - (i + 1)]? := by
    intro j hj
    by_cases h1 : j < i
    · rw [if_pos h1, List.getElem?_append_left (by rw [List.length_take]; omega), List.getElem?_take, if_pos h1]
    · rw [if_neg h1, List.getElem?_append_right (by rw [List.length_take]; omega), List.length_take, hn, Nat.min_eq_left hi]
      by_cases h2 : j = i
      · rw [if_pos h2, h2, Nat.sub_self]; rfl
      · rw [if_neg h2, show j - i = (j - (i + 1)) + 1 from by omega, List.getElem?_cons_succ]
  have big : ∀ j, ¬ j < n + 1 → (cs.take i ++ u :: cs.drop i)[j]? = none := by
    intro j hj
    rw [List.getElem?_eq_none]
    rw [List.length_append, List.length_take, List.length_cons, hdl]; omega
  constructor
  · apply List.ext_getElem?
    intro j
    rw [List.getElem?_take]
    by_cases hj : j < n + 1
    · rw [if_pos hj, Array.getElem?_toList, putC_get _ _ _ _ (by rw [putC_size]; simp; omega), putC_get _ _ _ _ (by rw [hdl]; omega), key j hj, hdl]
      by_cases h1 : j < i
      · rw [if_pos h1, if_neg (by simp; omega), if_neg (by omega), hpre j h1]
      · rw [if_neg h1]
        by_cases h2 : j = i
        · subst h2; rw [if_pos rfl, if_pos (by simp), Nat.sub_self]; rfl
        · rw [if_neg h2, if_neg (by simp; omega), if_pos (by omega)]
    · rw [if_neg hj, big j hj]
  · apply List.ext_getElem?
    intro j
    rw [List.getElem?_take]
    by_cases hj : j < n + 1
    · rw [if_pos hj, Array.getElem?_toList, putC_get _ _ _ _ (by rw [putC_size, hdl]; omega), putC_get _ _ _ _ (by simp; omega), key j hj, hdl]
      by_cases h1 : j < i
      · rw [if_pos h1, if_neg (by omega), if_neg (by simp; omega), hpre j h1]
      · rw [if_neg h1]
        by_cases h2 : j = i
        · subst h2; rw [if_pos rfl, if_neg (by omega), if_pos (by simp), Nat.sub_self]; rfl
        · rw [if_neg h2, if_pos (by omega)]
    · rw [if_neg hj, big j hj]
theorem own_str {w : World} {base g cap : Nat} {cur : Array Value} {xs : List (List UInt8)} {n : Nat} (hb : Blk w g cur 9) (hbase : base ≤ g) (hn : n = xs.length) (h : cur.toList.take n = xs.map encStr) (hc : n ≤ cap) (hm : cap ≤ maxLen) (hs : cur.size = cap) : OwnE stE w base 9 (.slice (some ⟨g, 0, none⟩) n cap) xs := by
  subst hn
  refine ⟨by rw [Enc.all_len], .inr ⟨g, cap, cur, rfl, hbase, hb, hc, hm, by rw [hs]; exact (Nat.mul_one _).symm, ?_⟩⟩
  rw [stE_all, show xs.length * stE.n = xs.length from by show xs.length * 1 = _; omega]
  exact h
theorem Kept.setCells {g : Nat} (vs : List Value) : ∀ {a w : World} (_ : Kept (fun k => k = g) a w) (o : Nat), Kept (fun k => k = g) a (w.setCells g o vs) := by
  induction vs with
  | nil => intro a w h o; exact h
  | cons v vs ih => intro a w h o; exact ih (h.setG o v) (o + 1)
theorem Kept.setCellsN {g : Nat} {fp : Nat → Prop} (vs : List Value) : ∀ {a w : World} (_ : Kept fp a w) (_ : a.heap.size ≤ g) (o : Nat), Kept fp a (w.setCells g o vs) := by
  induction vs with
  | nil => intro a w h _ o; exact h
  | cons v vs ih => intro a w h hg o; exact ih (h.setNew hg v) hg (o + 1)
theorem take_made (cs : List Value) (Z : Array Value) (n : Nat) (h : cs.length = n) : (cs.toArray ++ Z).toList.take n = cs := by
  rw [Array.toList_append]
  simp [← h]
theorem size_made (cs : List Value) (n G : Nat) (h : cs.length = n) (hg : n ≤ G) : (cs.toArray ++ Builtin.zeroCells (Value.string ⟨#[]⟩).cells (G - n)).size = G := by
  have h1 : ((Value.string ⟨#[]⟩).cells).size = 1 := rfl
  rw [Array.size_append, size_zeroCells, h1, Nat.mul_one]
  simp [h]; omega
set_option maxRecDepth 100000 in
theorem ins_own {w : World} {base : Nat} {v : Value} {ks : List (List UInt8)} (h : OwnE stE w base 9 v ks) (hb : base ≤ w.heap.size) (hl : ks.length ≤ 1000) (i : Nat) (hi : i ≤ ks.length) (x : List UInt8) (vb : Nat) (hvb : Blk w vb #[encStr x] 9) (hne : ∀ g, v.ownBlock = some g → vb ≠ g) :
    Calls Tryz.prog 175 #[v, .int .i64 (i : Nat), .slice (some ⟨vb, 0, none⟩) 1 1] w fun e w' => (∃ v', e = .returned v' ∧ OwnE stE w' base 9 v' (ks.take i ++ x :: ks.drop i)) ∧ Kept (fun j => base ≤ j) w w' := by
  have hvs : ∀ j u, [encStr x][j]? = some u → w.cell? ⟨vb, 0 + j, none⟩ = some u := fun j u hj => by
    rw [cell_blk hvb]
    rcases j with _ | j
    · simpa using hj
    · simp at hj
  have h1v : ∀ u ∈ [encStr x], u.oneCell' = true := fun u hu => by simp at hu; subst hu; rfl
  have h1c : ∀ u ∈ ks.map encStr, u.oneCell' = true := fun u hu => by obtain ⟨k, _, rfl⟩ := List.mem_map.1 hu; rfl
  have hmap : (ks.take i ++ x :: ks.drop i).map encStr = (ks.map encStr).take i ++ encStr x :: (ks.map encStr).drop i := by simp [List.map_take, List.map_drop]
  have hlen : (ks.take i ++ x :: ks.drop i).length = ks.length + 1 := by simp; omega
  rcases h.2 with ⟨rfl, h0⟩ | ⟨g, cap, cur, rfl, hg, hblk, hnc, hm, hcs, htk⟩
  · have hk0 : ks = [] := List.eq_nil_of_length_eq_zero h0
    subst hk0
    have hi0 : i = 0 := by simpa using hi
    subst hi0
    have C := Any2.slices_Insert_string_end_grow Tryz.insS none 0 0 vb 0 1 1 [] [encStr x] w (by decide) (by decide) (by decide) (by decide) rfl rfl (fun _ => rfl) (fun a q => by cases q) hvs h1v
    have g1 := grownCap_ge w (0 + 1) 0 (Tryz.insS_ren.t 9)
    have g2 := grownCap_le_maxLen w (0 + 1) 0 (Tryz.insS_ren.t 9) (by unfold maxLen; omega)
    refine C.mono (fun e w' ⟨h1, h2⟩ => ⟨⟨_, h1, ?_⟩, ?_⟩)
    · subst h2
      exact own_str (Blk.new' _ _ _ rfl) hb rfl (take_made _ _ _ rfl) g1 g2 (size_made _ _ _ rfl g1)
    · subst h2
      exact ((Kept.refl _ _).drew).alloc _
  · have hcs' : cur.size = cap := by rw [hcs]; exact Nat.mul_one _
    have htk' : cur.toList.take ks.length = ks.map encStr := by
      have := htk
      rw [stE_all, show ks.length * stE.n = ks.length from by show ks.length * 1 = _; omega] at this
      exact this
    have hget : ∀ j, j < ks.length → cur[j]? = (ks.map encStr)[j]? := fun j hj => by
      rw [← htk', List.getElem?_take, if_pos hj, Array.getElem?_toList]
    have hblk : Blk w g cur 9 := hblk
    have hvg : vb ≠ g := hne g rfl
    have hcells : ∀ j u, (ks.map encStr)[j]? = some u → w.cell? ⟨g, 0 + j, none⟩ = some u := fun j u hj => by
      have hjl : j < ks.length := by have := (List.getElem?_eq_some_iff.1 hj).1; simpa using this
      rw [cell_blk hblk, Nat.zero_add, hget j hjl, hj]
    by_cases hin : i = ks.length
    · subst hin
      by_cases hroom : ks.length + 1 ≤ cap
      · have C := Any2.slices_Insert_string_end_room Tryz.insS g 0 ks.length cap vb 0 1 1 [encStr x] w (by decide) hroom (by unfold maxLen at hm; omega) rfl (fun j hj => by rw [cell_blk hblk]; simp; omega) (fun j hj => hblk.free _) hvs h1v
        refine C.mono (fun e w' ⟨h1, h2⟩ => ⟨⟨_, h1, ?_⟩, ?_⟩)
        · subst h2
          rw [Nat.zero_add]
          refine own_str (Blk.putC [encStr x] hblk ks.length) hg hlen.symm ?_ hroom hm (by rw [putC_size, hcs'])
          have := (put_ins (cur := cur) (cs := ks.map encStr) (i := ks.length) (n := ks.length) (u := encStr x) (by simp) (Nat.le_refl _) (by omega) hget).1
          rw [List.drop_of_length_le (by simp)] at this
          rw [hmap, List.drop_of_length_le (by simp)]
          exact this
        · subst h2
          exact (Kept.setCells [encStr x] (Kept.refl _ _) _).mono (fun k _ q => by show base ≤ k; rw [q]; exact hg)
      · have C := Any2.slices_Insert_string_end_grow Tryz.insS (some ⟨g, 0, none⟩) ks.length cap vb 0 1 1 (ks.map encStr) [encStr x] w (by decide) hnc (by omega) (by omega) (by simp) rfl (fun q => by cases q) (fun a q j u hj => by
          cases q
          rw [Addr.add_lit]
          exact hcells j u hj) hvs h1v
        have g1 := grownCap_ge w (ks.length + 1) cap (Tryz.insS_ren.t 9)
        have g2 := grownCap_le_maxLen w (ks.length + 1) cap (Tryz.insS_ren.t 9) (by unfold maxLen; omega)
        refine C.mono (fun e w' ⟨h1, h2⟩ => ⟨⟨_, h1, ?_⟩, ?_⟩)
        · subst h2
          refine own_str (Blk.new' _ _ _ rfl) hb hlen.symm ?_ g1 g2 (size_made _ _ _ (by simp) g1)
          rw [take_made _ _ _ (by simp), hmap, List.take_of_length_le (by simp), List.drop_of_length_le (by simp)]
        · subst h2
          exact ((Kept.refl _ _).drew).alloc _
    · have hlt : i < ks.length := by omega
      have hsh : w.shape? vb = some (9, 1) := by
        have := hvb
        unfold Blk at this
        simp [World.shape?, this]
      have hsh2 : w.shape? g = some (9, cur.size) := by
        have := hblk
        unfold Blk at this
        simp [World.shape?, this]
      by_cases hroom : ks.length + 1 ≤ cap
      · have C := Any2.slices_Insert_string_shift Tryz.insS g 0 ks.length cap i vb 0 1 1 (ks.map encStr) [encStr x] w hlt (by decide) hroom (by unfold maxLen at hm; omega) hvg (by simp) rfl hcells (fun j hj => by rw [cell_blk hblk]; simp; omega) (fun j hj => hblk.free _) hvs h1c h1v 9 9 1 cur.size hsh hsh2 (by omega) (hvb.free _) (hvb.free _)
        refine C.mono (fun e w' ⟨h1, h2⟩ => ⟨⟨_, h1, ?_⟩, ?_⟩)
        · subst h2
          rw [Nat.zero_add, Nat.zero_add]
          refine own_str (Blk.putC [encStr x] (Blk.putC ((ks.map encStr).drop i) hblk.drew (i + 1)) i) hg hlen.symm ?_ hroom hm (by rw [putC_size, putC_size, hcs'])
          rw [hmap]
          exact (put_ins (by simp) (by omega) (by omega) (fun j hj => hget j (by omega))).1
        · subst h2
          exact (Kept.setCells [encStr x] (Kept.setCells _ ((Kept.refl _ _).drew) _) _).mono (fun k _ q => by show base ≤ k; rw [q]; exact hg)
      · have C := Any2.slices_Insert_string_grow Tryz.insS g 0 ks.length cap i vb 0 1 1 (ks.map encStr) [encStr x] w hlt (by decide) hnc (by omega) (by omega) (by simp) rfl hcells hvs h1c h1v
        have g1 := grownCap_ge w (ks.length + 1) cap (Tryz.insS_ren.t 9)
        have g2 := grownCap_le_maxLen w (ks.length + 1) cap (Tryz.insS_ren.t 9) (by unfold maxLen; omega)
        refine C.mono (fun e w' ⟨h1, h2⟩ => ⟨⟨_, h1, ?_⟩, ?_⟩)
        · subst h2
          refine own_str (Blk.putC ((ks.map encStr).drop i) (Blk.drew (Blk.putC [encStr x] (Blk.drew (Blk.new' _ _ _ rfl)) i)) (i + 1)) hb hlen.symm ?_ g1 g2 (by rw [putC_size, putC_size]; simp [size_zeroCells, Value.cells]; omega)
          rw [hmap]
          exact (put_ins (by simp) (by omega) (by simp [size_zeroCells, Value.cells]; omega) (fun j hj => by
            rw [Array.append_assoc, Array.getElem?_append_left (by simp; omega)]
            simp [hj])).2
        · subst h2
          exact Kept.setCellsN _ (Kept.setCellsN _ (((Kept.refl _ _).alloc _).drew) (Nat.le_refl _) _).drew (Nat.le_refl _) _
/-- Where a key goes among the first ones. -/
def posK (ks : List (List UInt8)) (key : List UInt8) : Nat → Nat
  | 0 => 0
  | i + 1 => if Op.bytesLess (ks.getD i []) key = true then i + 1 else posK ks key i
/-- A key put into a set. -/
def addK (ks : List (List UInt8)) (key : List UInt8) : List (List UInt8) := if key ∈ ks then ks else ks.take (posK ks key ks.length) ++ key :: ks.drop (posK ks key ks.length)
theorem mem_addK (ks : List (List UInt8)) (key k : List UInt8) : k ∈ addK ks key ↔ k = key ∨ k ∈ ks := by
  unfold addK
  split
  · rename_i h
    exact ⟨.inr, fun q => q.elim (fun z => z ▸ h) id⟩
  · generalize posK ks key ks.length = i
    rw [List.mem_append, List.mem_cons]
    constructor
    · rintro (h | h | h)
      · exact .inr (List.mem_of_mem_take h)
      · exact .inl h
      · exact .inr (List.mem_of_mem_drop h)
    · rintro (h | h)
      · exact .inr (.inl h)
      · rw [← List.take_append_drop i ks, List.mem_append] at h
        exact h.imp id .inr
theorem addK_len (ks : List (List UInt8)) (key : List UInt8) : (addK ks key).length ≤ ks.length + 1 := by
  unfold addK
  split
  · omega
  · simp; omega
/-- What Add tells. -/
def AddPost (w : World) (key : List UInt8) (ks : List (List UInt8)) (e : Ending) (w' : World) : Prop := (∃ v, e = .returned v ∧ OwnE stE w' w.heap.size 9 v (addK ks key)) ∧ Same w w'
set_option maxRecDepth 100000 in
set_option maxHeartbeats 800000 in
theorem cf_add (a : Option Addr) (n c : Nat) (ks : List (List UInt8)) (hn : n = ks.length) (hl : n ≤ 500) (key : List UInt8) (w : World) (hat : ElsAt stE w a ks) (hp : PlainA a c) :
    Calls Tryz.prog 116 #[.slice a n c, encStr key] w (AddPost w key ks) := by
  have CL := Lib.hid (cl_str a n c ks hn (by omega) w hat hp)
  have CO := Lib.hid (fun w' (k : Same w w') => co_str a n c ks hn (by omega) key w' (hat.same k))
  have LN := Lib.hid (show ks.length ≤ 500 from by omega)
  clear hn hat hp
  go_enter Tryz.func116, Tryz.ntmps116
  go_wp2_with fail
  with_reducible refine CL.out.mono ?_
  rintro e w1 ⟨⟨v, rfl, ho⟩, k1⟩
  have K1 := Lib.hid k1
  have HO := Lib.hid ho
  clear ho k1 CL
  go_wp2_with fail
  with_reducible refine (CO.out w1 K1.out).mono ?_
  rintro e w2 ⟨rfl, hw2⟩
  subst hw2
  clear CO
  by_cases hin : key ∈ ks
  · have e1 : decide (key ∈ ks) = true := decide_eq_true hin
    rw [e1]
    have HI := Lib.hid hin
    clear hin e1
    go_wp2_with fail
    go_ret
    exact ⟨⟨_, rfl, by unfold addK; rw [if_pos HI.out]; exact HO.out⟩, K1.out⟩
  · have e1 : decide (key ∈ ks) = false := decide_eq_false hin
    rw [e1]
    have HI := Lib.hid hin
    clear hin e1
    obtain ⟨a1, l1, c1, rfl, hl1, -, ha1⟩ := OwnE.rd2 HO.out
    have hl500 : l1 ≤ 500 := by have := hl1.out; have := LN.out; omega
    go_wp2_with fail
    go_loopw [6] (fun t wr => ∃ (i : Nat), t = .int .i64 i ∧ i ≤ l1 ∧ posK ks key ks.length = posK ks key i ∧ wr = w2) (fun t _ => (intOf t).toNat)
    case atStart => exact ⟨l1, rfl, by omega, by rw [hl1.out], rfl⟩
    case round =>
      obtain ⟨i, rfl, hi, hpos, rfl⟩ := hrel
      have HPOS := Lib.hid hpos
      clear hpos
      have fin : posK ks key i = i → Calls Tryz.prog 175 #[.slice a1 l1 c1, .int .i64 (i : Nat), .slice (some ⟨wr.heap.size, 0, none⟩) 1 1] (wr.alloc (.cells #[encStr key] 9)) (AddPost w key ks) := fun hpi => by
        have k2 : Same wr (wr.alloc (.cells #[encStr key] 9)) := (Kept.refl _ _).alloc _
        have hs := K1.out.size
        refine (ins_own (HO.out.same k2) (Nat.le_trans hs k2.size) (by have := LN.out; omega) i (by have := hl1.out; omega) key wr.heap.size (Blk.new _ _ _) (fun g hg => by have := (HO.out.far g hg).2; omega)).mono ?_
        rintro e w' ⟨⟨v', rfl, ho⟩, k⟩
        refine ⟨⟨v', rfl, ?_⟩, (K1.out.trans k2).step k (fun j hj q => by omega)⟩
        unfold addK
        rw [if_neg HI.out, HPOS.out, hpi]
        exact ho
      have FIN := Lib.hid fin
      clear fin
      by_cases h0 : i = 0
      · subst h0
        have FIN := Lib.hid (FIN.out rfl)
        simp only [Int.natCast_zero] at FIN
        go_wp2_with fail
        with_reducible refine FIN.out.mono ?_
        rintro e w' hp
        have HP := Lib.hid hp
        obtain ⟨⟨v', rfl, -⟩, -⟩ := hp
        go_wp2_with fail
        go_ret
        exact HP.out
      · obtain ⟨j, rfl⟩ : ∃ j, i = j + 1 := ⟨i - 1, by omega⟩
        have hjl : j < ks.length := by have := hl1.out; omega
        obtain ⟨b, off, rfl, hbl, hc⟩ := st_at ha1.out hjl
        have c0 := hc _ (Kept.refl _ _)
        obtain ⟨x, hx⟩ : ∃ x, ks[j] = x := ⟨_, rfl⟩
        rw [hx] at c0
        have g1 : (j : Int) < (l1 : Int) := by omega
        have g0 : (0 : Int) ≤ (j : Int) := by omega
        have g2 : (0 : Int) < ((j + 1 : Nat) : Int) := by omega
        have g3 : ((j + 1 : Nat) : Int) - 1 = (j : Int) := by omega
        have g4 : IntKind.i64.wrap (((j + 1 : Nat) : Int) - 1) = (j : Int) := by rw [IntKind.wrap_i64]; omega
        have HX := Lib.hid (show ks.getD j [] = x from by rw [← hx]; simp [List.getD, hjl])
        clear hc hx
        have PJ := Lib.hid (show posK ks key (j + 1) = if Op.bytesLess x key = true then j + 1 else posK ks key j from by rw [posK, HX.out])
        cases fv : Op.bytesLess x key
        · have PJ2 := Lib.hid (show posK ks key ks.length = posK ks key j from by rw [HPOS.out, PJ.out, fv]; rfl)
          clear PJ HPOS FIN
          go_wp2_with fail
          exact ⟨⟨j, rfl, by omega, PJ2.out, trivial⟩, by simp [intOf]⟩
        · have FIN := Lib.hid (FIN.out (by rw [PJ.out, fv]; rfl))
          clear PJ
          rw [show ((j + 1 : Nat) : Int) = (j : Int) + 1 from rfl] at FIN
          go_wp2_with fail
          with_reducible refine FIN.out.mono ?_
          rintro e w' hp
          have HP := Lib.hid hp
          obtain ⟨⟨v', rfl, -⟩, -⟩ := hp
          go_wp2_with fail
          go_ret
          exact HP.out
end Go.Proofs.YtlocjamhdddbcaaGreatDoor
