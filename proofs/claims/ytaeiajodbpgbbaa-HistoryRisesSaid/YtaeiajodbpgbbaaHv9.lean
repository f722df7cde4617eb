/- The document's pairs: with a key's value; changed by what a transaction wrote. -/
import Derived.Test.YtaeiajodbpgbbaaHv8
namespace Go.Proofs.Ytaeiajodbpgbbaa
open Go.RowKit Go.Sort Go.Shelf

/-- A round of with. -/
def wst (key val : List UInt8) (s : List HPr × Bool) (x : HPr) : List HPr × Bool :=
  if key ≤ x.1 ∧ s.2 = false then (if x.1 = key then s.1 ++ [(key, val)] else s.1 ++ [(key, val)] ++ [x], true) else (if x.1 = key then s.1 else s.1 ++ [x], s.2)
def wfo (key val : List UInt8) (put : Bool) (L : List HPr) : List HPr × Bool := L.foldl (wst key val) ([], put)
theorem wfo_snoc (key val : List UInt8) (put : Bool) (L : List HPr) (x : HPr) : wfo key val put (L ++ [x]) = wst key val (wfo key val put L) x := by unfold wfo; rw [List.foldl_append]; rfl
def wth (key val : List UInt8) (is : Bool) (L : List HPr) : List HPr := if (wfo key val (!is) L).2 = false then (wfo key val (!is) L).1 ++ [(key, val)] else (wfo key val (!is) L).1
theorem wst_len (key val : List UInt8) (s : List HPr × Bool) (x : HPr) : (wst key val s x).1.length ≤ s.1.length + 2 := by
  unfold wst
  split <;> split <;> simp <;> omega
theorem wfo_len (key val : List UInt8) (put : Bool) : ∀ (n : Nat) (L : List HPr), L.length = n → (wfo key val put L).1.length ≤ 2 * n
  | 0, L, h => by rw [List.eq_nil_of_length_eq_zero h]; exact Nat.le_refl _
  | n + 1, L, h => by
    obtain ⟨M, x, rfl⟩ : ∃ M x, L = M ++ [x] := ⟨L.dropLast, L.getLast (by intro q; rw [q] at h; cases h), (List.dropLast_concat_getLast _).symm⟩
    have h1 := wfo_len key val put n M (by simpa using h)
    rw [wfo_snoc]
    have h2 := wst_len key val (wfo key val put M) x
    omega
theorem encB_list (s : List UInt8) : (⟨s.toArray⟩ : ByteArray).toList = s := by rw [Lib.toList_data]
theorem bless_eq : ∀ (x y : List UInt8), Op.bytesLess x y = decide (x < y)
  | [], [] => by simp [Op.bytesLess]
  | _ :: _, [] => by simp [Op.bytesLess]
  | [], _ :: _ => by simp [Op.bytesLess]
  | a :: x, b :: y => by
    rw [Op.bytesLess, bless_eq x y]
    simp only [List.cons_lt_cons_iff]
    by_cases h1 : a < b <;> by_cases h2 : a = b <;> by_cases h3 : x < y <;> simp [h1, h2, h3]
theorem enc_less (x y : List UInt8) : Op.bytesLess (⟨x.toArray⟩ : ByteArray).toList (⟨y.toArray⟩ : ByteArray).toList = decide (x < y) := by rw [encB_list, encB_list, bless_eq]
theorem enc_beq (x y : List UInt8) : ((⟨x.toArray⟩ : ByteArray).toList == (⟨y.toArray⟩ : ByteArray).toList) = decide (x = y) := by rw [encB_list, encB_list]; rw [Bool.eq_iff_iff]; simp
/-- A pair in memory. -/
theorem pr_at {w : World} {a : Option Addr} {l : List HPr} (h : ElsAt prE w a l) {i : Nat} (hi : i < l.length) :
    ∃ b off, a = some ⟨b, off, none⟩ ∧ b < w.heap.size ∧ ∀ w', Same w w' → w'.cell? ⟨b, off + i * 2, none⟩ = some (encStr l[i].1) ∧ w'.cell? ⟨b, off + i * 2 + 1, none⟩ = some (encStr l[i].2) := by
  obtain ⟨b, off, rfl, hb⟩ := h.there (fun e => by rw [e] at hi; simp at hi)
  have hx : l[i]? = some l[i] := List.getElem?_eq_getElem hi
  refine ⟨b, off, rfl, hb, fun w' k => ?_⟩
  have h2 := h.same k
  have g : ∀ j u, (encP l[i])[j]? = some u → w'.cell? ⟨b, off + i * 2 + j, none⟩ = some u := fun j u hu => by
    have := h2.get hx j (u := u) hu
    rw [Nat.add_assoc]
    exact this
  exact ⟨g 0 _ rfl, g 1 _ rfl⟩
section
attribute [local go_sem ↓] exec_app semAt_app
attribute [local go_sem] isApp_lit appA appX
set_option maxRecDepth 100000 in
set_option maxHeartbeats 800000 in
theorem rf_with (a : Option Addr) (n c : Nat) (l : List HPr) (hn : n = l.length) (hl : n ≤ 1000) (key val : List UInt8) (is : Bool) (w : World) (hat : ElsAt prE w a l) :
    Calls Try.prog 31 #[.slice a n c, encStr key, encStr val, .bool is] w fun e w' => (∃ v, e = .returned v ∧ OwnE prE w' w.heap.size 46 v (wth key val is l)) ∧ Same w w' := by
  have HN := Lib.hid hn; have HAT := Lib.hid hat
  clear hn hat
  obtain ⟨put, hput⟩ : ∃ put, (!is) = put := ⟨_, rfl⟩
  have WT := Lib.hid (show wth key val is l = if (wfo key val put l).2 = false then (wfo key val put l).1 ++ [(key, val)] else (wfo key val put l).1 from by unfold wth; rw [hput])
  go_enter Try.func31, Try.ntmps31
  go_wp2_with fail
  clear hput
  go_loopw [9, 10, 11] (fun v u t wr => ∃ (i : Nat), t = .int .i64 i ∧ u = .bool (wfo key val put (l.take i)).2 ∧ i ≤ n ∧ OwnE prE wr w.heap.size 46 v (wfo key val put (l.take i)).1 ∧ Same w wr) (fun _ _ t _ => n - (intOf t).toNat)
  case atStart => exact ⟨0, rfl, rfl, by omega, OwnE.nil _ _ _, Kept.refl _ _⟩
  case round =>
    obtain ⟨i, rfl, rfl, hi, hg, hk⟩ := hrel
    have K := Lib.hid hk; have HG := Lib.hid hg
    clear hk hg
    have LN := Lib.hid (show (wfo key val put (l.take i)).1.length ≤ 2 * n from Nat.le_trans (wfo_len key val put i (l.take i) (by rw [List.length_take]; have := HN.out; omega)) (by omega))
    by_cases hgo : i < n
    · have hil : i < l.length := by have := HN.out; omega
      obtain ⟨b, off, rfl, hbl, hc⟩ := pr_at HAT.out hil
      obtain ⟨c0, c1⟩ := hc _ K.out
      obtain ⟨x, hx⟩ : ∃ x, l[i] = x := ⟨_, rfl⟩
      have TK := Lib.hid (show wfo key val put (l.take (i + 1)) = wst key val (wfo key val put (l.take i)) x by rw [← wfo_snoc, ← hx, List.take_append_getElem])
      rw [hx] at c0 c1
      have g1 : (i : Int) < (n : Int) := by omega
      have g0 : (0 : Int) ≤ (i : Int) := by omega
      obtain ⟨s, hs⟩ : ∃ s, wfo key val put (l.take i) = s := ⟨_, rfl⟩
      rw [hs] at HG LN TK
      rw [hs]
      clear hs
      obtain ⟨o, p⟩ := s
      dsimp only at HG LN ⊢
      obtain ⟨k, v⟩ := x
      have hX := Lib.hid hx
      dsimp only at c0 c1
      have fL : Op.bytesLess k key = decide (k < key) := bless_eq k key
      have fE : (k == key) = decide (k = key) := by rw [Bool.eq_iff_iff]; simp
      have fN : (!(k == key)) = decide (¬ k = key) := by rw [fE]; simp
      have HC := Lib.hid hc
      clear hc hx
      by_cases q1 : key ≤ k ∧ p = false
      · have Q1 := Lib.hid q1
        obtain ⟨q1, rfl⟩ := q1
        rw [decide_eq_false (show ¬ k < key from q1)] at fL
        obtain ⟨v', w', hrun, ho, k5⟩ := pr_push HG.out K.out.size (by have := LN.out; omega) (key, val)
        have K5 := Lib.hid (K.out.step k5 (fun j hj q => by omega))
        have HO := Lib.hid ho
        obtain ⟨aok, aV, aW⟩ := app_of hrun
        obtain ⟨d0, d1⟩ := HC.out _ K5.out
        rw [hX.out] at d0 d1
        clear hrun ho k5
        by_cases q2 : k = key
        · have Q2 := Lib.hid q2
          rw [decide_eq_true q2] at fE
          rw [decide_eq_false (fun q => q q2)] at fN
          clear q2 q1
          go_wp2_with fail
          refine ⟨⟨i + 1, by go_num, ?_, by omega, ?_, K5.out⟩, by simp [intOf]; omega⟩
          · rw [TK.out]; unfold wst; rw [if_pos Q1.out]
          · rw [TK.out]; unfold wst; rw [if_pos Q1.out, if_pos Q2.out]; exact HO.out
        · have Q2 := Lib.hid q2
          rw [decide_eq_false q2] at fE
          rw [decide_eq_true q2] at fN
          obtain ⟨v2, w2, hrun2, ho2, k2⟩ := pr_push HO.out K5.out.size (by have := LN.out; simp; omega) (k, v)
          have K2 := Lib.hid (K5.out.step k2 (fun j hj q => by omega))
          have HO2 := Lib.hid ho2
          obtain ⟨aok2, aV2, aW2⟩ := app_of hrun2
          clear hrun2 ho2 k2 q2 q1
          go_wp2_with fail
          refine ⟨⟨i + 1, by go_num, ?_, by omega, ?_, K2.out⟩, by simp [intOf]; omega⟩
          · rw [TK.out]; unfold wst; rw [if_pos Q1.out]
          · rw [TK.out]; unfold wst; rw [if_pos Q1.out, if_neg Q2.out]; exact HO2.out
      · have Q1 := Lib.hid q1
        have fG : (!(Op.bytesLess k key) && !p) = false := by
          rw [fL]
          cases p
          · have : k < key := Classical.byContradiction fun q => q1 ⟨q, rfl⟩
            simp [this]
          · simp
        by_cases q2 : k = key
        · have Q2 := Lib.hid q2
          rw [decide_eq_true q2] at fE
          rw [decide_eq_false (fun q => q q2)] at fN
          cases p
          · have fK : k < key := Classical.byContradiction fun q => q1 ⟨q, rfl⟩
            rw [decide_eq_true fK] at fL
            clear q1 q2 fK fG
            go_wp2_with fail
            refine ⟨⟨i + 1, by go_num, ?_, by omega, ?_, K.out⟩, by simp [intOf]; omega⟩
            · rw [TK.out]; unfold wst; rw [if_neg Q1.out]
            · rw [TK.out]; unfold wst; rw [if_neg Q1.out, (if_pos Q2.out)]; exact HG.out
          · clear q1 q2 fG
            cases fv : Op.bytesLess k key
            · clear fL
              go_wp2_with fail
              refine ⟨⟨i + 1, by go_num, ?_, by omega, ?_, K.out⟩, by simp [intOf]; omega⟩
              · rw [TK.out]; unfold wst; rw [if_neg Q1.out]
              · rw [TK.out]; unfold wst; rw [if_neg Q1.out, (if_pos Q2.out)]; exact HG.out
            · clear fL
              go_wp2_with fail
              refine ⟨⟨i + 1, by go_num, ?_, by omega, ?_, K.out⟩, by simp [intOf]; omega⟩
              · rw [TK.out]; unfold wst; rw [if_neg Q1.out]
              · rw [TK.out]; unfold wst; rw [if_neg Q1.out, (if_pos Q2.out)]; exact HG.out
        · have Q2 := Lib.hid q2
          rw [decide_eq_false q2] at fE
          rw [decide_eq_true q2] at fN
          obtain ⟨v2, w2, hrun2, ho2, k2⟩ := pr_push HG.out K.out.size (by have := LN.out; omega) (k, v)
          have K2 := Lib.hid (K.out.step k2 (fun j hj q => by omega))
          have HO2 := Lib.hid ho2
          obtain ⟨aok2, aV2, aW2⟩ := app_of hrun2
          clear hrun2 ho2 k2
          cases p
          · have fK : k < key := Classical.byContradiction fun q => q1 ⟨q, rfl⟩
            rw [decide_eq_true fK] at fL
            clear q1 q2 fK fG
            go_wp2_with fail
            refine ⟨⟨i + 1, by go_num, ?_, by omega, ?_, K2.out⟩, by simp [intOf]; omega⟩
            · rw [TK.out]; unfold wst; rw [if_neg Q1.out]
            · rw [TK.out]; unfold wst; rw [if_neg Q1.out, (if_neg Q2.out)]; exact HO2.out
          · clear q1 q2 fG
            cases fv : Op.bytesLess k key
            · clear fL
              go_wp2_with fail
              refine ⟨⟨i + 1, by go_num, ?_, by omega, ?_, K2.out⟩, by simp [intOf]; omega⟩
              · rw [TK.out]; unfold wst; rw [if_neg Q1.out]
              · rw [TK.out]; unfold wst; rw [if_neg Q1.out, (if_neg Q2.out)]; exact HO2.out
            · clear fL
              go_wp2_with fail
              refine ⟨⟨i + 1, by go_num, ?_, by omega, ?_, K2.out⟩, by simp [intOf]; omega⟩
              · rw [TK.out]; unfold wst; rw [if_neg Q1.out]
              · rw [TK.out]; unfold wst; rw [if_neg Q1.out, (if_neg Q2.out)]; exact HO2.out
    · have hin : i = n := by omega
      have g1 : ¬ (i : Int) < (n : Int) := by omega
      have e1 : l.take i = l := List.take_of_length_le (by have := HN.out; omega)
      rw [e1] at HG LN
      rw [e1]
      obtain ⟨s, hs⟩ : ∃ s, wfo key val put l = s := ⟨_, rfl⟩
      rw [hs] at HG LN WT ⊢
      clear hs
      obtain ⟨o, p⟩ := s
      dsimp only at HG LN WT ⊢
      cases p
      · obtain ⟨v', w', hrun, ho, k5⟩ := pr_push HG.out K.out.size (by have := LN.out; omega) (key, val)
        have K5 := Lib.hid (K.out.step k5 (fun j hj q => by omega))
        have HO := Lib.hid ho
        obtain ⟨aok, aV, aW⟩ := app_of hrun
        clear hrun ho k5
        go_wp2_with fail
        go_ret
        exact ⟨⟨_, rfl, by rw [WT.out]; first | (rw [if_pos rfl]; exact HO.out) | (rw [if_pos trivial]; exact HO.out)⟩, K5.out⟩
      · go_wp2_with fail
        go_ret
        exact ⟨⟨_, rfl, by rw [WT.out, if_neg (by decide)]; exact HG.out⟩, K.out⟩
end
end Go.Proofs.Ytaeiajodbpgbbaa
