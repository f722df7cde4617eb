/- Aw27: law 27's awake, run by the kernel; lines and words by their contracts. -/
import Derived.Test.YtnjmdldhgconmaaGreatDoorEvT
import Derived.Test.YtnjmdldhgconmaaGreatDoorGCqB
namespace Go.Proofs.YtnjmdldhgconmaaGreatDoor

theorem num1 {d : UInt8} {n : Nat} (h : n < 10) (hd : d = UInt8.ofNat (48 + n)) : numOf [d] = some n := by
  have e : digT n = [d] := by rw [dig_small h, hd]
  rw [← e]
  exact num_dig (by rw [e]; simp)
namespace Ev
/-- begin; put 0 k v; commit 0; bad; scan 1 - - 9. -/
def tblP : List (List UInt8 × Option Stp) := [([98, 101, 103, 105, 110], some (stp0 0)), ([112, 117, 116, 32, 48, 32, 107, 32, 118], some ⟨2, 0, [107], [118], 0, false, []⟩), ([99, 111, 109, 109, 105, 116, 32, 48], some (stp0 5)), ([98, 97, 100], none), ([115, 99, 97, 110, 32, 49, 32, 45, 32, 45, 32, 57], some ⟨4, 1, [], [], 9, false, []⟩)]
def tblW : List (List UInt8 × List UInt8) := [([107], [107]), ([118], [118])]
def tblU : List (List UInt8 × List UInt8) := [([120, 58, 48, 97, 50, 100], [10, 45])]
def stpL : Stp := ⟨2, 3, [97, 32, 98], [], 0, false, []⟩
def linL : List UInt8 := [112, 117, 116, 32, 51, 32, 120, 58, 54, 49, 50, 48, 54, 50, 32, 45]
theorem p_begin : parseT [98, 101, 103, 105, 110] = some (stp0 0) := by
  show parseW (splitT _) = _
  rw [show splitT [98, 101, 103, 105, 110] = [[98, 101, 103, 105, 110]] by decide, parse_at (k := 0) rfl]
  rfl
theorem p_put : parseT [112, 117, 116, 32, 48, 32, 107, 32, 118] = some ⟨2, 0, [107], [118], 0, false, []⟩ := by
  show parseW (splitT _) = _
  rw [show splitT [112, 117, 116, 32, 48, 32, 107, 32, 118] = [[112, 117, 116], [48], [107], [118]] by decide, parse_at (k := 2) rfl]
  simp only [putFs, putF, num1 (n := 0) (d := 48) (by decide) (by decide), Option.map_some, show unwordT [107] = some [107] by decide, show unwordT [118] = some [118] by decide]
  rfl
theorem p_commit : parseT [99, 111, 109, 109, 105, 116, 32, 48] = some (stp0 5) := by
  show parseW (splitT _) = _
  rw [show splitT [99, 111, 109, 109, 105, 116, 32, 48] = [[99, 111, 109, 109, 105, 116], [48]] by decide, parse_at (k := 5) rfl]
  simp only [putFs, putF, num1 (n := 0) (d := 48) (by decide) (by decide), Option.map_some]
  rfl
theorem p_bad : parseT [98, 97, 100] = none := by
  show parseW (splitT _) = _
  rw [show splitT [98, 97, 100] = [[98, 97, 100]] by decide]
  refine parse_none (fun k fs h => ?_) []
  have hk := shape_lt h
  have key : ∀ k, k < 13 → (shapeT k).all (fun p => !(p.1 == [98, 97, 100])) = true := by decide
  have := key k hk
  rw [h] at this
  simp at this
theorem p_scan : parseT [115, 99, 97, 110, 32, 49, 32, 45, 32, 45, 32, 57] = some ⟨4, 1, [], [], 9, false, []⟩ := by
  show parseW (splitT _) = _
  rw [show splitT [115, 99, 97, 110, 32, 49, 32, 45, 32, 45, 32, 57] = [[115, 99, 97, 110], [49], [45], [45], [57]] by decide, parse_at (k := 4) rfl]
  simp only [putFs, putF, num1 (n := 1) (d := 49) (by decide) (by decide), num1 (n := 9) (d := 57) (by decide) (by decide), Option.map_some, show unwordT [45] = some [] by decide]
  rfl
theorem p_line : parseT linL = some stpL := by
  show parseW (splitT _) = _
  rw [show splitT linL = [[112, 117, 116], [51], [120, 58, 54, 49, 50, 48, 54, 50], [45]] by decide, parse_at (k := 2) rfl]
  simp only [putFs, putF, num1 (n := 3) (d := 51) (by decide) (by decide), Option.map_some, show unwordT [120, 58, 54, 49, 50, 48, 54, 50] = some [97, 32, 98] by decide, show unwordT [45] = some [] by decide]
  rfl
theorem tblP_ok : ∀ p ∈ tblP, parseT p.1 = p.2 ∧ p.1.length ≤ 1000 ∧ ∀ s, p.2 = some s → s.k ≠ 11 ∧ s.f = [] := by
  intro p hp
  simp only [tblP, List.mem_cons, List.not_mem_nil, or_false] at hp
  rcases hp with rfl | rfl | rfl | rfl | rfl
  · exact ⟨p_begin, by decide, fun s h => by cases h; exact ⟨by decide, rfl⟩⟩
  · exact ⟨p_put, by decide, fun s h => by cases h; exact ⟨by decide, rfl⟩⟩
  · exact ⟨p_commit, by decide, fun s h => by cases h; exact ⟨by decide, rfl⟩⟩
  · exact ⟨p_bad, by decide, fun s h => by cases h⟩
  · exact ⟨p_scan, by decide, fun s h => by cases h; exact ⟨by decide, rfl⟩⟩
theorem tblW_ok : ∀ p ∈ tblW, wordT p.1 = p.2 ∧ p.1.length ≤ 1000 := by decide
theorem tblU_ok : ∀ p ∈ tblU, unwordT p.1 = some p.2 ∧ p.1.length ≤ 1000 := by decide
/-- A step's value. -/
theorem stpA_rel {V : Vn} {s : Stp} {B : Nat} {w : World} {v : Value} (h : StpV B w s v) (hk : s.k ≠ 11 ∧ s.f = []) : (stpA s).rel V v := by
  obtain ⟨a, c, rfl, -, -, h0⟩ := h
  obtain ⟨rfl, rfl⟩ := h0 hk.1
  refine ⟨[.int .u8 (s.k : Nat), .int .i64 s.txn, encStr s.key, encStr s.val, .int .i64 s.n, .bool s.d, .slice none s.f.length 0], ?_, rfl⟩
  rw [hk.2]
  exact ⟨rfl, rfl, rfl, rfl, rfl, rfl, rfl, trivial⟩
theorem str_arg {V : Vn} {l : List UInt8} {xs : List Value} (h : All2 (AV.rel V) [.V (.C (.S l))] xs) : xs = [encStr l] := by
  match xs, h with
  | [v], h =>
    have : v = .string ⟨l.toArray⟩ := h.1
    rw [this]
theorem word_okM : YOkM MaxOK 12 (wordG tblW) := by
  intro ob vals ks hM args h h' z q V w xs s hr
  unfold wordG at q
  split at q
  case h_2 => cases q
  split at q
  case h_2 => cases q
  rename_i l _ r hl
  injection q with q; injection q with q1 q2; subst q1; subst q2
  rw [str_arg hr]
  obtain ⟨e1, e2⟩ := tblW_ok _ (lookT_at hl)
  refine (co_word l (by have : l.length ≤ 1000 := e2; omega) w).mono ?_
  rintro e w' ⟨rfl, k⟩
  obtain ⟨s1, x1⟩ := Sim.same s k
  have e1 : wordT l = r := e1
  exact ⟨_, rfl, V, by rw [e1]; rfl, s1, x1⟩
theorem unword_okM : YOkM MaxOK 8 (unwordG tblU) := by
  intro ob vals ks hM args h h' z q V w xs s hr
  unfold unwordG at q
  split at q
  case h_2 => cases q
  split at q
  case h_2 => cases q
  rename_i l _ r hl
  injection q with q; injection q with q1 q2; subst q1; subst q2
  rw [str_arg hr]
  obtain ⟨e1, e2⟩ := tblU_ok _ (lookT_at hl)
  refine (co_unword l (by have : l.length ≤ 1000 := e2; omega) w).mono ?_
  rintro e w' ⟨rfl, k⟩
  obtain ⟨s1, x1⟩ := Sim.same s k
  have e1 : unwordT l = some r := e1
  refine ⟨_, rfl, V, ?_, s1, x1⟩
  unfold unwordP
  rw [e1]
  exact ⟨[encStr r, .bool true], ⟨rfl, rfl, trivial⟩, rfl⟩
theorem parse_okM : YOkM MaxOK 10 (parseG tblP) := by
  intro ob vals ks hM args h h' z q V w xs s hr
  unfold parseG at q
  split at q
  case h_2 => cases q
  rename_i l hx
  split at q
  case h_3 => cases q
  case h_1 st hl =>
    injection q with q; injection q with q1 q2; subst q1; subst q2
    rw [str_arg hr]
    obtain ⟨e1, e2, e3⟩ := tblP_ok _ (lookT_at hl)
    have e1 : parseT l = some st := e1
    refine (co_parse l (by have : l.length ≤ 1000 := e2; omega) w (hM w (known_at s hx))).mono ?_
    rintro e w' ⟨v, rfl, ⟨sv, rfl, hsv⟩, k⟩
    obtain ⟨s1, x1⟩ := Sim.same s k
    rw [e1] at hsv
    rw [e1]
    exact ⟨_, rfl, V, ⟨[sv, .bool true], ⟨stpA_rel hsv (e3 st rfl), rfl, trivial⟩, rfl⟩, s1, x1⟩
  case h_2 hl =>
    injection q with q; injection q with q1 q2; subst q1; subst q2
    rw [str_arg hr]
    obtain ⟨e1, e2, e3⟩ := tblP_ok _ (lookT_at hl)
    have e1 : parseT l = none := e1
    refine (co_parse l (by have : l.length ≤ 1000 := e2; omega) w (hM w (known_at s hx))).mono ?_
    rintro e w' ⟨v, rfl, ⟨sv, rfl, hsv⟩, k⟩
    obtain ⟨s1, x1⟩ := Sim.same s k
    rw [e1] at hsv
    rw [e1]
    exact ⟨_, rfl, V, ⟨[sv, .bool false], ⟨stpA_rel hsv ⟨by decide, rfl⟩, rfl, trivial⟩, rfl⟩, s1, x1⟩
theorem line_okM : YOkM MaxOK 18 (lineG stpL linL) := by
  intro ob vals ks hM args h h' z q V w xs s hr
  unfold lineG at q
  split at q
  case h_2 => cases q
  rename_i x hx
  split at q
  case h_2 => cases q
  rename_i hd
  have hd := of_decide_eq_true hd
  subst hd
  injection q with q; injection q with q1 q2; subst q1; subst q2
  match xs, hr with
  | [v], hr =>
    have hv : v = .agg #[.int .u8 (stpL.k : Nat), .int .i64 stpL.txn, encStr stpL.key, encStr stpL.val, .int .i64 stpL.n, .bool stpL.d, .slice none stpL.f.length 0] := by
      obtain ⟨vs, q1, rfl⟩ : (stpA stpL).rel V v := hr.1
      match vs, q1 with
      | [v0, v1, v2, v3, v4, v5, v6], ⟨h0, h1, h2, h3, h4, h5, h6, _⟩ =>
        have h0 : v0 = _ := h0
        have h1 : v1 = _ := h1
        have h2 : v2 = _ := h2
        have h3 : v3 = _ := h3
        have h4 : v4 = _ := h4
        have h5 : v5 = _ := h5
        have h6 : v6 = _ := h6
        subst h0 h1 h2 h3 h4 h5 h6
        rfl
    subst hv
    refine (co_line stpL ⟨by decide, by decide, by decide, by decide, by decide, by decide, by decide⟩ none 0 w (.inl rfl) (hM w (known_at s hx))).mono ?_
    rintro e w' ⟨rfl, k⟩
    obtain ⟨s1, x1⟩ := Sim.same s k
    refine ⟨_, rfl, V, ?_, s1, x1⟩
    unfold lineV
    rw [line_parse p_line]
    exact ⟨[encStr linL, .bool true], ⟨rfl, rfl, trivial⟩, rfl⟩
noncomputable def entC : List (EnyM MaxOK) := [⟨10, parseG tblP, parse_okM⟩, ⟨12, wordG tblW, word_okM⟩, ⟨8, unwordG tblU, unword_okM⟩, ⟨18, lineG stpL linL, line_okM⟩]
theorem aw27_ran : ranOk ((clK (iyK entC) (nat_lit 300)).call 7 [] (h0 numG tabG 0)) = true := by kernel_rfl
end Ev
theorem aw27 (w : World) (hT : TabOK w) (hM : MaxOK w) : Calls Tryz.prog 7 #[] w fun e w' => e = .returned (.bool true) ∧ Same w w' := by
  obtain ⟨m, hm⟩ := hM
  obtain ⟨o, ho⟩ : ∃ o, w.heap[0]? = some o := ⟨_, Array.getElem?_eq_getElem (World.block_lt_of_cell? w _ hm)⟩
  refine Ev.ranK Ev.aw27_ran w hT (g := 0) ho (fun w' hw' => ⟨m, ?_⟩)
  rw [← hm]
  simp only [World.cell?, hw', ho]
end Go.Proofs.YtnjmdldhgconmaaGreatDoor
