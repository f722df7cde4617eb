/- GCpB: Cp6, Cp7, Cp8, Cp9. -/
import Derived.Test.YtnjmdldhgconmaaGreatDoorGCpA
namespace Go.Proofs.YtnjmdldhgconmaaGreatDoor
open Go.RowKit Go.Sort

/-- Texts in a row. -/
def WsAt (w : World) (a : Option Addr) (ws : List Tx) : Prop := ws = [] ∨ ∃ g i, a = some ⟨g, i, none⟩ ∧ g < w.heap.size ∧ ∀ j x, ws[j]? = some x → w.cell? ⟨g, i + j, none⟩ = some (encStr x)
theorem WsAt.kept {w w' : World} {a : Option Addr} {ws : List Tx} {fp : Nat → Prop} (h : WsAt w a ws) (k : Kept fp w w') (hn : ∀ x, a = some x → ¬ fp x.block) : WsAt w' a ws := by
  rcases h with h | ⟨g, i, rfl, hg, hc⟩
  · exact .inl h
  · exact .inr ⟨g, i, rfl, Nat.lt_of_lt_of_le hg k.size, fun j x hx => by rw [k.cell (p := ⟨g, i + j, none⟩) hg (hn ⟨g, i, none⟩ rfl)]; exact hc j x hx⟩
/-- A reader in block rb: the words that are left, and whether all was well. -/
def RdIn (w : World) (B rb : Nat) (ws : List Tx) (ok : Bool) : Prop :=
  ∃ a c, Blk w rb #[.slice a ws.length c, .bool ok] 63 ∧ WsAt w a ws ∧ (∀ x, a = some x → x.block ≠ rb ∧ x.block < B) ∧ ws.length ≤ c ∧ c ≤ maxLen
theorem RdIn.same {w w' : World} {B rb : Nat} {ws : List Tx} {ok : Bool} (h : RdIn w B rb ws ok) (k : Same w w') : RdIn w' B rb ws ok := by
  obtain ⟨a, c, hb, hw, hn, hc⟩ := h
  exact ⟨a, c, hb.kept k (fun h => h), hw.kept k (fun _ _ h => h), hn, hc⟩
/-- A block of another is written. -/
theorem RdIn.apart {w w' : World} {B rb y : Nat} {ws : List Tx} {ok : Bool} (h : RdIn w B rb ws ok) (k : Kept (fun j => j = y) w w') (hy : y ≠ rb) (hB : B ≤ y) : RdIn w' B rb ws ok := by
  obtain ⟨a, c, hb, hw, hn, hc⟩ := h
  exact ⟨a, c, hb.kept k (fun e => hy e.symm), hw.kept k (fun x e h => by have := (hn x e).2; have h' : x.block = y := h; omega), hn, hc⟩
/-- Whether all was well is set. -/
theorem RdIn.setOk {w : World} {B rb : Nat} {ws : List Tx} {ok : Bool} (h : RdIn w B rb ws ok) (b : Bool) : RdIn (w.setCell ⟨rb, 1, none⟩ (.bool b)) B rb ws b := by
  obtain ⟨a, c, hb, hw, hn, hc⟩ := h
  exact ⟨a, c, hb.set 1 _, hw.kept ((Kept.refl (fun k => k = rb) w).setCell (p := ⟨rb, 1, none⟩) (fun _ => rfl) _) (fun x e => (hn x e).1), hn, hc⟩

set_option maxRecDepth 100000 in
theorem rd_word (B rb : Nat) (ws : List Tx) (ok : Bool) (w : World) (h : RdIn w B rb ws ok) :
    Calls Tryz.prog 50 #[.pointer (some ⟨rb, 0, none⟩)] w fun e w' => e = .returned (encStr (ws.headD [])) ∧ RdIn w' B rb ws.tail (ok && !(ws == [])) ∧ Kept (fun k => k = rb) w w' := by
  have H := Lib.hid h
  obtain ⟨a, c, hb, hw, hn, hc, hm⟩ := h
  have p0 := cell_blk hb 0
  have p1 := cell_blk hb 1
  have f0 := Blk.free hb 0
  have f1 := Blk.free hb 1
  cases ws with
  | nil =>
    clear hw hn
    go_enter Tryz.func50, Tryz.ntmps50
    go_wp2_with fail
    go_ret
    refine ⟨rfl, ?_, (Kept.refl (fun k => k = rb) w).setCell (p := ⟨rb, 1, none⟩) (fun _ => rfl) _⟩
    have := H.out.setOk false
    rw [show (ok && !(([] : List Tx) == [])) = false by simp]
    exact this
  | cons w0 r =>
    rcases hw with hw | ⟨g, i, rfl, hg, hcl⟩
    · cases hw
    have c0 := hcl 0 w0 rfl
    rw [Nat.add_zero] at c0
    have HB := Lib.hid hb; have HN := Lib.hid (hn _ rfl); have HC := Lib.hid hcl; have HG := Lib.hid hg
    simp only [List.length_cons] at hc
    clear hb hn hcl hg
    go_enter Tryz.func50, Tryz.ntmps50
    go_wp2_with fail
    · go_ret
      have hr : r = [] := List.eq_nil_of_length_eq_zero (by omega)
      subst hr
      exact ⟨rfl, ⟨_, 0, HB.out.set 0 _, .inl rfl, fun x e => by cases e; exact HN.out, Nat.le_refl _, Nat.zero_le _⟩, (Kept.refl (fun k => k = rb) w).setCell (p := ⟨rb, 0, none⟩) (fun _ => rfl) _⟩
    · go_ret
      have K := (Kept.refl (fun k => k = rb) w).setCell (p := ⟨rb, 0, none⟩) (fun _ => rfl) (.slice (some ⟨g, i + 1, none⟩) r.length (c - 1))
      have WA : WsAt w (some ⟨g, i + 1, none⟩) r := .inr ⟨g, i + 1, rfl, HG.out, fun j x hx => by
        rw [Nat.add_right_comm, Nat.add_assoc]
        exact HC.out (j + 1) x hx⟩
      exact ⟨rfl, ⟨_, _, HB.out.set 0 _, WA.kept K (fun x e => by cases e; exact HN.out.1), fun x e => by cases e; exact HN.out, by omega, by omega⟩, K⟩
end Go.Proofs.YtnjmdldhgconmaaGreatDoor

namespace Go.Proofs.YtnjmdldhgconmaaGreatDoor
open Go.RowKit Go.Sort

set_option maxRecDepth 100000 in
theorem rd_text (B rb : Nat) (ws : List Tx) (ok : Bool) (w : World) (h : RdIn w B rb ws ok) (hl : ∀ x ∈ ws, x.length ≤ 1000000) :
    Calls Tryz.prog 49 #[.pointer (some ⟨rb, 0, none⟩)] w fun e w' => e = .returned (encStr ((unwordT (ws.headD [])).getD [])) ∧ RdIn w' B rb ws.tail ((ok && !(ws == [])) && (unwordT (ws.headD [])).isSome) ∧ Kept (fun k => k = rb) w w' := by
  have RW := Lib.hid (rd_word B rb ws ok w h)
  have UW := Lib.hid (fun w => co_unword (ws.headD []) (by cases ws with | nil => simp | cons x r => exact hl x (by simp)) w)
  obtain ⟨ok1, ho1⟩ : ∃ b, (ok && !(ws == [])) = b := ⟨_, rfl⟩
  rw [ho1] at RW
  rw [ho1]
  obtain ⟨w0, hw0⟩ : ∃ x, ws.headD [] = x := ⟨_, rfl⟩
  rw [hw0] at RW UW
  rw [hw0]
  unfold unwordP at UW
  obtain ⟨tx, htx⟩ : ∃ x, (unwordT w0).getD [] = x := ⟨_, rfl⟩
  obtain ⟨tk, htk⟩ : ∃ x, (unwordT w0).isSome = x := ⟨_, rfl⟩
  rw [htx, htk] at UW
  rw [htx, htk]
  clear h hl ho1 hw0 htx htk
  go_enter Tryz.func49, Tryz.ntmps49
  go_wp2_with fail
  refine RW.out.mono ?_
  rintro e w1 ⟨rfl, r1, k1⟩
  have R1 := Lib.hid r1; have K1 := Lib.hid k1
  clear r1 k1 RW
  go_wp2_with fail
  refine (UW.out _).mono ?_
  rintro e w2 ⟨rfl, k2⟩
  have R2 := Lib.hid (R1.out.same k2)
  have K2 := Lib.hid (K1.out.step k2 (fun _ _ h => h.elim))
  clear k2 R1 K1 UW
  obtain ⟨a, c, hb, -⟩ := R2.out
  have p0 := cell_blk hb 0
  have p1 := cell_blk hb 1
  have f0 := Blk.free hb 0
  have f1 := Blk.free hb 1
  clear hb
  have K3 := Lib.hid (fun b => K2.out.setCell (p := ⟨rb, 1, none⟩) (fun _ => rfl) (.bool b))
  have R3 := Lib.hid (fun b => R2.out.setOk b)
  cases ok1 with
  | false =>
    go_wp2_with fail
    go_ret
    exact ⟨rfl, R3.out _, K3.out _⟩
  | true =>
    go_wp2_with fail
    go_ret
    exact ⟨rfl, R3.out _, K3.out _⟩

theorem val_lt (n : Nat) : ∀ w : Tx, w.length ≤ n → w.all isDig = true → valT w < 10 ^ w.length := by
  induction n with
  | zero => intro w h _; obtain rfl : w = [] := List.eq_nil_of_length_eq_zero (by omega); decide
  | succ n ih =>
    intro w h hd
    rcases List.eq_nil_or_concat w with rfl | ⟨v, c, rfl⟩
    · decide
    · rw [List.concat_eq_append] at *
      rw [List.all_append] at hd
      simp only [Bool.and_eq_true] at hd
      have h1 := ih v (by simp at h; omega) hd.1
      have h2 := hd.2
      simp only [List.all_cons, List.all_nil, Bool.and_true, isDig, Bool.and_eq_true, decide_eq_true_eq] at h2
      rw [val_snoc, List.length_append, List.length_singleton, Nat.pow_succ]
      omega
theorem pow12 {n : Nat} (h : n ≤ 12) : 10 ^ n ≤ 1000000000000 := by
  have := Nat.pow_le_pow_right (n := 10) (by decide) h
  exact this
set_option maxRecDepth 100000 in
set_option maxHeartbeats 1600000 in
theorem rd_number (B rb : Nat) (ws : List Tx) (ok : Bool) (w : World) (h : RdIn w B rb ws ok) (hl : ∀ x ∈ ws, x.length ≤ 1000000) :
    Calls Tryz.prog 48 #[.pointer (some ⟨rb, 0, none⟩)] w fun e w' => e = .returned (.int .i64 ((numP (ws.headD [])).1 : Nat)) ∧ RdIn w' B rb ws.tail ((ok && !(ws == [])) && (numP (ws.headD [])).2) ∧ Kept (fun k => k = rb) w w' := by
  have RW := Lib.hid (rd_word B rb ws ok w h)
  obtain ⟨ok1, ho1⟩ : ∃ b, (ok && !(ws == [])) = b := ⟨_, rfl⟩
  rw [ho1] at RW
  rw [ho1]
  have hL : (ws.headD []).length ≤ 1000000 := by cases ws with | nil => simp | cons x r => exact hl x (by simp)
  obtain ⟨l, hw0⟩ : ∃ x, ws.headD [] = x := ⟨_, rfl⟩
  rw [hw0] at RW hL
  rw [hw0]
  clear h hl ho1 hw0
  go_enter Tryz.func48, Tryz.ntmps48
  go_wp2_with fail
  refine RW.out.mono ?_
  rintro e w1 ⟨rfl, r1, k1⟩
  obtain ⟨cc, w2, hcv, hat, -, hk2⟩ := conv_byt l w1
  have R2 := Lib.hid (r1.same hk2); have K2 := Lib.hid (k1.step hk2 (fun _ _ h => h.elim)); have AT := Lib.hid hat
  obtain ⟨m, hm⟩ : ∃ m, w1.heap.size = m := ⟨_, rfl⟩
  rw [hm] at AT hcv
  clear r1 k1 RW hat hk2 hm
  go_wp2_with fail
  clear hcv
  obtain ⟨a, c, hb, -⟩ := R2.out
  have p0 := cell_blk hb 0
  have p1 := cell_blk hb 1
  have f0 := Blk.free hb 0
  have f1 := Blk.free hb 1
  clear hb
  have K3 := Lib.hid (fun b => K2.out.setCell (p := ⟨rb, 1, none⟩) (fun _ => rfl) (.bool b))
  have R3 := Lib.hid (fun b => R2.out.setOk b)
  go_loopw [4, 12] (fun n t wr => ∃ i : Nat, n = .int .i64 (valT (l.take i) : Nat) ∧ t = .int .i64 i ∧ i ≤ l.length ∧ (l.take i).all isDig = true ∧ (0 < i → l.length ≤ 12) ∧ wr = w2) (fun _ t _ => l.length - (intOf t).toNat)
  case atStart => exact ⟨0, rfl, rfl, by omega, rfl, fun h => by omega, rfl⟩
  case round =>
    obtain ⟨i, rfl, rfl, hi, ho, h12, rfl⟩ := hrel
    have HO := Lib.hid ho
    clear ho
    by_cases hgo : i < l.length
    · have g1 : (i : Int) < (l.length : Int) := by omega
      have g0 : (0 : Int) ≤ (i : Int) := by omega
      obtain ⟨ab, ao, y, hae, hab, hx, hc⟩ := AT.out.at (i := i) (by rw [natsU_len]; exact hgo)
      obtain ⟨rfl, rfl⟩ : m = ab ∧ 0 = ao := by
        simp only [Option.some.injEq, Addr.mk.injEq, and_true] at hae
        exact hae
      rw [Nat.zero_add] at hc
      have hxy : (l[i]).toNat = y := by
        simp only [natsU, List.getElem?_map, List.getElem?_eq_getElem hgo, Option.map_some] at hx
        exact Option.some.inj hx
      clear hae hx
      have hTk : l.take (i + 1) = l.take i ++ [l[i]] := by rw [List.take_add_one, List.getElem?_eq_getElem hgo]; rfl
      have hbad : (¬ (48 ≤ y ∧ y ≤ 57) ∨ 12 < l.length) → numP l = (0, false) := fun h => by
        unfold numP
        rw [if_neg]
        rintro ⟨h1, h2⟩
        rcases h with h | h
        · rw [List.all_eq_true] at h1
          have h3 := h1 l[i] (List.getElem_mem hgo)
          simp only [isDig, hxy, Bool.and_eq_true, decide_eq_true_eq] at h3
          exact h h3
        · omega
      by_cases hy1 : y < 48
      · have NP := Lib.hid (hbad (.inl (by omega)))
        have y1 : (y : Int) < 48 := by omega
        clear hbad hTk
        go_wp2_with fail
        go_ret
        exact ⟨by rw [NP.out]; rfl, by rw [NP.out, Bool.and_false]; exact R3.out false, K3.out _⟩
      · have y1 : ¬ (y : Int) < 48 := by omega
        by_cases hy2 : 57 < y
        · have NP := Lib.hid (hbad (.inl (by omega)))
          have y2 : (57 : Int) < (y : Int) := by omega
          clear hbad hTk
          go_wp2_with fail
          go_ret
          exact ⟨by rw [NP.out]; rfl, by rw [NP.out, Bool.and_false]; exact R3.out false, K3.out _⟩
        · have y2 : ¬ (57 : Int) < (y : Int) := by omega
          by_cases hy3 : 12 < l.length
          · have NP := Lib.hid (hbad (.inr hy3))
            have y3 : (12 : Int) < (l.length : Int) := by omega
            clear hbad hTk
            go_wp2_with fail
            go_ret
            exact ⟨by rw [NP.out]; rfl, by rw [NP.out, Bool.and_false]; exact R3.out false, K3.out _⟩
          · have y3 : ¬ (12 : Int) < (l.length : Int) := by omega
            have hv := val_lt 1000000 (l.take i) (by rw [List.length_take]; omega) HO.out
            have hp := pow12 (n := (l.take i).length) (by rw [List.length_take]; omega)
            have VT := Lib.hid (show valT (l.take (i + 1)) = 10 * valT (l.take i) + (y - 48) by rw [hTk, val_snoc, hxy])
            have DT := Lib.hid (show (l.take (i + 1)).all isDig = true by
              rw [hTk, List.all_append, HO.out]
              simp [isDig, hxy]
              omega)
            clear hbad hTk
            obtain ⟨vt, hvt⟩ : ∃ v, valT (l.take i) = v := ⟨_, rfl⟩
            rw [hvt] at VT hv
            rw [hvt]
            have hv2 : vt < 1000000000000 := by omega
            clear hvt hv hp
            go_wp2_with fail
            go_roundw
            case rel => exact ⟨i + 1, by rw [VT.out]; go_num, by go_num, by omega, DT.out, fun _ => by omega, trivial⟩
            case measure => simp [intOf]; omega
    · have g1 : ¬ (i : Int) < (l.length : Int) := by omega
      have e : i = l.length := by omega
      subst e
      rw [List.take_length] at HO
      rw [List.take_length]
      have h12' : l.length ≤ 12 := by
        rcases Nat.eq_zero_or_pos l.length with h | h
        · omega
        · exact h12 h
      have NP : Hid (numP l = (valT l, decide (digT (valT l) = l))) := by
        show _ = _
        unfold numP
        rw [if_pos ⟨HO.out, h12'⟩]
      have hv := val_lt 1000000 l hL HO.out
      have hp := pow12 h12'
      obtain ⟨vt, hvt⟩ : ∃ v, valT l = v := ⟨_, rfl⟩
      rw [hvt] at NP hv
      rw [hvt]
      have hv2 : vt < 1000000000000 := by omega
      have NU := Lib.hid (fun w => co_num (vt : Int) (by omega) (by omega) w)
      rw [num_nat] at NU
      obtain ⟨pb, hpb⟩ : ∃ b, decide (digT vt = l) = b := ⟨_, rfl⟩
      have hqb : (digT vt == l) = pb := by rw [← hpb, Bool.eq_iff_iff]; simp
      rw [hpb] at NP
      clear hpb hvt hv hp h12 h12'
      cases ok1 with
      | false =>
        clear NU
        go_wp2_with fail
        go_ret
        exact ⟨by rw [NP.out]; rfl, R3.out _, K3.out _⟩
      | true =>
        go_wp2_with fail
        refine (NU.out _).mono ?_
        rintro e w3 ⟨rfl, rfl⟩
        go_wp2_with fail
        go_ret
        exact ⟨by rw [NP.out]; rfl, by rw [NP.out]; exact R3.out _, K3.out _⟩

set_option maxRecDepth 100000 in
theorem rd_yes (B rb : Nat) (ws : List Tx) (ok : Bool) (w : World) (h : RdIn w B rb ws ok) (hl : ∀ x ∈ ws, x.length ≤ 1000000) :
    Calls Tryz.prog 51 #[.pointer (some ⟨rb, 0, none⟩)] w fun e w' => e = .returned (.bool (decide ((numP (ws.headD [])).1 = 1))) ∧ RdIn w' B rb ws.tail (((ok && !(ws == [])) && (numP (ws.headD [])).2) && decide ((numP (ws.headD [])).1 ≤ 1)) ∧ Kept (fun k => k = rb) w w' := by
  have RN := Lib.hid (rd_number B rb ws ok w h hl)
  obtain ⟨ok1, ho1⟩ : ∃ b, ((ok && !(ws == [])) && (numP (ws.headD [])).2) = b := ⟨_, rfl⟩
  rw [ho1] at RN
  rw [ho1]
  obtain ⟨n, hn⟩ : ∃ n, (numP (ws.headD [])).1 = n := ⟨_, rfl⟩
  rw [hn] at RN
  rw [hn]
  clear h hl ho1 hn
  go_enter Tryz.func51, Tryz.ntmps51
  go_wp2_with fail
  refine RN.out.mono ?_
  rintro e w1 ⟨rfl, r1, k1⟩
  have R2 := Lib.hid r1; have K2 := Lib.hid k1
  clear r1 k1 RN
  obtain ⟨a, c, hb, -⟩ := R2.out
  have p0 := cell_blk hb 0
  have p1 := cell_blk hb 1
  have f0 := Blk.free hb 0
  have f1 := Blk.free hb 1
  clear hb
  have K3 := Lib.hid (fun b => K2.out.setCell (p := ⟨rb, 1, none⟩) (fun _ => rfl) (.bool b))
  have R3 := Lib.hid (fun b => R2.out.setOk b)
  have e1 : decide ((n : Int) ≤ 1) = decide (n ≤ 1) := by rw [Bool.eq_iff_iff]; simp; omega
  have e2 : ((n : Int) == 1) = decide (n = 1) := by rw [Bool.eq_iff_iff]; simp; omega
  cases ok1 with
  | false =>
    go_wp2_with fail
    go_ret
    exact ⟨rfl, R3.out _, K3.out _⟩
  | true =>
    go_wp2_with fail
    go_ret
    exact ⟨rfl, R3.out _, K3.out _⟩
end Go.Proofs.YtnjmdldhgconmaaGreatDoor

namespace Go.Proofs.YtnjmdldhgconmaaGreatDoor
open Go.RowKit Go.Sort

/-- A step as a value. -/
def StpV (B : Nat) (w : World) (s : Stp) (v : Value) : Prop := ∃ a c, v = .agg #[.int .u8 (s.k : Nat), .int .i64 s.txn, encStr s.key, encStr s.val, .int .i64 s.n, .bool s.d, .slice a s.f.length c] ∧ NatsAt w .u8 a (natsU s.f) ∧ (∀ x, a = some x → B ≤ x.block) ∧ (s.k ≠ 11 → a = none ∧ c = 0)
/-- What the reader's step is. -/
def stepR (ws : List Tx) (ok : Bool) : RdSt := match (List.range 13).find? (fun k => (shapeT k).any fun p => p.1 == ws.headD []) with
  | some k => rdFs (ws.tail, ok && !(ws == []), stp0 k) ((shapeT k).elim [] (·.2))
  | none => (ws.tail, false, stp0 0)
theorem Blk.set7 {w : World} {b : Nat} {v0 v1 v2 v3 v4 v5 v6 u0 u1 u2 u3 u4 u5 u6 : Value} {t : TypeId} (h : Blk w b #[v0, v1, v2, v3, v4, v5, v6] t) :
    Blk (((((((w.setCell ⟨b, 0, none⟩ u0).setCell ⟨b, 1, none⟩ u1).setCell ⟨b, 2, none⟩ u2).setCell ⟨b, 3, none⟩ u3).setCell ⟨b, 4, none⟩ u4).setCell ⟨b, 5, none⟩ u5).setCell ⟨b, 6, none⟩ u6) b #[u0, u1, u2, u3, u4, u5, u6] t := by
    have h1 : Blk _ b #[u0, v1, v2, v3, v4, v5, v6] t := h.set 0 u0
    have h2 : Blk _ b #[u0, u1, v2, v3, v4, v5, v6] t := h1.set 1 u1
    have h3 : Blk _ b #[u0, u1, u2, v3, v4, v5, v6] t := h2.set 2 u2
    have h4 : Blk _ b #[u0, u1, u2, u3, v4, v5, v6] t := h3.set 3 u3
    have h5 : Blk _ b #[u0, u1, u2, u3, u4, v5, v6] t := h4.set 4 u4
    have h6 : Blk _ b #[u0, u1, u2, u3, u4, u5, v6] t := h5.set 5 u5
    have h7 : Blk _ b #[u0, u1, u2, u3, u4, u5, u6] t := h6.set 6 u6
    exact h7

theorem Kept.seven {w : World} {b : Nat} {u0 u1 u2 u3 u4 u5 u6 : Value} : Kept (fun k => k = b) w (((((((w.setCell ⟨b, 0, none⟩ u0).setCell ⟨b, 1, none⟩ u1).setCell ⟨b, 2, none⟩ u2).setCell ⟨b, 3, none⟩ u3).setCell ⟨b, 4, none⟩ u4).setCell ⟨b, 5, none⟩ u5).setCell ⟨b, 6, none⟩ u6) := by
  have h (W : World) (k : Kept (fun k => k = b) w W) (i : Nat) (u : Value) : Kept (fun k => k = b) w (W.setCell ⟨b, i, none⟩ u) := k.setCell (fun _ => rfl) u
  exact h _ (h _ (h _ (h _ (h _ (h _ (h _ (Kept.refl _ w) 0 u0) 1 u1) 2 u2) 3 u3) 4 u4) 5 u5) 6 u6
set_option maxRecDepth 100000 in
set_option maxHeartbeats 1600000 in
theorem rd_step_get (B rb : Nat) (r : List Tx) (ok : Bool) (w : World) (h : RdIn w B rb ([103, 101, 116] :: r) ok) (hz : rb < w.heap.size) (hB : B ≤ w.heap.size) (hl : ∀ x ∈ r, x.length ≤ 1000000) :
    Calls Tryz.prog 30 #[.pointer (some ⟨rb, 0, none⟩)] w fun e w' => ∃ v, e = .returned v ∧ StpV B w' (rdFs (r, ok, stp0 1) [.t, .k]).2.2 v ∧ RdIn w' B rb (rdFs (r, ok, stp0 1) [.t, .k]).1 (rdFs (r, ok, stp0 1) [.t, .k]).2.1 ∧ Kept (fun k => k = rb) w w' := by
  have H := Lib.hid h
  have HL := Lib.hid hl
  clear h hl
  go_enter Tryz.func30, Tryz.ntmps30
  go_wp2_with fail
  have hy : w.heap.size ≠ rb := by omega
  have BY := Lib.hid (Blk.new w #[.int .u8 0, .int .i64 0, .string ⟨#[]⟩, .string ⟨#[]⟩, .int .i64 0, .bool false, .slice none 0 0] 27)
  have KA := Lib.hid (show Same w (w.alloc (.cells #[.int .u8 0, .int .i64 0, .string ⟨#[]⟩, .string ⟨#[]⟩, .int .i64 0, .bool false, .slice none 0 0] 27)) from (Kept.refl _ w).alloc _)
  obtain ⟨y, hyy⟩ : ∃ y, w.heap.size = y := ⟨_, rfl⟩
  have hBy : B ≤ y := by omega
  have KY := Lib.hid (show ∀ W : World, Kept (fun k => k = rb) w W → ∀ W', Kept (fun k => k = y) W W' → Kept (fun k => k = rb) w W' from fun W k W' k' => k.step k' (fun i hi e => by have e' : i = y := e; omega))
  rw [hyy] at BY hy
  rw [hyy]
  clear hyy
  refine (rd_word B rb _ _ _ (H.out.same KA.out)).mono ?_
  rintro e w1 ⟨rfl, r1, k1⟩
  have R1 := Lib.hid r1; have K1 := Lib.hid (((KA.out.mono (fun _ _ h => h.elim) : Kept (fun k => k = rb) _ _)).trans k1); have B1 := Lib.hid (BY.out.kept k1 hy)
  clear r1 k1 H KA BY
  have p0 := cell_blk B1.out 0
  have f0 := Blk.free B1.out 0
  have p1 := cell_blk B1.out 1
  have f1 := Blk.free B1.out 1
  have p2 := cell_blk B1.out 2
  have f2 := Blk.free B1.out 2
  have p3 := cell_blk B1.out 3
  have f3 := Blk.free B1.out 3
  have p4 := cell_blk B1.out 4
  have f4 := Blk.free B1.out 4
  have p5 := cell_blk B1.out 5
  have f5 := Blk.free B1.out 5
  have p6 := cell_blk B1.out 6
  have f6 := Blk.free B1.out 6
  rw [show (ok && !(([103, 101, 116] : Tx) :: r == [])) = ok by simp] at R1
  go_wp2_with fail
  refine (rd_number B rb _ _ _ R1.out HL.out).mono ?_
  rintro e w2 ⟨rfl, r2, k2⟩
  have R2 := Lib.hid r2; have K2 := Lib.hid (K1.out.trans k2); have B2 := Lib.hid (B1.out.kept k2 hy); have HL2 := Lib.hid (fun x hx => HL.out x (List.mem_of_mem_tail hx))
  clear r2 k2 R1 K1 B1 HL
  have R1 := R2; have K1 := K2; have B1 := B2; have HL := HL2
  clear R2 K2 B2 HL2
  clear p0 f0 p1 f1 p2 f2 p3 f3 p4 f4 p5 f5 p6 f6
  have p0 := cell_blk B1.out 0
  have f0 := Blk.free B1.out 0
  have p1 := cell_blk B1.out 1
  have f1 := Blk.free B1.out 1
  have p2 := cell_blk B1.out 2
  have f2 := Blk.free B1.out 2
  have p3 := cell_blk B1.out 3
  have f3 := Blk.free B1.out 3
  have p4 := cell_blk B1.out 4
  have f4 := Blk.free B1.out 4
  have p5 := cell_blk B1.out 5
  have f5 := Blk.free B1.out 5
  have p6 := cell_blk B1.out 6
  have f6 := Blk.free B1.out 6
  go_wp2_with fail
  refine (rd_text B rb _ _ _ R1.out HL.out).mono ?_
  rintro e w2 ⟨rfl, r2, k2⟩
  have R2 := Lib.hid r2; have K2 := Lib.hid (K1.out.trans k2); have B2 := Lib.hid (B1.out.kept k2 hy); have HL2 := Lib.hid (fun x hx => HL.out x (List.mem_of_mem_tail hx))
  clear r2 k2 R1 K1 B1 HL
  have R1 := R2; have K1 := K2; have B1 := B2; have HL := HL2
  clear R2 K2 B2 HL2
  clear p0 f0 p1 f1 p2 f2 p3 f3 p4 f4 p5 f5 p6 f6
  have p0 := cell_blk B1.out 0
  have f0 := Blk.free B1.out 0
  have p1 := cell_blk B1.out 1
  have f1 := Blk.free B1.out 1
  have p2 := cell_blk B1.out 2
  have f2 := Blk.free B1.out 2
  have p3 := cell_blk B1.out 3
  have f3 := Blk.free B1.out 3
  have p4 := cell_blk B1.out 4
  have f4 := Blk.free B1.out 4
  have p5 := cell_blk B1.out 5
  have f5 := Blk.free B1.out 5
  have p6 := cell_blk B1.out 6
  have f6 := Blk.free B1.out 6
  go_wp2_with fail
  refine bodyPost_ret (results_two rfl _ _ y 27 _ _ rfl (Blk.set7 B1.out) Tryz.underlying27 rfl (by kernel_rfl)) rfl ?_
  refine ⟨_, rfl, ⟨none, 0, by simp [rdFs, rdF, stp0], .inl rfl, fun _ h => (nomatch h), fun _ => ⟨rfl, rfl⟩⟩, ?_, KY.out _ K1.out _ Kept.seven⟩
  exact R1.out.apart Kept.seven (fun e => hy e) hBy
end Go.Proofs.YtnjmdldhgconmaaGreatDoor

namespace Go.Proofs.YtnjmdldhgconmaaGreatDoor
open Go.RowKit Go.Sort

set_option maxRecDepth 100000 in
set_option maxHeartbeats 1600000 in
theorem rd_step_begin (B rb : Nat) (r : List Tx) (ok : Bool) (w : World) (h : RdIn w B rb ([98, 101, 103, 105, 110] :: r) ok) (hz : rb < w.heap.size) (hB : B ≤ w.heap.size) (hl : ∀ x ∈ r, x.length ≤ 1000000) :
    Calls Tryz.prog 30 #[.pointer (some ⟨rb, 0, none⟩)] w fun e w' => ∃ v, e = .returned v ∧ StpV B w' (rdFs (r, ok, stp0 0) []).2.2 v ∧ RdIn w' B rb (rdFs (r, ok, stp0 0) []).1 (rdFs (r, ok, stp0 0) []).2.1 ∧ Kept (fun k => k = rb) w w' := by
  have H := Lib.hid h
  have HL := Lib.hid hl
  clear h hl
  go_enter Tryz.func30, Tryz.ntmps30
  go_wp2_with fail
  have hy : w.heap.size ≠ rb := by omega
  have BY := Lib.hid (Blk.new w #[.int .u8 0, .int .i64 0, .string ⟨#[]⟩, .string ⟨#[]⟩, .int .i64 0, .bool false, .slice none 0 0] 27)
  have KA := Lib.hid (show Same w (w.alloc (.cells #[.int .u8 0, .int .i64 0, .string ⟨#[]⟩, .string ⟨#[]⟩, .int .i64 0, .bool false, .slice none 0 0] 27)) from (Kept.refl _ w).alloc _)
  obtain ⟨y, hyy⟩ : ∃ y, w.heap.size = y := ⟨_, rfl⟩
  have hBy : B ≤ y := by omega
  have KY := Lib.hid (show ∀ W : World, Kept (fun k => k = rb) w W → ∀ W', Kept (fun k => k = y) W W' → Kept (fun k => k = rb) w W' from fun W k W' k' => k.step k' (fun i hi e => by have e' : i = y := e; omega))
  rw [hyy] at BY hy
  rw [hyy]
  clear hyy
  refine (rd_word B rb _ _ _ (H.out.same KA.out)).mono ?_
  rintro e w1 ⟨rfl, r1, k1⟩
  have R1 := Lib.hid r1; have K1 := Lib.hid (((KA.out.mono (fun _ _ h => h.elim) : Kept (fun k => k = rb) _ _)).trans k1); have B1 := Lib.hid (BY.out.kept k1 hy)
  clear r1 k1 H KA BY
  have p0 := cell_blk B1.out 0
  have f0 := Blk.free B1.out 0
  have p1 := cell_blk B1.out 1
  have f1 := Blk.free B1.out 1
  have p2 := cell_blk B1.out 2
  have f2 := Blk.free B1.out 2
  have p3 := cell_blk B1.out 3
  have f3 := Blk.free B1.out 3
  have p4 := cell_blk B1.out 4
  have f4 := Blk.free B1.out 4
  have p5 := cell_blk B1.out 5
  have f5 := Blk.free B1.out 5
  have p6 := cell_blk B1.out 6
  have f6 := Blk.free B1.out 6
  rw [show (ok && !(([98, 101, 103, 105, 110] : Tx) :: r == [])) = ok by simp] at R1
  go_wp2_with fail
  refine bodyPost_ret (results_two rfl _ _ y 27 _ _ rfl (Blk.set7 B1.out) Tryz.underlying27 rfl (by kernel_rfl)) rfl ?_
  refine ⟨_, rfl, ⟨none, 0, by simp [rdFs, stp0], .inl rfl, fun _ h => (nomatch h), fun _ => ⟨rfl, rfl⟩⟩, ?_, KY.out _ K1.out _ Kept.seven⟩
  exact R1.out.apart Kept.seven (fun e => hy e) hBy

set_option maxRecDepth 100000 in
set_option maxHeartbeats 1600000 in
theorem rd_step_put (B rb : Nat) (r : List Tx) (ok : Bool) (w : World) (h : RdIn w B rb ([112, 117, 116] :: r) ok) (hz : rb < w.heap.size) (hB : B ≤ w.heap.size) (hl : ∀ x ∈ r, x.length ≤ 1000000) :
    Calls Tryz.prog 30 #[.pointer (some ⟨rb, 0, none⟩)] w fun e w' => ∃ v, e = .returned v ∧ StpV B w' (rdFs (r, ok, stp0 2) [.t, .k, .v]).2.2 v ∧ RdIn w' B rb (rdFs (r, ok, stp0 2) [.t, .k, .v]).1 (rdFs (r, ok, stp0 2) [.t, .k, .v]).2.1 ∧ Kept (fun k => k = rb) w w' := by
  have H := Lib.hid h
  have HL := Lib.hid hl
  clear h hl
  go_enter Tryz.func30, Tryz.ntmps30
  go_wp2_with fail
  have hy : w.heap.size ≠ rb := by omega
  have BY := Lib.hid (Blk.new w #[.int .u8 0, .int .i64 0, .string ⟨#[]⟩, .string ⟨#[]⟩, .int .i64 0, .bool false, .slice none 0 0] 27)
  have KA := Lib.hid (show Same w (w.alloc (.cells #[.int .u8 0, .int .i64 0, .string ⟨#[]⟩, .string ⟨#[]⟩, .int .i64 0, .bool false, .slice none 0 0] 27)) from (Kept.refl _ w).alloc _)
  obtain ⟨y, hyy⟩ : ∃ y, w.heap.size = y := ⟨_, rfl⟩
  have hBy : B ≤ y := by omega
  have KY := Lib.hid (show ∀ W : World, Kept (fun k => k = rb) w W → ∀ W', Kept (fun k => k = y) W W' → Kept (fun k => k = rb) w W' from fun W k W' k' => k.step k' (fun i hi e => by have e' : i = y := e; omega))
  rw [hyy] at BY hy
  rw [hyy]
  clear hyy
  refine (rd_word B rb _ _ _ (H.out.same KA.out)).mono ?_
  rintro e w1 ⟨rfl, r1, k1⟩
  have R1 := Lib.hid r1; have K1 := Lib.hid (((KA.out.mono (fun _ _ h => h.elim) : Kept (fun k => k = rb) _ _)).trans k1); have B1 := Lib.hid (BY.out.kept k1 hy)
  clear r1 k1 H KA BY
  have p0 := cell_blk B1.out 0
  have f0 := Blk.free B1.out 0
  have p1 := cell_blk B1.out 1
  have f1 := Blk.free B1.out 1
  have p2 := cell_blk B1.out 2
  have f2 := Blk.free B1.out 2
  have p3 := cell_blk B1.out 3
  have f3 := Blk.free B1.out 3
  have p4 := cell_blk B1.out 4
  have f4 := Blk.free B1.out 4
  have p5 := cell_blk B1.out 5
  have f5 := Blk.free B1.out 5
  have p6 := cell_blk B1.out 6
  have f6 := Blk.free B1.out 6
  rw [show (ok && !(([112, 117, 116] : Tx) :: r == [])) = ok by simp] at R1
  go_wp2_with fail
  refine (rd_number B rb _ _ _ R1.out HL.out).mono ?_
  rintro e w2 ⟨rfl, r2, k2⟩
  have R2 := Lib.hid r2; have K2 := Lib.hid (K1.out.trans k2); have B2 := Lib.hid (B1.out.kept k2 hy); have HL2 := Lib.hid (fun x hx => HL.out x (List.mem_of_mem_tail hx))
  clear r2 k2 R1 K1 B1 HL
  have R1 := R2; have K1 := K2; have B1 := B2; have HL := HL2
  clear R2 K2 B2 HL2
  clear p0 f0 p1 f1 p2 f2 p3 f3 p4 f4 p5 f5 p6 f6
  have p0 := cell_blk B1.out 0
  have f0 := Blk.free B1.out 0
  have p1 := cell_blk B1.out 1
  have f1 := Blk.free B1.out 1
  have p2 := cell_blk B1.out 2
  have f2 := Blk.free B1.out 2
  have p3 := cell_blk B1.out 3
  have f3 := Blk.free B1.out 3
  have p4 := cell_blk B1.out 4
  have f4 := Blk.free B1.out 4
  have p5 := cell_blk B1.out 5
  have f5 := Blk.free B1.out 5
  have p6 := cell_blk B1.out 6
  have f6 := Blk.free B1.out 6
  go_wp2_with fail
  refine (rd_text B rb _ _ _ R1.out HL.out).mono ?_
  rintro e w2 ⟨rfl, r2, k2⟩
  have R2 := Lib.hid r2; have K2 := Lib.hid (K1.out.trans k2); have B2 := Lib.hid (B1.out.kept k2 hy); have HL2 := Lib.hid (fun x hx => HL.out x (List.mem_of_mem_tail hx))
  clear r2 k2 R1 K1 B1 HL
  have R1 := R2; have K1 := K2; have B1 := B2; have HL := HL2
  clear R2 K2 B2 HL2
  clear p0 f0 p1 f1 p2 f2 p3 f3 p4 f4 p5 f5 p6 f6
  have p0 := cell_blk B1.out 0
  have f0 := Blk.free B1.out 0
  have p1 := cell_blk B1.out 1
  have f1 := Blk.free B1.out 1
  have p2 := cell_blk B1.out 2
  have f2 := Blk.free B1.out 2
  have p3 := cell_blk B1.out 3
  have f3 := Blk.free B1.out 3
  have p4 := cell_blk B1.out 4
  have f4 := Blk.free B1.out 4
  have p5 := cell_blk B1.out 5
  have f5 := Blk.free B1.out 5
  have p6 := cell_blk B1.out 6
  have f6 := Blk.free B1.out 6
  go_wp2_with fail
  refine (rd_text B rb _ _ _ R1.out HL.out).mono ?_
  rintro e w2 ⟨rfl, r2, k2⟩
  have R2 := Lib.hid r2; have K2 := Lib.hid (K1.out.trans k2); have B2 := Lib.hid (B1.out.kept k2 hy); have HL2 := Lib.hid (fun x hx => HL.out x (List.mem_of_mem_tail hx))
  clear r2 k2 R1 K1 B1 HL
  have R1 := R2; have K1 := K2; have B1 := B2; have HL := HL2
  clear R2 K2 B2 HL2
  clear p0 f0 p1 f1 p2 f2 p3 f3 p4 f4 p5 f5 p6 f6
  have p0 := cell_blk B1.out 0
  have f0 := Blk.free B1.out 0
  have p1 := cell_blk B1.out 1
  have f1 := Blk.free B1.out 1
  have p2 := cell_blk B1.out 2
  have f2 := Blk.free B1.out 2
  have p3 := cell_blk B1.out 3
  have f3 := Blk.free B1.out 3
  have p4 := cell_blk B1.out 4
  have f4 := Blk.free B1.out 4
  have p5 := cell_blk B1.out 5
  have f5 := Blk.free B1.out 5
  have p6 := cell_blk B1.out 6
  have f6 := Blk.free B1.out 6
  go_wp2_with fail
  refine bodyPost_ret (results_two rfl _ _ y 27 _ _ rfl (Blk.set7 B1.out) Tryz.underlying27 rfl (by kernel_rfl)) rfl ?_
  refine ⟨_, rfl, ⟨none, 0, by simp [rdFs, rdF, stp0], .inl rfl, fun _ h => (nomatch h), fun _ => ⟨rfl, rfl⟩⟩, ?_, KY.out _ K1.out _ Kept.seven⟩
  exact R1.out.apart Kept.seven (fun e => hy e) hBy

set_option maxRecDepth 100000 in
set_option maxHeartbeats 1600000 in
theorem rd_step_del (B rb : Nat) (r : List Tx) (ok : Bool) (w : World) (h : RdIn w B rb ([100, 101, 108] :: r) ok) (hz : rb < w.heap.size) (hB : B ≤ w.heap.size) (hl : ∀ x ∈ r, x.length ≤ 1000000) :
    Calls Tryz.prog 30 #[.pointer (some ⟨rb, 0, none⟩)] w fun e w' => ∃ v, e = .returned v ∧ StpV B w' (rdFs (r, ok, stp0 3) [.t, .k]).2.2 v ∧ RdIn w' B rb (rdFs (r, ok, stp0 3) [.t, .k]).1 (rdFs (r, ok, stp0 3) [.t, .k]).2.1 ∧ Kept (fun k => k = rb) w w' := by
  have H := Lib.hid h
  have HL := Lib.hid hl
  clear h hl
  go_enter Tryz.func30, Tryz.ntmps30
  go_wp2_with fail
  have hy : w.heap.size ≠ rb := by omega
  have BY := Lib.hid (Blk.new w #[.int .u8 0, .int .i64 0, .string ⟨#[]⟩, .string ⟨#[]⟩, .int .i64 0, .bool false, .slice none 0 0] 27)
  have KA := Lib.hid (show Same w (w.alloc (.cells #[.int .u8 0, .int .i64 0, .string ⟨#[]⟩, .string ⟨#[]⟩, .int .i64 0, .bool false, .slice none 0 0] 27)) from (Kept.refl _ w).alloc _)
  obtain ⟨y, hyy⟩ : ∃ y, w.heap.size = y := ⟨_, rfl⟩
  have hBy : B ≤ y := by omega
  have KY := Lib.hid (show ∀ W : World, Kept (fun k => k = rb) w W → ∀ W', Kept (fun k => k = y) W W' → Kept (fun k => k = rb) w W' from fun W k W' k' => k.step k' (fun i hi e => by have e' : i = y := e; omega))
  rw [hyy] at BY hy
  rw [hyy]
  clear hyy
  refine (rd_word B rb _ _ _ (H.out.same KA.out)).mono ?_
  rintro e w1 ⟨rfl, r1, k1⟩
  have R1 := Lib.hid r1; have K1 := Lib.hid (((KA.out.mono (fun _ _ h => h.elim) : Kept (fun k => k = rb) _ _)).trans k1); have B1 := Lib.hid (BY.out.kept k1 hy)
  clear r1 k1 H KA BY
  have p0 := cell_blk B1.out 0
  have f0 := Blk.free B1.out 0
  have p1 := cell_blk B1.out 1
  have f1 := Blk.free B1.out 1
  have p2 := cell_blk B1.out 2
  have f2 := Blk.free B1.out 2
  have p3 := cell_blk B1.out 3
  have f3 := Blk.free B1.out 3
  have p4 := cell_blk B1.out 4
  have f4 := Blk.free B1.out 4
  have p5 := cell_blk B1.out 5
  have f5 := Blk.free B1.out 5
  have p6 := cell_blk B1.out 6
  have f6 := Blk.free B1.out 6
  rw [show (ok && !(([100, 101, 108] : Tx) :: r == [])) = ok by simp] at R1
  go_wp2_with fail
  refine (rd_number B rb _ _ _ R1.out HL.out).mono ?_
  rintro e w2 ⟨rfl, r2, k2⟩
  have R2 := Lib.hid r2; have K2 := Lib.hid (K1.out.trans k2); have B2 := Lib.hid (B1.out.kept k2 hy); have HL2 := Lib.hid (fun x hx => HL.out x (List.mem_of_mem_tail hx))
  clear r2 k2 R1 K1 B1 HL
  have R1 := R2; have K1 := K2; have B1 := B2; have HL := HL2
  clear R2 K2 B2 HL2
  clear p0 f0 p1 f1 p2 f2 p3 f3 p4 f4 p5 f5 p6 f6
  have p0 := cell_blk B1.out 0
  have f0 := Blk.free B1.out 0
  have p1 := cell_blk B1.out 1
  have f1 := Blk.free B1.out 1
  have p2 := cell_blk B1.out 2
  have f2 := Blk.free B1.out 2
  have p3 := cell_blk B1.out 3
  have f3 := Blk.free B1.out 3
  have p4 := cell_blk B1.out 4
  have f4 := Blk.free B1.out 4
  have p5 := cell_blk B1.out 5
  have f5 := Blk.free B1.out 5
  have p6 := cell_blk B1.out 6
  have f6 := Blk.free B1.out 6
  go_wp2_with fail
  refine (rd_text B rb _ _ _ R1.out HL.out).mono ?_
  rintro e w2 ⟨rfl, r2, k2⟩
  have R2 := Lib.hid r2; have K2 := Lib.hid (K1.out.trans k2); have B2 := Lib.hid (B1.out.kept k2 hy); have HL2 := Lib.hid (fun x hx => HL.out x (List.mem_of_mem_tail hx))
  clear r2 k2 R1 K1 B1 HL
  have R1 := R2; have K1 := K2; have B1 := B2; have HL := HL2
  clear R2 K2 B2 HL2
  clear p0 f0 p1 f1 p2 f2 p3 f3 p4 f4 p5 f5 p6 f6
  have p0 := cell_blk B1.out 0
  have f0 := Blk.free B1.out 0
  have p1 := cell_blk B1.out 1
  have f1 := Blk.free B1.out 1
  have p2 := cell_blk B1.out 2
  have f2 := Blk.free B1.out 2
  have p3 := cell_blk B1.out 3
  have f3 := Blk.free B1.out 3
  have p4 := cell_blk B1.out 4
  have f4 := Blk.free B1.out 4
  have p5 := cell_blk B1.out 5
  have f5 := Blk.free B1.out 5
  have p6 := cell_blk B1.out 6
  have f6 := Blk.free B1.out 6
  go_wp2_with fail
  refine bodyPost_ret (results_two rfl _ _ y 27 _ _ rfl (Blk.set7 B1.out) Tryz.underlying27 rfl (by kernel_rfl)) rfl ?_
  refine ⟨_, rfl, ⟨none, 0, by simp [rdFs, rdF, stp0], .inl rfl, fun _ h => (nomatch h), fun _ => ⟨rfl, rfl⟩⟩, ?_, KY.out _ K1.out _ Kept.seven⟩
  exact R1.out.apart Kept.seven (fun e => hy e) hBy

set_option maxRecDepth 100000 in
set_option maxHeartbeats 1600000 in
theorem rd_step_scan (B rb : Nat) (r : List Tx) (ok : Bool) (w : World) (h : RdIn w B rb ([115, 99, 97, 110] :: r) ok) (hz : rb < w.heap.size) (hB : B ≤ w.heap.size) (hl : ∀ x ∈ r, x.length ≤ 1000000) :
    Calls Tryz.prog 30 #[.pointer (some ⟨rb, 0, none⟩)] w fun e w' => ∃ v, e = .returned v ∧ StpV B w' (rdFs (r, ok, stp0 4) [.t, .k, .v, .n]).2.2 v ∧ RdIn w' B rb (rdFs (r, ok, stp0 4) [.t, .k, .v, .n]).1 (rdFs (r, ok, stp0 4) [.t, .k, .v, .n]).2.1 ∧ Kept (fun k => k = rb) w w' := by
  have H := Lib.hid h
  have HL := Lib.hid hl
  clear h hl
  go_enter Tryz.func30, Tryz.ntmps30
  go_wp2_with fail
  have hy : w.heap.size ≠ rb := by omega
  have BY := Lib.hid (Blk.new w #[.int .u8 0, .int .i64 0, .string ⟨#[]⟩, .string ⟨#[]⟩, .int .i64 0, .bool false, .slice none 0 0] 27)
  have KA := Lib.hid (show Same w (w.alloc (.cells #[.int .u8 0, .int .i64 0, .string ⟨#[]⟩, .string ⟨#[]⟩, .int .i64 0, .bool false, .slice none 0 0] 27)) from (Kept.refl _ w).alloc _)
  obtain ⟨y, hyy⟩ : ∃ y, w.heap.size = y := ⟨_, rfl⟩
  have hBy : B ≤ y := by omega
  have KY := Lib.hid (show ∀ W : World, Kept (fun k => k = rb) w W → ∀ W', Kept (fun k => k = y) W W' → Kept (fun k => k = rb) w W' from fun W k W' k' => k.step k' (fun i hi e => by have e' : i = y := e; omega))
  rw [hyy] at BY hy
  rw [hyy]
  clear hyy
  refine (rd_word B rb _ _ _ (H.out.same KA.out)).mono ?_
  rintro e w1 ⟨rfl, r1, k1⟩
  have R1 := Lib.hid r1; have K1 := Lib.hid (((KA.out.mono (fun _ _ h => h.elim) : Kept (fun k => k = rb) _ _)).trans k1); have B1 := Lib.hid (BY.out.kept k1 hy)
  clear r1 k1 H KA BY
  have p0 := cell_blk B1.out 0
  have f0 := Blk.free B1.out 0
  have p1 := cell_blk B1.out 1
  have f1 := Blk.free B1.out 1
  have p2 := cell_blk B1.out 2
  have f2 := Blk.free B1.out 2
  have p3 := cell_blk B1.out 3
  have f3 := Blk.free B1.out 3
  have p4 := cell_blk B1.out 4
  have f4 := Blk.free B1.out 4
  have p5 := cell_blk B1.out 5
  have f5 := Blk.free B1.out 5
  have p6 := cell_blk B1.out 6
  have f6 := Blk.free B1.out 6
  rw [show (ok && !(([115, 99, 97, 110] : Tx) :: r == [])) = ok by simp] at R1
  go_wp2_with fail
  refine (rd_number B rb _ _ _ R1.out HL.out).mono ?_
  rintro e w2 ⟨rfl, r2, k2⟩
  have R2 := Lib.hid r2; have K2 := Lib.hid (K1.out.trans k2); have B2 := Lib.hid (B1.out.kept k2 hy); have HL2 := Lib.hid (fun x hx => HL.out x (List.mem_of_mem_tail hx))
  clear r2 k2 R1 K1 B1 HL
  have R1 := R2; have K1 := K2; have B1 := B2; have HL := HL2
  clear R2 K2 B2 HL2
  clear p0 f0 p1 f1 p2 f2 p3 f3 p4 f4 p5 f5 p6 f6
  have p0 := cell_blk B1.out 0
  have f0 := Blk.free B1.out 0
  have p1 := cell_blk B1.out 1
  have f1 := Blk.free B1.out 1
  have p2 := cell_blk B1.out 2
  have f2 := Blk.free B1.out 2
  have p3 := cell_blk B1.out 3
  have f3 := Blk.free B1.out 3
  have p4 := cell_blk B1.out 4
  have f4 := Blk.free B1.out 4
  have p5 := cell_blk B1.out 5
  have f5 := Blk.free B1.out 5
  have p6 := cell_blk B1.out 6
  have f6 := Blk.free B1.out 6
  go_wp2_with fail
  refine (rd_text B rb _ _ _ R1.out HL.out).mono ?_
  rintro e w2 ⟨rfl, r2, k2⟩
  have R2 := Lib.hid r2; have K2 := Lib.hid (K1.out.trans k2); have B2 := Lib.hid (B1.out.kept k2 hy); have HL2 := Lib.hid (fun x hx => HL.out x (List.mem_of_mem_tail hx))
  clear r2 k2 R1 K1 B1 HL
  have R1 := R2; have K1 := K2; have B1 := B2; have HL := HL2
  clear R2 K2 B2 HL2
  clear p0 f0 p1 f1 p2 f2 p3 f3 p4 f4 p5 f5 p6 f6
  have p0 := cell_blk B1.out 0
  have f0 := Blk.free B1.out 0
  have p1 := cell_blk B1.out 1
  have f1 := Blk.free B1.out 1
  have p2 := cell_blk B1.out 2
  have f2 := Blk.free B1.out 2
  have p3 := cell_blk B1.out 3
  have f3 := Blk.free B1.out 3
  have p4 := cell_blk B1.out 4
  have f4 := Blk.free B1.out 4
  have p5 := cell_blk B1.out 5
  have f5 := Blk.free B1.out 5
  have p6 := cell_blk B1.out 6
  have f6 := Blk.free B1.out 6
  go_wp2_with fail
  refine (rd_text B rb _ _ _ R1.out HL.out).mono ?_
  rintro e w2 ⟨rfl, r2, k2⟩
  have R2 := Lib.hid r2; have K2 := Lib.hid (K1.out.trans k2); have B2 := Lib.hid (B1.out.kept k2 hy); have HL2 := Lib.hid (fun x hx => HL.out x (List.mem_of_mem_tail hx))
  clear r2 k2 R1 K1 B1 HL
  have R1 := R2; have K1 := K2; have B1 := B2; have HL := HL2
  clear R2 K2 B2 HL2
  clear p0 f0 p1 f1 p2 f2 p3 f3 p4 f4 p5 f5 p6 f6
  have p0 := cell_blk B1.out 0
  have f0 := Blk.free B1.out 0
  have p1 := cell_blk B1.out 1
  have f1 := Blk.free B1.out 1
  have p2 := cell_blk B1.out 2
  have f2 := Blk.free B1.out 2
  have p3 := cell_blk B1.out 3
  have f3 := Blk.free B1.out 3
  have p4 := cell_blk B1.out 4
  have f4 := Blk.free B1.out 4
  have p5 := cell_blk B1.out 5
  have f5 := Blk.free B1.out 5
  have p6 := cell_blk B1.out 6
  have f6 := Blk.free B1.out 6
  go_wp2_with fail
  refine (rd_number B rb _ _ _ R1.out HL.out).mono ?_
  rintro e w2 ⟨rfl, r2, k2⟩
  have R2 := Lib.hid r2; have K2 := Lib.hid (K1.out.trans k2); have B2 := Lib.hid (B1.out.kept k2 hy); have HL2 := Lib.hid (fun x hx => HL.out x (List.mem_of_mem_tail hx))
  clear r2 k2 R1 K1 B1 HL
  have R1 := R2; have K1 := K2; have B1 := B2; have HL := HL2
  clear R2 K2 B2 HL2
  clear p0 f0 p1 f1 p2 f2 p3 f3 p4 f4 p5 f5 p6 f6
  have p0 := cell_blk B1.out 0
  have f0 := Blk.free B1.out 0
  have p1 := cell_blk B1.out 1
  have f1 := Blk.free B1.out 1
  have p2 := cell_blk B1.out 2
  have f2 := Blk.free B1.out 2
  have p3 := cell_blk B1.out 3
  have f3 := Blk.free B1.out 3
  have p4 := cell_blk B1.out 4
  have f4 := Blk.free B1.out 4
  have p5 := cell_blk B1.out 5
  have f5 := Blk.free B1.out 5
  have p6 := cell_blk B1.out 6
  have f6 := Blk.free B1.out 6
  go_wp2_with fail
  refine bodyPost_ret (results_two rfl _ _ y 27 _ _ rfl (Blk.set7 B1.out) Tryz.underlying27 rfl (by kernel_rfl)) rfl ?_
  refine ⟨_, rfl, ⟨none, 0, by simp [rdFs, rdF, stp0], .inl rfl, fun _ h => (nomatch h), fun _ => ⟨rfl, rfl⟩⟩, ?_, KY.out _ K1.out _ Kept.seven⟩
  exact R1.out.apart Kept.seven (fun e => hy e) hBy

set_option maxRecDepth 100000 in
set_option maxHeartbeats 1600000 in
theorem rd_step_commit (B rb : Nat) (r : List Tx) (ok : Bool) (w : World) (h : RdIn w B rb ([99, 111, 109, 109, 105, 116] :: r) ok) (hz : rb < w.heap.size) (hB : B ≤ w.heap.size) (hl : ∀ x ∈ r, x.length ≤ 1000000) :
    Calls Tryz.prog 30 #[.pointer (some ⟨rb, 0, none⟩)] w fun e w' => ∃ v, e = .returned v ∧ StpV B w' (rdFs (r, ok, stp0 5) [.t]).2.2 v ∧ RdIn w' B rb (rdFs (r, ok, stp0 5) [.t]).1 (rdFs (r, ok, stp0 5) [.t]).2.1 ∧ Kept (fun k => k = rb) w w' := by
  have H := Lib.hid h
  have HL := Lib.hid hl
  clear h hl
  go_enter Tryz.func30, Tryz.ntmps30
  go_wp2_with fail
  have hy : w.heap.size ≠ rb := by omega
  have BY := Lib.hid (Blk.new w #[.int .u8 0, .int .i64 0, .string ⟨#[]⟩, .string ⟨#[]⟩, .int .i64 0, .bool false, .slice none 0 0] 27)
  have KA := Lib.hid (show Same w (w.alloc (.cells #[.int .u8 0, .int .i64 0, .string ⟨#[]⟩, .string ⟨#[]⟩, .int .i64 0, .bool false, .slice none 0 0] 27)) from (Kept.refl _ w).alloc _)
  obtain ⟨y, hyy⟩ : ∃ y, w.heap.size = y := ⟨_, rfl⟩
  have hBy : B ≤ y := by omega
  have KY := Lib.hid (show ∀ W : World, Kept (fun k => k = rb) w W → ∀ W', Kept (fun k => k = y) W W' → Kept (fun k => k = rb) w W' from fun W k W' k' => k.step k' (fun i hi e => by have e' : i = y := e; omega))
  rw [hyy] at BY hy
  rw [hyy]
  clear hyy
  refine (rd_word B rb _ _ _ (H.out.same KA.out)).mono ?_
  rintro e w1 ⟨rfl, r1, k1⟩
  have R1 := Lib.hid r1; have K1 := Lib.hid (((KA.out.mono (fun _ _ h => h.elim) : Kept (fun k => k = rb) _ _)).trans k1); have B1 := Lib.hid (BY.out.kept k1 hy)
  clear r1 k1 H KA BY
  have p0 := cell_blk B1.out 0
  have f0 := Blk.free B1.out 0
  have p1 := cell_blk B1.out 1
  have f1 := Blk.free B1.out 1
  have p2 := cell_blk B1.out 2
  have f2 := Blk.free B1.out 2
  have p3 := cell_blk B1.out 3
  have f3 := Blk.free B1.out 3
  have p4 := cell_blk B1.out 4
  have f4 := Blk.free B1.out 4
  have p5 := cell_blk B1.out 5
  have f5 := Blk.free B1.out 5
  have p6 := cell_blk B1.out 6
  have f6 := Blk.free B1.out 6
  rw [show (ok && !(([99, 111, 109, 109, 105, 116] : Tx) :: r == [])) = ok by simp] at R1
  go_wp2_with fail
  refine (rd_number B rb _ _ _ R1.out HL.out).mono ?_
  rintro e w2 ⟨rfl, r2, k2⟩
  have R2 := Lib.hid r2; have K2 := Lib.hid (K1.out.trans k2); have B2 := Lib.hid (B1.out.kept k2 hy); have HL2 := Lib.hid (fun x hx => HL.out x (List.mem_of_mem_tail hx))
  clear r2 k2 R1 K1 B1 HL
  have R1 := R2; have K1 := K2; have B1 := B2; have HL := HL2
  clear R2 K2 B2 HL2
  clear p0 f0 p1 f1 p2 f2 p3 f3 p4 f4 p5 f5 p6 f6
  have p0 := cell_blk B1.out 0
  have f0 := Blk.free B1.out 0
  have p1 := cell_blk B1.out 1
  have f1 := Blk.free B1.out 1
  have p2 := cell_blk B1.out 2
  have f2 := Blk.free B1.out 2
  have p3 := cell_blk B1.out 3
  have f3 := Blk.free B1.out 3
  have p4 := cell_blk B1.out 4
  have f4 := Blk.free B1.out 4
  have p5 := cell_blk B1.out 5
  have f5 := Blk.free B1.out 5
  have p6 := cell_blk B1.out 6
  have f6 := Blk.free B1.out 6
  go_wp2_with fail
  refine bodyPost_ret (results_two rfl _ _ y 27 _ _ rfl (Blk.set7 B1.out) Tryz.underlying27 rfl (by kernel_rfl)) rfl ?_
  refine ⟨_, rfl, ⟨none, 0, by simp [rdFs, rdF, stp0], .inl rfl, fun _ h => (nomatch h), fun _ => ⟨rfl, rfl⟩⟩, ?_, KY.out _ K1.out _ Kept.seven⟩
  exact R1.out.apart Kept.seven (fun e => hy e) hBy

set_option maxRecDepth 100000 in
set_option maxHeartbeats 1600000 in
theorem rd_step_abort (B rb : Nat) (r : List Tx) (ok : Bool) (w : World) (h : RdIn w B rb ([97, 98, 111, 114, 116] :: r) ok) (hz : rb < w.heap.size) (hB : B ≤ w.heap.size) (hl : ∀ x ∈ r, x.length ≤ 1000000) :
    Calls Tryz.prog 30 #[.pointer (some ⟨rb, 0, none⟩)] w fun e w' => ∃ v, e = .returned v ∧ StpV B w' (rdFs (r, ok, stp0 6) [.t]).2.2 v ∧ RdIn w' B rb (rdFs (r, ok, stp0 6) [.t]).1 (rdFs (r, ok, stp0 6) [.t]).2.1 ∧ Kept (fun k => k = rb) w w' := by
  have H := Lib.hid h
  have HL := Lib.hid hl
  clear h hl
  go_enter Tryz.func30, Tryz.ntmps30
  go_wp2_with fail
  have hy : w.heap.size ≠ rb := by omega
  have BY := Lib.hid (Blk.new w #[.int .u8 0, .int .i64 0, .string ⟨#[]⟩, .string ⟨#[]⟩, .int .i64 0, .bool false, .slice none 0 0] 27)
  have KA := Lib.hid (show Same w (w.alloc (.cells #[.int .u8 0, .int .i64 0, .string ⟨#[]⟩, .string ⟨#[]⟩, .int .i64 0, .bool false, .slice none 0 0] 27)) from (Kept.refl _ w).alloc _)
  obtain ⟨y, hyy⟩ : ∃ y, w.heap.size = y := ⟨_, rfl⟩
  have hBy : B ≤ y := by omega
  have KY := Lib.hid (show ∀ W : World, Kept (fun k => k = rb) w W → ∀ W', Kept (fun k => k = y) W W' → Kept (fun k => k = rb) w W' from fun W k W' k' => k.step k' (fun i hi e => by have e' : i = y := e; omega))
  rw [hyy] at BY hy
  rw [hyy]
  clear hyy
  refine (rd_word B rb _ _ _ (H.out.same KA.out)).mono ?_
  rintro e w1 ⟨rfl, r1, k1⟩
  have R1 := Lib.hid r1; have K1 := Lib.hid (((KA.out.mono (fun _ _ h => h.elim) : Kept (fun k => k = rb) _ _)).trans k1); have B1 := Lib.hid (BY.out.kept k1 hy)
  clear r1 k1 H KA BY
  have p0 := cell_blk B1.out 0
  have f0 := Blk.free B1.out 0
  have p1 := cell_blk B1.out 1
  have f1 := Blk.free B1.out 1
  have p2 := cell_blk B1.out 2
  have f2 := Blk.free B1.out 2
  have p3 := cell_blk B1.out 3
  have f3 := Blk.free B1.out 3
  have p4 := cell_blk B1.out 4
  have f4 := Blk.free B1.out 4
  have p5 := cell_blk B1.out 5
  have f5 := Blk.free B1.out 5
  have p6 := cell_blk B1.out 6
  have f6 := Blk.free B1.out 6
  rw [show (ok && !(([97, 98, 111, 114, 116] : Tx) :: r == [])) = ok by simp] at R1
  go_wp2_with fail
  refine (rd_number B rb _ _ _ R1.out HL.out).mono ?_
  rintro e w2 ⟨rfl, r2, k2⟩
  have R2 := Lib.hid r2; have K2 := Lib.hid (K1.out.trans k2); have B2 := Lib.hid (B1.out.kept k2 hy); have HL2 := Lib.hid (fun x hx => HL.out x (List.mem_of_mem_tail hx))
  clear r2 k2 R1 K1 B1 HL
  have R1 := R2; have K1 := K2; have B1 := B2; have HL := HL2
  clear R2 K2 B2 HL2
  clear p0 f0 p1 f1 p2 f2 p3 f3 p4 f4 p5 f5 p6 f6
  have p0 := cell_blk B1.out 0
  have f0 := Blk.free B1.out 0
  have p1 := cell_blk B1.out 1
  have f1 := Blk.free B1.out 1
  have p2 := cell_blk B1.out 2
  have f2 := Blk.free B1.out 2
  have p3 := cell_blk B1.out 3
  have f3 := Blk.free B1.out 3
  have p4 := cell_blk B1.out 4
  have f4 := Blk.free B1.out 4
  have p5 := cell_blk B1.out 5
  have f5 := Blk.free B1.out 5
  have p6 := cell_blk B1.out 6
  have f6 := Blk.free B1.out 6
  go_wp2_with fail
  refine bodyPost_ret (results_two rfl _ _ y 27 _ _ rfl (Blk.set7 B1.out) Tryz.underlying27 rfl (by kernel_rfl)) rfl ?_
  refine ⟨_, rfl, ⟨none, 0, by simp [rdFs, rdF, stp0], .inl rfl, fun _ h => (nomatch h), fun _ => ⟨rfl, rfl⟩⟩, ?_, KY.out _ K1.out _ Kept.seven⟩
  exact R1.out.apart Kept.seven (fun e => hy e) hBy

set_option maxRecDepth 100000 in
set_option maxHeartbeats 1600000 in
theorem rd_step_flush (B rb : Nat) (r : List Tx) (ok : Bool) (w : World) (h : RdIn w B rb ([102, 108, 117, 115, 104] :: r) ok) (hz : rb < w.heap.size) (hB : B ≤ w.heap.size) (hl : ∀ x ∈ r, x.length ≤ 1000000) :
    Calls Tryz.prog 30 #[.pointer (some ⟨rb, 0, none⟩)] w fun e w' => ∃ v, e = .returned v ∧ StpV B w' (rdFs (r, ok, stp0 7) []).2.2 v ∧ RdIn w' B rb (rdFs (r, ok, stp0 7) []).1 (rdFs (r, ok, stp0 7) []).2.1 ∧ Kept (fun k => k = rb) w w' := by
  have H := Lib.hid h
  have HL := Lib.hid hl
  clear h hl
  go_enter Tryz.func30, Tryz.ntmps30
  go_wp2_with fail
  have hy : w.heap.size ≠ rb := by omega
  have BY := Lib.hid (Blk.new w #[.int .u8 0, .int .i64 0, .string ⟨#[]⟩, .string ⟨#[]⟩, .int .i64 0, .bool false, .slice none 0 0] 27)
  have KA := Lib.hid (show Same w (w.alloc (.cells #[.int .u8 0, .int .i64 0, .string ⟨#[]⟩, .string ⟨#[]⟩, .int .i64 0, .bool false, .slice none 0 0] 27)) from (Kept.refl _ w).alloc _)
  obtain ⟨y, hyy⟩ : ∃ y, w.heap.size = y := ⟨_, rfl⟩
  have hBy : B ≤ y := by omega
  have KY := Lib.hid (show ∀ W : World, Kept (fun k => k = rb) w W → ∀ W', Kept (fun k => k = y) W W' → Kept (fun k => k = rb) w W' from fun W k W' k' => k.step k' (fun i hi e => by have e' : i = y := e; omega))
  rw [hyy] at BY hy
  rw [hyy]
  clear hyy
  refine (rd_word B rb _ _ _ (H.out.same KA.out)).mono ?_
  rintro e w1 ⟨rfl, r1, k1⟩
  have R1 := Lib.hid r1; have K1 := Lib.hid (((KA.out.mono (fun _ _ h => h.elim) : Kept (fun k => k = rb) _ _)).trans k1); have B1 := Lib.hid (BY.out.kept k1 hy)
  clear r1 k1 H KA BY
  have p0 := cell_blk B1.out 0
  have f0 := Blk.free B1.out 0
  have p1 := cell_blk B1.out 1
  have f1 := Blk.free B1.out 1
  have p2 := cell_blk B1.out 2
  have f2 := Blk.free B1.out 2
  have p3 := cell_blk B1.out 3
  have f3 := Blk.free B1.out 3
  have p4 := cell_blk B1.out 4
  have f4 := Blk.free B1.out 4
  have p5 := cell_blk B1.out 5
  have f5 := Blk.free B1.out 5
  have p6 := cell_blk B1.out 6
  have f6 := Blk.free B1.out 6
  rw [show (ok && !(([102, 108, 117, 115, 104] : Tx) :: r == [])) = ok by simp] at R1
  go_wp2_with fail
  refine bodyPost_ret (results_two rfl _ _ y 27 _ _ rfl (Blk.set7 B1.out) Tryz.underlying27 rfl (by kernel_rfl)) rfl ?_
  refine ⟨_, rfl, ⟨none, 0, by simp [rdFs, stp0], .inl rfl, fun _ h => (nomatch h), fun _ => ⟨rfl, rfl⟩⟩, ?_, KY.out _ K1.out _ Kept.seven⟩
  exact R1.out.apart Kept.seven (fun e => hy e) hBy

set_option maxRecDepth 100000 in
set_option maxHeartbeats 1600000 in
theorem rd_step_checkpoint (B rb : Nat) (r : List Tx) (ok : Bool) (w : World) (h : RdIn w B rb ([99, 104, 101, 99, 107, 112, 111, 105, 110, 116] :: r) ok) (hz : rb < w.heap.size) (hB : B ≤ w.heap.size) (hl : ∀ x ∈ r, x.length ≤ 1000000) :
    Calls Tryz.prog 30 #[.pointer (some ⟨rb, 0, none⟩)] w fun e w' => ∃ v, e = .returned v ∧ StpV B w' (rdFs (r, ok, stp0 8) []).2.2 v ∧ RdIn w' B rb (rdFs (r, ok, stp0 8) []).1 (rdFs (r, ok, stp0 8) []).2.1 ∧ Kept (fun k => k = rb) w w' := by
  have H := Lib.hid h
  have HL := Lib.hid hl
  clear h hl
  go_enter Tryz.func30, Tryz.ntmps30
  go_wp2_with fail
  have hy : w.heap.size ≠ rb := by omega
  have BY := Lib.hid (Blk.new w #[.int .u8 0, .int .i64 0, .string ⟨#[]⟩, .string ⟨#[]⟩, .int .i64 0, .bool false, .slice none 0 0] 27)
  have KA := Lib.hid (show Same w (w.alloc (.cells #[.int .u8 0, .int .i64 0, .string ⟨#[]⟩, .string ⟨#[]⟩, .int .i64 0, .bool false, .slice none 0 0] 27)) from (Kept.refl _ w).alloc _)
  obtain ⟨y, hyy⟩ : ∃ y, w.heap.size = y := ⟨_, rfl⟩
  have hBy : B ≤ y := by omega
  have KY := Lib.hid (show ∀ W : World, Kept (fun k => k = rb) w W → ∀ W', Kept (fun k => k = y) W W' → Kept (fun k => k = rb) w W' from fun W k W' k' => k.step k' (fun i hi e => by have e' : i = y := e; omega))
  rw [hyy] at BY hy
  rw [hyy]
  clear hyy
  refine (rd_word B rb _ _ _ (H.out.same KA.out)).mono ?_
  rintro e w1 ⟨rfl, r1, k1⟩
  have R1 := Lib.hid r1; have K1 := Lib.hid (((KA.out.mono (fun _ _ h => h.elim) : Kept (fun k => k = rb) _ _)).trans k1); have B1 := Lib.hid (BY.out.kept k1 hy)
  clear r1 k1 H KA BY
  have p0 := cell_blk B1.out 0
  have f0 := Blk.free B1.out 0
  have p1 := cell_blk B1.out 1
  have f1 := Blk.free B1.out 1
  have p2 := cell_blk B1.out 2
  have f2 := Blk.free B1.out 2
  have p3 := cell_blk B1.out 3
  have f3 := Blk.free B1.out 3
  have p4 := cell_blk B1.out 4
  have f4 := Blk.free B1.out 4
  have p5 := cell_blk B1.out 5
  have f5 := Blk.free B1.out 5
  have p6 := cell_blk B1.out 6
  have f6 := Blk.free B1.out 6
  rw [show (ok && !(([99, 104, 101, 99, 107, 112, 111, 105, 110, 116] : Tx) :: r == [])) = ok by simp] at R1
  go_wp2_with fail
  refine bodyPost_ret (results_two rfl _ _ y 27 _ _ rfl (Blk.set7 B1.out) Tryz.underlying27 rfl (by kernel_rfl)) rfl ?_
  refine ⟨_, rfl, ⟨none, 0, by simp [rdFs, stp0], .inl rfl, fun _ h => (nomatch h), fun _ => ⟨rfl, rfl⟩⟩, ?_, KY.out _ K1.out _ Kept.seven⟩
  exact R1.out.apart Kept.seven (fun e => hy e) hBy

set_option maxRecDepth 100000 in
set_option maxHeartbeats 1600000 in
theorem rd_step_gc (B rb : Nat) (r : List Tx) (ok : Bool) (w : World) (h : RdIn w B rb ([103, 99] :: r) ok) (hz : rb < w.heap.size) (hB : B ≤ w.heap.size) (hl : ∀ x ∈ r, x.length ≤ 1000000) :
    Calls Tryz.prog 30 #[.pointer (some ⟨rb, 0, none⟩)] w fun e w' => ∃ v, e = .returned v ∧ StpV B w' (rdFs (r, ok, stp0 9) []).2.2 v ∧ RdIn w' B rb (rdFs (r, ok, stp0 9) []).1 (rdFs (r, ok, stp0 9) []).2.1 ∧ Kept (fun k => k = rb) w w' := by
  have H := Lib.hid h
  have HL := Lib.hid hl
  clear h hl
  go_enter Tryz.func30, Tryz.ntmps30
  go_wp2_with fail
  have hy : w.heap.size ≠ rb := by omega
  have BY := Lib.hid (Blk.new w #[.int .u8 0, .int .i64 0, .string ⟨#[]⟩, .string ⟨#[]⟩, .int .i64 0, .bool false, .slice none 0 0] 27)
  have KA := Lib.hid (show Same w (w.alloc (.cells #[.int .u8 0, .int .i64 0, .string ⟨#[]⟩, .string ⟨#[]⟩, .int .i64 0, .bool false, .slice none 0 0] 27)) from (Kept.refl _ w).alloc _)
  obtain ⟨y, hyy⟩ : ∃ y, w.heap.size = y := ⟨_, rfl⟩
  have hBy : B ≤ y := by omega
  have KY := Lib.hid (show ∀ W : World, Kept (fun k => k = rb) w W → ∀ W', Kept (fun k => k = y) W W' → Kept (fun k => k = rb) w W' from fun W k W' k' => k.step k' (fun i hi e => by have e' : i = y := e; omega))
  rw [hyy] at BY hy
  rw [hyy]
  clear hyy
  refine (rd_word B rb _ _ _ (H.out.same KA.out)).mono ?_
  rintro e w1 ⟨rfl, r1, k1⟩
  have R1 := Lib.hid r1; have K1 := Lib.hid (((KA.out.mono (fun _ _ h => h.elim) : Kept (fun k => k = rb) _ _)).trans k1); have B1 := Lib.hid (BY.out.kept k1 hy)
  clear r1 k1 H KA BY
  have p0 := cell_blk B1.out 0
  have f0 := Blk.free B1.out 0
  have p1 := cell_blk B1.out 1
  have f1 := Blk.free B1.out 1
  have p2 := cell_blk B1.out 2
  have f2 := Blk.free B1.out 2
  have p3 := cell_blk B1.out 3
  have f3 := Blk.free B1.out 3
  have p4 := cell_blk B1.out 4
  have f4 := Blk.free B1.out 4
  have p5 := cell_blk B1.out 5
  have f5 := Blk.free B1.out 5
  have p6 := cell_blk B1.out 6
  have f6 := Blk.free B1.out 6
  rw [show (ok && !(([103, 99] : Tx) :: r == [])) = ok by simp] at R1
  go_wp2_with fail
  refine bodyPost_ret (results_two rfl _ _ y 27 _ _ rfl (Blk.set7 B1.out) Tryz.underlying27 rfl (by kernel_rfl)) rfl ?_
  refine ⟨_, rfl, ⟨none, 0, by simp [rdFs, stp0], .inl rfl, fun _ h => (nomatch h), fun _ => ⟨rfl, rfl⟩⟩, ?_, KY.out _ K1.out _ Kept.seven⟩
  exact R1.out.apart Kept.seven (fun e => hy e) hBy

set_option maxRecDepth 100000 in
set_option maxHeartbeats 1600000 in
theorem rd_step_break (B rb : Nat) (r : List Tx) (ok : Bool) (w : World) (h : RdIn w B rb ([98, 114, 101, 97, 107] :: r) ok) (hz : rb < w.heap.size) (hB : B ≤ w.heap.size) (hl : ∀ x ∈ r, x.length ≤ 1000000) :
    Calls Tryz.prog 30 #[.pointer (some ⟨rb, 0, none⟩)] w fun e w' => ∃ v, e = .returned v ∧ StpV B w' (rdFs (r, ok, stp0 10) [.n, .d]).2.2 v ∧ RdIn w' B rb (rdFs (r, ok, stp0 10) [.n, .d]).1 (rdFs (r, ok, stp0 10) [.n, .d]).2.1 ∧ Kept (fun k => k = rb) w w' := by
  have H := Lib.hid h
  have HL := Lib.hid hl
  clear h hl
  go_enter Tryz.func30, Tryz.ntmps30
  go_wp2_with fail
  have hy : w.heap.size ≠ rb := by omega
  have BY := Lib.hid (Blk.new w #[.int .u8 0, .int .i64 0, .string ⟨#[]⟩, .string ⟨#[]⟩, .int .i64 0, .bool false, .slice none 0 0] 27)
  have KA := Lib.hid (show Same w (w.alloc (.cells #[.int .u8 0, .int .i64 0, .string ⟨#[]⟩, .string ⟨#[]⟩, .int .i64 0, .bool false, .slice none 0 0] 27)) from (Kept.refl _ w).alloc _)
  obtain ⟨y, hyy⟩ : ∃ y, w.heap.size = y := ⟨_, rfl⟩
  have hBy : B ≤ y := by omega
  have KY := Lib.hid (show ∀ W : World, Kept (fun k => k = rb) w W → ∀ W', Kept (fun k => k = y) W W' → Kept (fun k => k = rb) w W' from fun W k W' k' => k.step k' (fun i hi e => by have e' : i = y := e; omega))
  rw [hyy] at BY hy
  rw [hyy]
  clear hyy
  refine (rd_word B rb _ _ _ (H.out.same KA.out)).mono ?_
  rintro e w1 ⟨rfl, r1, k1⟩
  have R1 := Lib.hid r1; have K1 := Lib.hid (((KA.out.mono (fun _ _ h => h.elim) : Kept (fun k => k = rb) _ _)).trans k1); have B1 := Lib.hid (BY.out.kept k1 hy)
  clear r1 k1 H KA BY
  have p0 := cell_blk B1.out 0
  have f0 := Blk.free B1.out 0
  have p1 := cell_blk B1.out 1
  have f1 := Blk.free B1.out 1
  have p2 := cell_blk B1.out 2
  have f2 := Blk.free B1.out 2
  have p3 := cell_blk B1.out 3
  have f3 := Blk.free B1.out 3
  have p4 := cell_blk B1.out 4
  have f4 := Blk.free B1.out 4
  have p5 := cell_blk B1.out 5
  have f5 := Blk.free B1.out 5
  have p6 := cell_blk B1.out 6
  have f6 := Blk.free B1.out 6
  rw [show (ok && !(([98, 114, 101, 97, 107] : Tx) :: r == [])) = ok by simp] at R1
  go_wp2_with fail
  refine (rd_number B rb _ _ _ R1.out HL.out).mono ?_
  rintro e w2 ⟨rfl, r2, k2⟩
  have R2 := Lib.hid r2; have K2 := Lib.hid (K1.out.trans k2); have B2 := Lib.hid (B1.out.kept k2 hy); have HL2 := Lib.hid (fun x hx => HL.out x (List.mem_of_mem_tail hx))
  clear r2 k2 R1 K1 B1 HL
  have R1 := R2; have K1 := K2; have B1 := B2; have HL := HL2
  clear R2 K2 B2 HL2
  clear p0 f0 p1 f1 p2 f2 p3 f3 p4 f4 p5 f5 p6 f6
  have p0 := cell_blk B1.out 0
  have f0 := Blk.free B1.out 0
  have p1 := cell_blk B1.out 1
  have f1 := Blk.free B1.out 1
  have p2 := cell_blk B1.out 2
  have f2 := Blk.free B1.out 2
  have p3 := cell_blk B1.out 3
  have f3 := Blk.free B1.out 3
  have p4 := cell_blk B1.out 4
  have f4 := Blk.free B1.out 4
  have p5 := cell_blk B1.out 5
  have f5 := Blk.free B1.out 5
  have p6 := cell_blk B1.out 6
  have f6 := Blk.free B1.out 6
  go_wp2_with fail
  refine (rd_yes B rb _ _ _ R1.out HL.out).mono ?_
  rintro e w2 ⟨rfl, r2, k2⟩
  have R2 := Lib.hid r2; have K2 := Lib.hid (K1.out.trans k2); have B2 := Lib.hid (B1.out.kept k2 hy); have HL2 := Lib.hid (fun x hx => HL.out x (List.mem_of_mem_tail hx))
  clear r2 k2 R1 K1 B1 HL
  have R1 := R2; have K1 := K2; have B1 := B2; have HL := HL2
  clear R2 K2 B2 HL2
  clear p0 f0 p1 f1 p2 f2 p3 f3 p4 f4 p5 f5 p6 f6
  have p0 := cell_blk B1.out 0
  have f0 := Blk.free B1.out 0
  have p1 := cell_blk B1.out 1
  have f1 := Blk.free B1.out 1
  have p2 := cell_blk B1.out 2
  have f2 := Blk.free B1.out 2
  have p3 := cell_blk B1.out 3
  have f3 := Blk.free B1.out 3
  have p4 := cell_blk B1.out 4
  have f4 := Blk.free B1.out 4
  have p5 := cell_blk B1.out 5
  have f5 := Blk.free B1.out 5
  have p6 := cell_blk B1.out 6
  have f6 := Blk.free B1.out 6
  go_wp2_with fail
  refine bodyPost_ret (results_two rfl _ _ y 27 _ _ rfl (Blk.set7 B1.out) Tryz.underlying27 rfl (by kernel_rfl)) rfl ?_
  refine ⟨_, rfl, ⟨none, 0, by simp [rdFs, rdF, stp0], .inl rfl, fun _ h => (nomatch h), fun _ => ⟨rfl, rfl⟩⟩, ?_, KY.out _ K1.out _ Kept.seven⟩
  exact R1.out.apart Kept.seven (fun e => hy e) hBy

set_option maxRecDepth 100000 in
set_option maxHeartbeats 1600000 in
theorem rd_step_open (B rb : Nat) (r : List Tx) (ok : Bool) (w : World) (h : RdIn w B rb ([111, 112, 101, 110] :: r) ok) (hz : rb < w.heap.size) (hB : B ≤ w.heap.size) (hl : ∀ x ∈ r, x.length ≤ 1000000) :
    Calls Tryz.prog 30 #[.pointer (some ⟨rb, 0, none⟩)] w fun e w' => ∃ v, e = .returned v ∧ StpV B w' (rdFs (r, ok, stp0 12) []).2.2 v ∧ RdIn w' B rb (rdFs (r, ok, stp0 12) []).1 (rdFs (r, ok, stp0 12) []).2.1 ∧ Kept (fun k => k = rb) w w' := by
  have H := Lib.hid h
  have HL := Lib.hid hl
  clear h hl
  go_enter Tryz.func30, Tryz.ntmps30
  go_wp2_with fail
  have hy : w.heap.size ≠ rb := by omega
  have BY := Lib.hid (Blk.new w #[.int .u8 0, .int .i64 0, .string ⟨#[]⟩, .string ⟨#[]⟩, .int .i64 0, .bool false, .slice none 0 0] 27)
  have KA := Lib.hid (show Same w (w.alloc (.cells #[.int .u8 0, .int .i64 0, .string ⟨#[]⟩, .string ⟨#[]⟩, .int .i64 0, .bool false, .slice none 0 0] 27)) from (Kept.refl _ w).alloc _)
  obtain ⟨y, hyy⟩ : ∃ y, w.heap.size = y := ⟨_, rfl⟩
  have hBy : B ≤ y := by omega
  have KY := Lib.hid (show ∀ W : World, Kept (fun k => k = rb) w W → ∀ W', Kept (fun k => k = y) W W' → Kept (fun k => k = rb) w W' from fun W k W' k' => k.step k' (fun i hi e => by have e' : i = y := e; omega))
  rw [hyy] at BY hy
  rw [hyy]
  clear hyy
  refine (rd_word B rb _ _ _ (H.out.same KA.out)).mono ?_
  rintro e w1 ⟨rfl, r1, k1⟩
  have R1 := Lib.hid r1; have K1 := Lib.hid (((KA.out.mono (fun _ _ h => h.elim) : Kept (fun k => k = rb) _ _)).trans k1); have B1 := Lib.hid (BY.out.kept k1 hy)
  clear r1 k1 H KA BY
  have p0 := cell_blk B1.out 0
  have f0 := Blk.free B1.out 0
  have p1 := cell_blk B1.out 1
  have f1 := Blk.free B1.out 1
  have p2 := cell_blk B1.out 2
  have f2 := Blk.free B1.out 2
  have p3 := cell_blk B1.out 3
  have f3 := Blk.free B1.out 3
  have p4 := cell_blk B1.out 4
  have f4 := Blk.free B1.out 4
  have p5 := cell_blk B1.out 5
  have f5 := Blk.free B1.out 5
  have p6 := cell_blk B1.out 6
  have f6 := Blk.free B1.out 6
  rw [show (ok && !(([111, 112, 101, 110] : Tx) :: r == [])) = ok by simp] at R1
  go_wp2_with fail
  refine bodyPost_ret (results_two rfl _ _ y 27 _ _ rfl (Blk.set7 B1.out) Tryz.underlying27 rfl (by kernel_rfl)) rfl ?_
  refine ⟨_, rfl, ⟨none, 0, by simp [rdFs, stp0], .inl rfl, fun _ h => (nomatch h), fun _ => ⟨rfl, rfl⟩⟩, ?_, KY.out _ K1.out _ Kept.seven⟩
  exact R1.out.apart Kept.seven (fun e => hy e) hBy
end Go.Proofs.YtnjmdldhgconmaaGreatDoor
