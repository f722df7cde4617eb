/- The document's sector of texts: Scan. -/
import Derived.Test.YtlmpkonfclnceaaGreatRq3
namespace Go.Proofs.YtlmpkonfclnceaaGreat
open Go.RowKit Go.Sort

section
attribute [local go_sem ↓] exec_app semAt_app
attribute [local go_sem] isApp_lit appA appX
set_option maxRecDepth 100000 in
set_option maxHeartbeats 1600000 in
theorem rq_scan (a : Option Addr) (n c : Nat) (bs : List (List Nat)) (hn : n = bs.length) (hl : n ≤ 256) (hb : ∀ b ∈ bs, Bts b ∧ b.length = 256) (e : Nat) (he : 1 ≤ e ∧ e ≤ 1099511627776) (w : World) (hat : RowsAt w a bs) :
    Calls Tryz.prog 66 #[.slice a n c, .int .i64 (e : Nat)] w fun r w' => (∃ v, r = .returned (.tuple #[v, .int .i64 ((scanS (e : Nat) 0 bs).2 : Nat)]) ∧ OwnT w' w.heap.size v (scanS (e : Nat) 0 bs).1) ∧ Same w w' := by
  have HAT := Lib.hid hat
  have HB := Lib.hid hb
  have HN := Lib.hid hn
  clear hat hb hn
  go_enter Tryz.func66, Tryz.ntmps66
  go_wp2_with fail
  go_loopw [6, 7] (fun v t wr => ∃ (i : Nat) (acc : List (List Nat)), t = .int .i64 i ∧ i ≤ n ∧ OwnT wr w.heap.size v acc ∧ acc.length ≤ 239 * i ∧ (scanS (e : Nat) 0 bs).1 = acc ++ (scanS (e : Nat) i (bs.drop i)).1 ∧ (scanS (e : Nat) 0 bs).2 = (scanS (e : Nat) i (bs.drop i)).2 ∧ Same w wr) (fun _ t _ => n - (intOf t).toNat)
  case atStart => exact ⟨0, [], rfl, by omega, OwnE.nil _ _ _, Nat.le_refl _, rfl, rfl, Kept.refl _ _⟩
  case round =>
    obtain ⟨i, acc, rfl, hi, hown, hal, hs1, hs2, hk⟩ := hrel
    have OWN := Lib.hid hown; have S1 := Lib.hid hs1; have S2 := Lib.hid hs2; have K := Lib.hid hk; have HAL := Lib.hid hal
    clear hown hs1 hs2 hk hal
    by_cases hgo : i < n
    · obtain ⟨rs, r1, r2, r3⟩ := HAT.out
      have hib : i < bs.length := by have := HN.out; omega
      have hbi : bs[i]? = some bs[i] := List.getElem?_eq_getElem hib
      have hri : rs[i]? = some (rs[i]'(by omega)) := List.getElem?_eq_getElem (by omega)
      obtain ⟨x, hx⟩ : ∃ x, bs[i] = x := ⟨_, rfl⟩
      obtain ⟨rr, hrr⟩ : ∃ rr, rs[i]'(by omega) = rr := ⟨_, rfl⟩
      rw [hx] at hbi
      rw [hrr] at hri
      have hR := r3 i rr x hri hbi
      obtain ⟨b, off, rfl, hbl⟩ := r1.there (fun q => by rw [q] at hri; simp at hri)
      have hc0 := r1.get hri 0 (u := .slice rr.1 rr.2.1 rr.2.2) rfl
      have hc1 := (K.out.cell (p := ⟨b, off + i, none⟩) hbl (fun h => h)).trans (by simpa [rowE] using hc0)
      obtain ⟨ra, rn, rc⟩ := rr
      dsimp only at hc1 hR
      have hd : bs.drop i = x :: bs.drop (i + 1) := by rw [List.drop_eq_getElem_cons hib, hx]
      obtain ⟨xb, xl⟩ := HB.out x (List.mem_of_getElem? hbi)
      have hrn : rn = 256 := by rw [show rn = x.length from hR.len, xl]
      have hrc : 256 ≤ rc := by have : rn ≤ rc := hR.cap; omega
      obtain ⟨rg, ro, rfl⟩ : ∃ rg ro, ra = some ⟨rg, ro, none⟩ := by
        rcases (show NatsAt w .u8 ra x from hR.at_) with q | ⟨rg, ro, q, _⟩
        · rw [q] at xl; cases xl
        · exact ⟨rg, ro, q⟩
      subst hrn
      have RD := Lib.hid (rq_read rg ro rc x xl hrc xb e i he (by omega) wr ((show NatsAt w .u8 (some ⟨rg, ro, none⟩) x from hR.at_).same K.out))
      have hsc : scanS (e : Nat) i (bs.drop i) = match readS x (e : Nat) (i : Nat) with
        | some y => (y ++ (scanS (e : Nat) (i + 1) (bs.drop (i + 1))).1, (scanS (e : Nat) (i + 1) (bs.drop (i + 1))).2)
        | none => ([], i) := by rw [hd]; rfl
      have g1 : (i : Int) < (n : Int) := by omega
      have g0 : (0 : Int) ≤ (i : Int) := by omega
      cases ho : readS x (e : Nat) (i : Nat) with
      | none =>
        rw [ho] at hsc RD
        have T1 : Hid ((scanS (e : Nat) 0 bs).1 = acc) := by show _ = _; rw [S1.out, hsc]; simp
        have T2 : Hid ((scanS (e : Nat) 0 bs).2 = i) := by show _ = _; rw [S2.out, hsc]
        clear hsc ho hd hR hc0 r1 r2 r3 hri hbi hx hrr
        go_wp2_with fail
        with_reducible refine RD.out.mono ?_
        rintro r w2 ⟨⟨v2, rfl, -⟩, k2⟩
        have K2 := Lib.hid (K.out.trans k2)
        have O2 := Lib.hid (OWN.out.same k2)
        clear k2
        go_wp2_with fail
        go_ret2
        rw [T1.out, T2.out]
        exact ⟨⟨_, rfl, O2.out⟩, K2.out⟩
      | some y =>
        rw [ho] at hsc RD
        have hy := readS_some ho
        have hyl : y.length ≤ 239 := Nat.le_trans (bdy_count y) hy.2.2.1
        have T1 : Hid ((scanS (e : Nat) 0 bs).1 = (acc ++ y) ++ (scanS (e : Nat) (i + 1) (bs.drop (i + 1))).1) := by show _ = _; rw [S1.out, hsc, List.append_assoc]
        have T2 : Hid ((scanS (e : Nat) 0 bs).2 = (scanS (e : Nat) (i + 1) (bs.drop (i + 1))).2) := by show _ = _; rw [S2.out, hsc]
        clear hsc ho hd hR hc0 r1 r2 r3 hri hbi hx hrr hy
        go_wp2_with fail
        with_reducible refine RD.out.mono ?_
        rintro r w2 ⟨⟨v2, rfl, o2⟩, k2⟩
        obtain ⟨a2, l2, c2, rfl, hl2, hn2, ha2, -⟩ := OwnE.rd o2
        have K2 := Lib.hid (K.out.trans k2)
        obtain ⟨v5, w5, hrun, ow5, k5⟩ := txts_append (OWN.out.same k2) (Nat.le_trans K.out.size k2.size) a2 l2 c2 y hl2.out ha2.out hn2.out (by have := HAL.out; omega)
        obtain ⟨aok, aV, aW⟩ := app_of hrun
        have O5 := Lib.hid ow5
        have K5 := Lib.hid (K2.out.step k5 (fun j hj q => by have := (World.ownsRow.lt OWN.out j q).1; omega))
        clear hrun ow5 k5 o2 k2 hn2 ha2 hl2
        go_wp2_with fail
        go_roundw
        case rel => exact ⟨i + 1, acc ++ y, by go_num, by omega, O5.out, by have := HAL.out; simp; omega, T1.out, T2.out, K5.out⟩
        case measure => simp [intOf]; omega
    · have e1 : bs.drop i = [] := List.drop_eq_nil_of_le (by have := HN.out; omega)
      have g1 : ¬ (i : Int) < (n : Int) := by omega
      have T1 : Hid ((scanS (e : Nat) 0 bs).1 = acc) := by show _ = _; rw [S1.out, e1]; simp [scanS]
      have T2 : Hid ((scanS (e : Nat) 0 bs).2 = n) := by show _ = _; rw [S2.out, e1]; simp [scanS]; omega
      clear e1
      go_wp2_with fail
      go_ret2
      rw [T1.out, T2.out]
      exact ⟨⟨_, rfl, OWN.out⟩, K.out⟩
end
end Go.Proofs.YtlmpkonfclnceaaGreat
