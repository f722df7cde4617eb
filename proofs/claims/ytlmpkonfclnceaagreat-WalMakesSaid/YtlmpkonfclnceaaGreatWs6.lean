/- Texts in sectors: Scan. -/
import Derived.Test.YtlmpkonfclnceaaGreatWs5
namespace Go.Proofs.YtlmpkonfclnceaaGreat
open Go.RowKit Go.Sort

set_option maxRecDepth 100000 in
theorem ws_read (a : Option Addr) (n c : Nat) (xs : List Nat) (hn : n = xs.length) (hl : n ≤ 1000000) (hc : n ≤ c) (hx : Bts xs) (e t : Int) (w : World) (hat : NatsAt w .u8 a xs) :
    Calls Tryz.prog 68 #[.slice a n c, .int .i64 e, .int .i64 t] w (ReadPost w (readS xs e t)) := by
  by_cases hok : xs.length = 256 ∧ okE e t = true
  · obtain ⟨h1, h2⟩ := hok
    have h3 : 1 ≤ e ∧ e ≤ 1099511627776 ∧ 0 ≤ t ∧ t < 256 := by unfold okE at h2; simp at h2; omega
    obtain ⟨E, rfl⟩ : ∃ E : Nat, e = (E : Int) := ⟨e.toNat, by omega⟩
    obtain ⟨T, rfl⟩ : ∃ T : Nat, t = (T : Int) := ⟨t.toNat, by omega⟩
    obtain ⟨g, o, rfl⟩ : ∃ g o, a = some ⟨g, o, none⟩ := by
      rcases hat with q | ⟨g, o, q, _⟩
      · rw [q] at h1; cases h1
      · exact ⟨g, o, q⟩
    have h4 : n = 256 := by omega
    subst h4
    exact ws_read_ok g o c xs h1 hc hx E T (by omega) (by omega) w hat
  · have : readS xs e t = none := by unfold readS; rw [if_neg hok]
    rw [this]
    exact ws_read_bad a n c xs hn hl e t w hok
/-- Texts, appended to texts of one's own. -/
theorem txts_append {w : World} {base : Nat} {v : Value} {l : List (List Nat)} (h : OwnT w base v l) (hb : base ≤ w.heap.size) (ao : Option Addr) (m c : Nat) (ys : List (List Nat)) (hm : m = ys.length) (hat : TxtsAt w ao ys) (hnil : ao = none → c = 0) (hl : l.length + ys.length ≤ 1000000) :
    ∃ v' w', (Builtin.append_ #[46, 46] 46 #[v, .slice ao m c]).run Tryz.prog w = .ok v' w' ∧ OwnT w' base v' (l ++ ys) ∧ Kept (fun j => v.ownBlock = some j) w w' := by
  obtain ⟨v', w', hrun, ho, hgr, -⟩ := run_appendE (P := Tryz.prog) w 46 46 base 9 (.string ByteArray.empty) 16 strE Tryz.underlying46 strInfo rfl v l h ao m c ys hm hat hnil (by unfold maxLen; omega) (by omega) hb
  exact ⟨v', w', hrun, ho, (Kept.refl _ _).grown hgr (fun k hk _ => hk)⟩
section
attribute [local go_sem ↓] exec_app semAt_app
attribute [local go_sem] isApp_lit appA appX
set_option maxRecDepth 100000 in
set_option maxHeartbeats 1600000 in
theorem ws_scan (a : Option Addr) (n c : Nat) (bs : List (List Nat)) (hn : n = bs.length) (hl : n ≤ 256) (hb : ∀ b ∈ bs, Bts b ∧ b.length ≤ 1000000) (e : Int) (w : World) (hat : RowsAt w a bs) :
    Calls Tryz.prog 38 #[.slice a n c, .int .i64 e] w fun r w' => (∃ v, r = .returned (.tuple #[v, .int .i64 ((scanS e 0 bs).2 : Nat)]) ∧ OwnT w' w.heap.size v (scanS e 0 bs).1) ∧ Same w w' := by
  have HAT := Lib.hid hat
  have HB := Lib.hid hb
  have HN := Lib.hid hn
  clear hat hb hn
  go_enter Tryz.func38, Tryz.ntmps38
  go_wp2_with fail
  go_loopw [6, 13] (fun v t wr => ∃ (i : Nat) (acc : List (List Nat)), t = .int .i64 i ∧ i ≤ n ∧ OwnT wr w.heap.size v acc ∧ acc.length ≤ 239 * i ∧ (scanS e 0 bs).1 = acc ++ (scanS e i (bs.drop i)).1 ∧ (scanS e 0 bs).2 = (scanS e i (bs.drop i)).2 ∧ Same w wr) (fun _ t _ => n - (intOf t).toNat)
  case atStart => exact ⟨0, [], rfl, by omega, OwnE.nil _ _ _, Nat.le_refl _, rfl, rfl, Kept.refl _ _⟩
  case round =>
    obtain ⟨i, acc, rfl, hi, hown, hal, hs1, hs2, hk⟩ := hrel
    have OWN := Lib.hid hown; have S1 := Lib.hid hs1; have S2 := Lib.hid hs2; have K := Lib.hid hk; have HAL := Lib.hid hal
    clear hown hs1 hs2 hk hal
    by_cases hgo : i < n
    · obtain ⟨rs, r1, r2, r3⟩ := HAT.out
      have hib : i < bs.length := by have := HN.out; omega
      have hbi : bs[i]? = some bs[i] := List.getElem?_eq_getElem hib
      have hri : rs[i]? = some (rs[i]'(by omega)) := List.getElem?_eq_getElem (by omega)
      obtain ⟨x, hx⟩ : ∃ x, bs[i] = x := ⟨_, rfl⟩
      obtain ⟨rr, hrr⟩ : ∃ rr, rs[i]'(by omega) = rr := ⟨_, rfl⟩
      rw [hx] at hbi
      rw [hrr] at hri
      have hR := r3 i rr x hri hbi
      obtain ⟨b, off, rfl, hbl⟩ := r1.there (fun q => by rw [q] at hri; simp at hri)
      have hc0 := r1.get hri 0 (u := .slice rr.1 rr.2.1 rr.2.2) rfl
      have hc1 := (K.out.cell (p := ⟨b, off + i, none⟩) hbl (fun h => h)).trans (by simpa [rowE] using hc0)
      obtain ⟨ra, rn, rc⟩ := rr
      dsimp only at hc1 hR
      have hd : bs.drop i = x :: bs.drop (i + 1) := by rw [List.drop_eq_getElem_cons hib, hx]
      have RD := Lib.hid (ws_read ra rn rc x hR.len (by rw [show rn = x.length from hR.len]; exact (HB.out x (List.mem_of_getElem? hbi)).2) hR.cap (HB.out x (List.mem_of_getElem? hbi)).1 e (i : Nat) wr (hR.at_.same K.out))
      have hsc : scanS e i (bs.drop i) = match readS x e i with
        | some y => (y ++ (scanS e (i + 1) (bs.drop (i + 1))).1, (scanS e (i + 1) (bs.drop (i + 1))).2)
        | none => ([], i) := by rw [hd]; rfl
      have g1 : (i : Int) < (n : Int) := by omega
      have g0 : (0 : Int) ≤ (i : Int) := by omega
      cases ho : readS x e i with
      | none =>
        rw [ho] at hsc RD
        have T1 : Hid ((scanS e 0 bs).1 = acc) := by show _ = _; rw [S1.out, hsc]; simp
        have T2 : Hid ((scanS e 0 bs).2 = i) := by show _ = _; rw [S2.out, hsc]
        clear hsc ho hd hR hc0 r1 r2 r3 hri hbi hx hrr
        go_wp2_with fail
        with_reducible refine RD.out.mono ?_
        rintro r w2 ⟨⟨v2, rfl, -⟩, k2⟩
        have K2 := Lib.hid (K.out.trans k2)
        have O2 := Lib.hid (OWN.out.same k2)
        clear k2
        go_wp2_with fail
        go_ret2
        rw [T1.out, T2.out]
        exact ⟨⟨_, rfl, O2.out⟩, K2.out⟩
      | some y =>
        rw [ho] at hsc RD
        have hy := readS_some ho
        have hyl : y.length ≤ 239 := Nat.le_trans (bdy_count y) hy.2.2.1
        have T1 : Hid ((scanS e 0 bs).1 = (acc ++ y) ++ (scanS e (i + 1) (bs.drop (i + 1))).1) := by show _ = _; rw [S1.out, hsc, List.append_assoc]
        have T2 : Hid ((scanS e 0 bs).2 = (scanS e (i + 1) (bs.drop (i + 1))).2) := by show _ = _; rw [S2.out, hsc]
        clear hsc ho hd hR hc0 r1 r2 r3 hri hbi hx hrr hy
        go_wp2_with fail
        with_reducible refine RD.out.mono ?_
        rintro r w2 ⟨⟨v2, rfl, o2⟩, k2⟩
        obtain ⟨a2, l2, c2, rfl, hl2, hn2, ha2, -⟩ := OwnE.rd o2
        have K2 := Lib.hid (K.out.trans k2)
        obtain ⟨v5, w5, hrun, ow5, k5⟩ := txts_append (OWN.out.same k2) (Nat.le_trans K.out.size k2.size) a2 l2 c2 y hl2.out ha2.out hn2.out (by have := HAL.out; omega)
        obtain ⟨aok, aV, aW⟩ := app_of hrun
        have O5 := Lib.hid ow5
        have K5 := Lib.hid (K2.out.step k5 (fun j hj q => by have := (World.ownsRow.lt OWN.out j q).1; omega))
        clear hrun ow5 k5 o2 k2 hn2 ha2 hl2
        go_wp2_with fail
        go_roundw
        case rel => exact ⟨i + 1, acc ++ y, by go_num, by omega, O5.out, by have := HAL.out; simp; omega, T1.out, T2.out, K5.out⟩
        case measure => simp [intOf]; omega
    · have e1 : bs.drop i = [] := List.drop_eq_nil_of_le (by have := HN.out; omega)
      have g1 : ¬ (i : Int) < (n : Int) := by omega
      have T1 : Hid ((scanS e 0 bs).1 = acc) := by show _ = _; rw [S1.out, e1]; simp [scanS]
      have T2 : Hid ((scanS e 0 bs).2 = n) := by show _ = _; rw [S2.out, e1]; simp [scanS]; omega
      clear e1
      go_wp2_with fail
      go_ret2
      rw [T1.out, T2.out]
      exact ⟨⟨_, rfl, OWN.out⟩, K.out⟩
end
end Go.Proofs.YtlmpkonfclnceaaGreat
