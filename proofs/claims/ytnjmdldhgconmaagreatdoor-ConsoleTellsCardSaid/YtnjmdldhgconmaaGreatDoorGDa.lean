/- GDa: Dc4, Dc5, Dc6. -/
import Derived.Test.YtnjmdldhgconmaaGreatDoorDc3
import Derived.Lib.BytesEntry
namespace Go.Proofs.YtnjmdldhgconmaaGreatDoor
open Go.RowKit
attribute [local go_sem ↓] exec_app semAt_app
attribute [local go_sem] isApp_lit appA appX

/-- How many bytes stand ahead of the first zero. -/
def z0 : List Nat → Nat
  | [] => 0
  | c :: l => if c = 0 then 0 else z0 l + 1
theorem z0_le (l : List Nat) : z0 l ≤ l.length := by
  induction l with
  | nil => simp [z0]
  | cons c l ih => simp only [z0]; split <;> simp; omega
theorem z0_at : ∀ {l : List Nat}, z0 l < l.length → l[z0 l]? = some 0
  | [], h => by simp [z0] at h
  | c :: l, h => by
    simp only [z0] at h ⊢
    split
    · rename_i hc; subst hc; rfl
    · rename_i hc
      rw [if_neg hc] at h
      simp only [List.length_cons] at h
      simpa using z0_at (l := l) (by omega)
theorem z0_drop {l : List Nat} (h : z0 l < l.length) : l = l.take (z0 l) ++ 0 :: l.drop (z0 l + 1) := by
  have h1 := z0_at h
  have h2 : l[z0 l] = 0 := by rw [List.getElem?_eq_getElem h] at h1; exact Option.some.inj h1
  have h3 : l.drop (z0 l) = 0 :: l.drop (z0 l + 1) := by rw [List.drop_eq_getElem_cons h, h2]
  rw [← h3, List.take_append_drop]
/-- The bytes ahead of the first zero are taken whole. -/
theorem gT_run (l m : List Nat) (h : ∀ x ∈ l, x ≠ 0) : gT (l ++ m) = addT l l.length (gT m) := by
  induction l with
  | nil => rw [List.nil_append]; exact (addT_nil _).symm
  | cons c l ih =>
    rw [List.cons_append, gT_cons (h c (by simp)), ih (fun x hx => h x (by simp [hx])), addT_add]
    simp [Nat.add_comm]
theorem z0_take : ∀ (l : List Nat), ∀ x ∈ l.take (z0 l), x ≠ 0
  | [], x, hx => by simp at hx
  | c :: l, x, hx => by
    simp only [z0] at hx
    split at hx
    · simp at hx
    · rename_i hc
      rw [List.take_succ_cons] at hx
      rcases List.mem_cons.1 hx with rfl | hx
      · exact hc
      · exact z0_take l x hx
theorem idx_zero (l : List Nat) (hb : Bts l) : Lib.indexByte (l.map UInt8.ofNat) 0 = if z0 l < l.length then (z0 l : Int) else -1 := by
  induction l with
  | nil => rfl
  | cons c l ih =>
    have hc := hb c (by simp)
    have ih := ih fun x hx => hb x (by simp [hx])
    have hz := z0_le l
    simp only [List.map_cons, Lib.indexByte, z0]
    by_cases h : c = 0
    · subst h; simp
    · have hne : (UInt8.ofNat c == 0) = false := by
        rw [beq_eq_false_iff_ne]
        intro e
        have := congrArg UInt8.toNat e
        simp at this
        omega
      rw [hne]
      simp only [Bool.false_eq_true, if_false, if_neg h, List.length_cons]
      by_cases hl : z0 l < l.length
      · have hI : Lib.indexByte (l.map UInt8.ofNat) 0 = (z0 l : Int) := by rw [ih, if_pos hl]
        have hq : ((z0 l : Int) == -1) = false := by rw [beq_eq_false_iff_ne]; omega
        rw [hI, hq, if_pos (show z0 l + 1 < l.length + 1 by omega)]
        simp
      · have hI : Lib.indexByte (l.map UInt8.ofNat) 0 = -1 := by rw [ih, if_neg hl]
        rw [hI, if_neg (show ¬ z0 l + 1 < l.length + 1 by omega)]
        rfl
set_option maxRecDepth 100000 in
theorem by_index (b off n c : Nat) (l : List Nat) (hn : n = l.length) (hb : Bts l) (w : World) (hat : NatsAt w .u8 (some ⟨b, off, none⟩) l) :
    Calls Tryz.prog 406 #[.slice (some ⟨b, off, none⟩) n c, .int .u8 0] w fun e w' => e = .returned (.int .i64 (if z0 l < n then (z0 l : Int) else -1)) ∧ w = w' := by
  have hx : (callFunc 453 #[.slice (some ⟨b, off, none⟩) n c, .int .u8 0]).run Tryz.prog w = .ok (.value (.int .i64 (if z0 l < n then (z0 l : Int) else -1))) w := by
    rw [run_callFunc_extern Tryz.func453 (by kernel_rfl) (by kernel_rfl) (by kernel_rfl) (e := Extern.BytealgIndexByte.indexByte) (by kernel_rfl)]
    rw [Lib.run_indexByteSlice (w := w) b off n c (l.map fun x : Nat => (x : Int)) (by simp [hn]) (fun i hi => by
      have := nats_cells hat i (by omega)
      exact this) 0]
    have e : Lib.bytesOf (l.map fun x : Nat => (x : Int)) = l.map UInt8.ofNat := by
      unfold Lib.bytesOf
      rw [List.map_map]
      apply List.map_congr_left
      intro x _
      simp
    rw [e]
    have := idx_zero l hb
    rw [show (0 : Int).toNat.toUInt8 = 0 from rfl, this, hn]
    rfl
  obtain ⟨r, hr⟩ : ∃ r : Int, (if z0 l < n then (z0 l : Int) else -1) = r := ⟨_, rfl⟩
  rw [hr] at hx ⊢
  clear hat hn hr
  go_enter Tryz.func406, Tryz.ntmps406
  go_wp2_with fail
  go_ret
  exact ⟨rfl, rfl⟩
end Go.Proofs.YtnjmdldhgconmaaGreatDoor

namespace Go.Proofs.YtnjmdldhgconmaaGreatDoor
open Go.RowKit
attribute [local go_sem ↓] exec_app semAt_app
attribute [local go_sem] isApp_lit appA appX

theorem drop_split {xs : List Nat} {i k : Nat} (hk : z0 (xs.drop i) = k) (h : i + k + 1 < xs.length) :
    xs.drop i = (xs.drop i).take k ++ 0 :: xs[i + k + 1] :: xs.drop (i + k + 2) := by
  have h1 : z0 (xs.drop i) < (xs.drop i).length := by rw [hk, List.length_drop]; omega
  have h2 := z0_drop h1
  rw [hk, List.drop_drop] at h2
  rw [show i + (k + 1) = i + k + 1 by omega, List.drop_eq_getElem_cons h] at h2
  exact h2
set_option maxRecDepth 100000 in
set_option maxHeartbeats 1600000 in
theorem ord_getText (a : Option Addr) (n cap : Nat) (xs : List Nat) (hn : n = xs.length) (hb : Bts xs) (hl : n ≤ 1000000) (hc : n ≤ cap) (hm : cap ≤ 9223372036854775807) (w : World) (hat : NatsAt w .u8 a xs) :
    Calls Tryz.prog 334 #[.slice a n cap] w fun e w' => e = .returned (retT (gT xs)) ∧ Same w w' := by
  have AT := Lib.hid hat; have HN := Lib.hid hn
  obtain ⟨R, hR⟩ : ∃ R, gT xs = R := ⟨_, rfl⟩
  have HR := Lib.hid hR
  rw [hR]
  clear hat hn hR
  go_enter Tryz.func334, Tryz.ntmps334
  go_wp2_with fail
  go_loopw [5, 6] (fun v t wr => ∃ (i : Nat) (acc : List Nat), t = .int .i64 i ∧ i ≤ n ∧ acc.length ≤ i ∧ OwnN wr w.heap.size 5 .u8 v acc ∧ Bts acc ∧ R = addT acc i (gT (xs.drop i)) ∧ Same w wr) (fun _ t _ => n - (intOf t).toNat)
  case atStart => exact ⟨0, [], rfl, by omega, by simp, World.ownsRow_nil _ _ _ _, (fun x hx => by cases hx), (by rw [addT_nil, List.drop_zero]; exact HR.out.symm), Kept.refl _ _⟩
  case round =>
    obtain ⟨i, acc, rfl, hi, hal, ho, hab, hr, hk⟩ := hrel
    have HO := Lib.hid ho; have HK := Lib.hid hk; have HB := Lib.hid hab; have RR := Lib.hid hr; have HL := Lib.hid hal
    clear ho hk hab hr hal
    by_cases hgo : i < n
    · have hgx : i < xs.length := by have := HN.out; omega
      have g1 : (i : Int) < (n : Int) := by omega
      have g0 : (0 : Int) ≤ (i : Int) := by omega
      have hcc : i < cap := by omega
      obtain ⟨ab, ao, c, rfl, -, -, -⟩ := (AT.out.same HK.out).at (i := i) hgx
      have hlen : (xs.drop i).length = n - i := by rw [List.length_drop, ← HN.out]
      have BI := Lib.hid (by_index ab (ao + i) (n - i) (cap - i) (xs.drop i) hlen.symm (fun x hx => hb x (List.mem_of_mem_drop hx)) wr ((AT.out.same HK.out).drop i))
      obtain ⟨k, hkk⟩ : ∃ k, z0 (xs.drop i) = k := ⟨_, rfl⟩
      have HKK := Lib.hid hkk
      rw [hkk] at BI
      have hkle : k ≤ n - i := by rw [← hlen, ← hkk]; exact z0_le _
      have HLEN := Lib.hid hlen
      clear hkk hlen
      by_cases hz : k < n - i
      · rw [if_pos hz] at BI
        have g3 : ¬ ((k : Nat) : Int) < 0 := by omega
        by_cases hlast : i + k + 1 < n
        · have hgx2 : i + k + 1 < xs.length := by have := HN.out; omega
          have hci : i + k < cap := by omega
          have g4 : (i : Int) + (k : Int) + 1 < (n : Int) := by omega
          have g5 : (0 : Int) ≤ (i : Int) + (k : Int) := by omega
          obtain ⟨ab2, ao2, d, hae, -, hx2, hd⟩ := (AT.out.same HK.out).at (i := i + k + 1) hgx2
          obtain ⟨rfl, rfl⟩ : ab = ab2 ∧ ao = ao2 := by
            simp only [Option.some.injEq, Addr.mk.injEq, and_true] at hae
            exact hae
          have hxd : xs[i + k + 1] = d := by rw [List.getElem?_eq_getElem hgx2] at hx2; exact Option.some.inj hx2
          have DR := Lib.hid (drop_split HKK.out hgx2)
          rw [hxd] at DR
          clear hae hxd hd
          obtain ⟨T, hT⟩ : ∃ T, (xs.drop i).take k = T := ⟨_, rfl⟩
          have hTl : T.length = k := by rw [← hT, List.length_take, HLEN.out]; omega
          have hTb : Bts T := by rw [← hT]; exact fun x hx => hb x (List.mem_of_mem_drop (List.mem_of_mem_take hx))
          have hTz : ∀ x ∈ T, x ≠ 0 := by rw [← hT, ← HKK.out]; exact z0_take _
          have hTat : NatsAt wr .u8 (some ⟨ab, ao + i, none⟩) T := by rw [← hT]; exact ((AT.out.same HK.out).drop i).take k
          rw [hT] at DR
          have HTL := Lib.hid hTl
          obtain ⟨v5, w5, hrun, h5, g6, -⟩ := app_facts (P := Tryz.prog) wr 25 25 w.heap.size 5 .u8 1 Tryz.underlying25 info8 (by decide) u5 acc HO.out (some ⟨ab, ao + i, none⟩) k (cap - i) T hTl.symm hTat (fun e => by cases e) (by have := HL.out; omega) HK.out.size
          obtain ⟨aok, aV, aW⟩ := app_of hrun
          have K5 := Lib.hid (HK.out.grownNew g6 (fun k hk => by have := (World.ownsRow.lt HO.out _ hk).1; omega))
          have H5 := Lib.hid h5
          have R5 : Hid (R = addT (acc ++ T) (i + k) (gT (0 :: d :: xs.drop (i + k + 2)))) := by
            show _ = _
            rw [RR.out, DR.out, gT_run T _ hTz, HTL.out, addT_add]
          have B5 : Hid (Bts (acc ++ T)) := by
            show Bts _
            intro x hx
            rcases List.mem_append.1 hx with hx | hx
            · exact HB.out x hx
            · exact hTb x hx
          have L5 : Hid ((acc ++ T).length ≤ i + k) := by show _ ≤ _; have := HL.out; simp; omega
          obtain ⟨ab3, ao3, d2, hae, -, hx3, hd⟩ := (AT.out.same K5.out).at (i := i + k + 1) hgx2
          obtain ⟨rfl, rfl⟩ : ab = ab3 ∧ ao = ao3 := by
            simp only [Option.some.injEq, Addr.mk.injEq, and_true] at hae
            exact hae
          obtain rfl : d = d2 := by
            rw [hx2] at hx3; exact Option.some.inj hx3
          rw [show i + k + 1 = i + (k + 1) by omega] at hd
          clear hae hx2 hx3 hT hTl hTb hTz hTat hrun h5 g6 HO HK RR HB HL DR
          have g7 : (i : Int) + ((k : Int) + 2) - 1 < (n : Int) := by omega
          have g8 : (0 : Int) ≤ (i : Int) + ((k : Int) + 2) - 1 := by omega
          by_cases hd1 : d = 1
          · have hd2 : (((d : Nat) : Int) == 1) = true := by simp; omega
            obtain ⟨va, vc, rfl, -, -, -, vat, -⟩ := H5.out.read
            have hcs := conv_str va (acc.length + T.length) vc (acc ++ T) w5 (by simp) vat
            have RE := Lib.hid (show R = (acc ++ T, i + (k + 2), 0) from by
              rw [R5.out, hd1, gT_end]; simp [addT, Nat.add_assoc])
            clear R5 B5 L5 vat hd1
            go_wp2_with fail
            refine BI.out.mono ?_
            rintro e w2 ⟨rfl, rfl⟩
            go_wp2_with fail
            go_ret3
            exact ⟨by rw [RE.out]; rfl, K5.out⟩
          · by_cases hd5 : d = 255
            · have hd2 : (((d : Nat) : Int) == 1) = false := by simp; omega
              have hd6 : (((d : Nat) : Int) == 255) = true := by simp; omega
              have kB : Same w5 (w5.alloc (.cells #[.int .u8 0] 5)) := (Kept.refl _ w5).alloc _
              have hn0 : NatsAt (w5.alloc (.cells #[.int .u8 0] 5)) .u8 (some ⟨w5.heap.size, 0, none⟩) [0] := one_at w5 0 _
              obtain ⟨v7, w7, hrun7, h7, g9, -⟩ := app_facts (P := Tryz.prog) (w5.alloc (.cells #[.int .u8 0] 5)) 25 25 w.heap.size 5 .u8 1 Tryz.underlying25 info8 (by decide) v5 (acc ++ T) (H5.out.same kB) (some ⟨w5.heap.size, 0, none⟩) 1 1 [0] rfl hn0 (fun e => by cases e) (by have := L5.out; simp only [List.length_append, List.length_cons, List.length_nil] at this ⊢; omega) (by have := K5.out.size; simp; omega)
              obtain ⟨aok7, aV7, aW7⟩ := app_of hrun7
              have K7 := Lib.hid ((K5.out.trans kB).grownNew g9 (fun k hk => by have := (World.ownsRow.lt H5.out _ hk).1; omega))
              have H7 := Lib.hid h7
              have R7 : Hid (R = addT (acc ++ T ++ [0]) (i + (k + 2)) (gT (xs.drop (i + (k + 2))))) := by show _ = _; rw [R5.out, hd5, gT_zero, addT_add]; rfl
              have B7 : Hid (Bts (acc ++ T ++ [0])) := by
                show Bts _
                intro x hx
                rcases List.mem_append.1 hx with hx | hx
                · exact B5.out x hx
                · simp at hx; omega
              clear hrun7 h7 g9 kB hn0 H5 K5 hd1 hd5 R5 B5
              go_wp2_with fail
              refine BI.out.mono ?_
              rintro e w2 ⟨rfl, rfl⟩
              go_wp2_with fail
              go_roundw
              case rel => exact ⟨i + (k + 2), acc ++ T ++ [0], by go_num, by omega, by have := L5.out; simp only [List.length_append, List.length_cons, List.length_nil] at this ⊢; omega, H7.out, B7.out, R7.out, K7.out⟩
              case measure => simp [intOf]; omega
            · have hd2 : (((d : Nat) : Int) == 1) = false := by simp; omega
              have hd6 : (((d : Nat) : Int) == 255) = false := by simp; omega
              have RE := Lib.hid (show R = ([], 0, 4) from by
                rw [R5.out, gT_bad hd1 hd5]; rfl)
              clear R5 B5 L5 hd1 hd5
              go_wp2_with fail
              refine BI.out.mono ?_
              rintro e w2 ⟨rfl, rfl⟩
              go_wp2_with fail
              go_ret3
              exact ⟨by rw [RE.out]; rfl, K5.out⟩
        · have g4 : ¬ (i : Int) + (k : Int) + 1 < (n : Int) := by omega
          have RE := Lib.hid (show R = ([], 0, 3) from by
            have h1 : z0 (xs.drop i) < (xs.drop i).length := by rw [HKK.out, HLEN.out]; omega
            have h2 := z0_drop h1
            rw [HKK.out, List.drop_drop, List.drop_of_length_le (i := i + (k + 1)) (by have := HN.out; omega)] at h2
            have hnz := z0_take (xs.drop i)
            rw [HKK.out] at hnz
            rw [RR.out, h2, gT_run _ _ hnz, addT_bad (r := addT _ _ _)]
            · rw [addT_bad]; · rfl
              · simp [gT]
            · rw [addT_bad]; · simp [gT]
              · simp [gT])
          clear RR HB HL
          go_wp2_with fail
          refine BI.out.mono ?_
          rintro e w2 ⟨rfl, rfl⟩
          go_wp2_with fail
          go_ret3
          exact ⟨by rw [RE.out]; rfl, HK.out⟩
      · rw [if_neg hz] at BI
        have RE := Lib.hid (show R = ([], 0, 3) from by
          have hnz : ∀ x ∈ xs.drop i, x ≠ 0 := by
            have := z0_take (xs.drop i)
            rw [HKK.out, List.take_of_length_le (by rw [HLEN.out]; omega)] at this
            exact this
          have := gT_run (xs.drop i) [] hnz
          rw [List.append_nil] at this
          rw [RR.out, this, addT_bad (r := addT _ _ _)]
          · rw [addT_bad]; · rfl
            · simp [gT]
          · rw [addT_bad]; · simp [gT]
            · simp [gT])
        clear RR HB HL
        go_wp2_with fail
        refine BI.out.mono ?_
        rintro e w2 ⟨rfl, rfl⟩
        go_wp2_with fail
        go_ret3
        exact ⟨by rw [RE.out]; rfl, HK.out⟩
    · have e : i = n := by omega
      have g1 : ¬ (i : Int) < (n : Int) := by omega
      have RE := Lib.hid (show R = ([], 0, 3) from by rw [RR.out, List.drop_of_length_le (by have := HN.out; omega)]; rfl)
      go_wp2_with fail
      go_ret3
      exact ⟨by rw [RE.out]; rfl, HK.out⟩
end Go.Proofs.YtnjmdldhgconmaaGreatDoor

namespace Go.Proofs.YtnjmdldhgconmaaGreatDoor
open Go.RowKit

set_option maxHeartbeats 1600000 in
theorem ord_text (g : Nat) (a : Option Addr) (cap : Nat) (xs : List Nat) (er most : Nat) (w : World) (hr : Rdr w g a cap xs er) (hb : Bts xs) (hl : xs.length ≤ 1000000) (hmo : most ≤ 1000000) :
    Calls Tryz.prog 246 #[.pointer (some ⟨g, 0, none⟩), .int .i64 (most : Nat)] w fun e w' => e = .returned (.string (strN (rdText xs er most).2.2)) ∧
      (∃ a' cap', Rdr w' g a' cap' (rdText xs er most).1 (rdText xs er most).2.1 ∧ ∀ x, a' = some x → ∃ y, a = some y ∧ x.block = y.block) ∧ Kept (fun k => k = g) w w' := by
  obtain ⟨hB, hat, hc, hm, hne⟩ := hr
  have HB := Lib.hid hB; have HA := Lib.hid hat; have HN := Lib.hid hne
  have c0 : w.cell? ⟨g, 0, none⟩ = some (.slice a xs.length cap) := hB.cell 0 rfl
  have c1 : w.cell? ⟨g, 1, none⟩ = some (.int .i64 (er : Nat)) := hB.cell 1 rfl
  have f0 := hB.free 0
  have f1 := hB.free 1
  have S := Lib.hid (ord_state g er _ w hB)
  have G := Lib.hid (show Calls Tryz.prog 334 #[.slice a xs.length cap] w fun e w'' => e = .returned (.tuple #[.string (strN (gT xs).1), .int .i64 ((gT xs).2.1 : Nat), .int .i64 ((gT xs).2.2 : Nat)]) ∧ Same w w'' from ord_getText a xs.length cap xs rfl hb hl hc hm w hat)
  have MX : max (0 : Int) (most : Int) = (most : Int) := by omega
  have HOK := Lib.hid (gT_ok xs)
  clear hB hat hne hb
  by_cases he : er = 0
  · subst he
    have HD : Hid (rdText xs 0 most = if (gT xs).2.2 ≠ 0 then (xs, (gT xs).2.2, []) else if most < (gT xs).1.length then (xs, 5, []) else (xs.drop (gT xs).2.1, 0, (gT xs).1)) := rfl
    generalize gT xs = q at *
    obtain ⟨u, n, e2⟩ := q
    by_cases h2 : e2 = 0
    · subst h2
      obtain ⟨hn1, hn2, _⟩ := HOK.out rfl
      simp only at hn1 hn2
      have SZ : (strN u).size = u.length := strN_len u
      by_cases hu : most < u.length
      · have HE : Hid (rdText xs 0 most = (xs, 5, [])) := by show _ = _; rw [HD.out]; simp [hu]
        clear HD HOK
        go_enter Tryz.func246, Tryz.ntmps246
        go_wp2_with (first | (go_at_call 244; refine S.out.mono ?_; rintro e w1 ⟨rfl, rfl⟩))
        refine G.out.mono ?_
        rintro e w1 ⟨rfl, ks⟩
        have KS := Lib.hid ks
        have HB1 := Lib.hid (HB.out.kept ks (fun h => h))
        have HA1 := Lib.hid (HA.out.same ks)
        have d0 := HB1.out.cell 0 rfl
        have d1 := HB1.out.cell 1 rfl
        have e0 := HB1.out.free 0
        have e1 := HB1.out.free 1
        clear ks
        go_wp2_with fail
        go_ret
        rw [HE.out]
        exact ⟨rfl, ⟨a, cap, ⟨HB1.out.set 1 _, HA1.out.kept (((Kept.refl (fun k => k = g) w1).setG 1 _)) (fun x hx => HN.out x hx), hc, hm, HN.out⟩, fun x hx => ⟨x, hx, rfl⟩⟩, (KS.out.mono (fun _ _ h => h.elim)).setG _ _⟩
      · have HE : Hid (rdText xs 0 most = (xs.drop n, 0, u)) := by show _ = _; rw [HD.out]; simp [hu]
        obtain ⟨b, off, _, ha, _⟩ := HA.out.at (i := 0) (by omega)
        subst ha
        clear HD HOK
        rcases Nat.lt_or_ge n cap with hcap | hcap
        · skip
          go_enter Tryz.func246, Tryz.ntmps246
          go_wp2_with (first | (go_at_call 244; refine S.out.mono ?_; rintro e w1 ⟨rfl, rfl⟩))
          refine G.out.mono ?_
          rintro e w1 ⟨rfl, ks⟩
          have KS := Lib.hid ks
          have HB1 := Lib.hid (HB.out.kept ks (fun h => h))
          have HA1 := Lib.hid (HA.out.same ks)
          have d0 := HB1.out.cell 0 rfl
          have d1 := HB1.out.cell 1 rfl
          have e0 := HB1.out.free 0
          have e1 := HB1.out.free 1
          clear ks
          go_wp2_with fail
          go_ret
          rw [HE.out]
          refine ⟨rfl, ⟨some ⟨b, off + n, none⟩, cap - n, ⟨by rw [List.length_drop]; exact HB1.out.set 0 _, (HA1.out.drop n).kept (((Kept.refl (fun k => k = g) w1).setG 0 _)) (fun x hx => by simp at hx; subst hx; exact HN.out ⟨b, off, none⟩ rfl), by rw [List.length_drop]; omega, by omega, fun x hx => by simp at hx; subst hx; exact HN.out ⟨b, off, none⟩ rfl⟩, fun x hx => ⟨_, rfl, by simp at hx; subst hx; rfl⟩⟩, (KS.out.mono (fun _ _ h => h.elim)).setG _ _⟩
        · obtain rfl : n = cap := by omega
          have hlen : xs.length = n := by omega
          have HLn := Lib.hid hlen; clear hlen
          go_enter Tryz.func246, Tryz.ntmps246
          go_wp2_with (first | (go_at_call 244; refine S.out.mono ?_; rintro e w1 ⟨rfl, rfl⟩))
          refine G.out.mono ?_
          rintro e w1 ⟨rfl, ks⟩
          have KS := Lib.hid ks
          have HB1 := Lib.hid (HB.out.kept ks (fun h => h))
          have HA1 := Lib.hid (HA.out.same ks)
          have d0 := HB1.out.cell 0 rfl
          have d1 := HB1.out.cell 1 rfl
          have e0 := HB1.out.free 0
          have e1 := HB1.out.free 1
          clear ks
          go_wp2_with fail
          go_ret
          rw [HE.out]
          have hnil : xs.drop n = [] := List.drop_of_length_le (by rw [HLn.out]; omega)
          refine ⟨rfl, ⟨some ⟨b, off, none⟩, 0, ⟨by rw [List.length_drop, HLn.out, Nat.sub_self]; exact HB1.out.set 0 _, by rw [hnil]; exact .inl rfl, by rw [hnil]; simp, by omega, fun x hx => by simp at hx; subst hx; exact HN.out ⟨b, off, none⟩ rfl⟩, fun x hx => ⟨_, rfl, by simp at hx; subst hx; rfl⟩⟩, (KS.out.mono (fun _ _ h => h.elim)).setG _ _⟩
    · have HE : Hid (rdText xs 0 most = (xs, e2, [])) := by show _ = _; rw [HD.out]; simp [h2]
      have hbe : (((e2 : Nat) : Int) == 0) = false := by simp [h2]
      have hbn : (((e2 : Nat) : Int) != 0) = true := by simp [h2]
      clear HD HOK
      go_enter Tryz.func246, Tryz.ntmps246
      go_wp2_with (first | (go_at_call 244; refine S.out.mono ?_; rintro e w1 ⟨rfl, rfl⟩))
      refine G.out.mono ?_
      rintro e w1 ⟨rfl, ks⟩
      have KS := Lib.hid ks
      have HB1 := Lib.hid (HB.out.kept ks (fun h => h))
      have HA1 := Lib.hid (HA.out.same ks)
      have d0 := HB1.out.cell 0 rfl
      have d1 := HB1.out.cell 1 rfl
      have e0 := HB1.out.free 0
      have e1 := HB1.out.free 1
      clear ks
      go_wp2_with fail
      go_ret
      rw [HE.out]
      exact ⟨rfl, ⟨a, cap, ⟨HB1.out.set 1 _, HA1.out.kept (((Kept.refl (fun k => k = g) w1).setG 1 _)) (fun x hx => HN.out x hx), hc, hm, HN.out⟩, fun x hx => ⟨x, hx, rfl⟩⟩, (KS.out.mono (fun _ _ h => h.elim)).setG _ _⟩
  · have HE : Hid (rdText xs er most = (xs, er, [])) := by show _ = _; simp [rdText, he]
    have hbn : (((er : Nat) : Int) != 0) = true := by simp [he]
    go_enter Tryz.func246, Tryz.ntmps246
    go_wp2_with (first | (go_at_call 244; refine S.out.mono ?_; rintro e w1 ⟨rfl, rfl⟩))
    go_ret
    rw [HE.out]
    exact ⟨rfl, ⟨a, cap, ⟨HB.out, HA.out, hc, hm, HN.out⟩, fun x hx => ⟨x, hx, rfl⟩⟩, Kept.refl _ _⟩

end Go.Proofs.YtnjmdldhgconmaaGreatDoor
