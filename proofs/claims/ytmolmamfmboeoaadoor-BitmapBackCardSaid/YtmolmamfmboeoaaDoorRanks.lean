/- BitmapRanks: the number at a place has as many below it; a number that is in stands at the place of its rank. -/
import Derived.Test.YtmolmamfmboeoaaDoorAwk
import Derived.Lib.QuietBelow
import Derived.IntWalk
import Derived.Test.YtmolmamfmboeoaaDoorFinds
namespace Go.Proofs.YtmolmamfmboeoaaDoor
open Go.RowKit Go.Sort

theorem setN_ok {s : Nat} {ws : List Nat} (hw : Words ws) (hm : mapOK s ws = true) (n : Int) (on : Bool) : mapOK s (setN s ws n on) = true ∧ Words (setN s ws n on) := by
  unfold setN
  split
  · rename_i h
    have hi := inB_index h
    have ok := (mapOK_iff hw).1 hm
    have hw' := putN_words hw n.toNat on
    refine ⟨(mapOK_iff hw').2 ⟨ok.1, by rw [putN_length]; exact ok.2.1, fun j h1 h2 => ?_⟩, hw'⟩
    rw [putN_length] at h2
    rw [putN_bit ws n.toNat on (by omega), if_neg (by omega)]
    exact ok.2.2 j h1 h2
  · exact ⟨hm, hw⟩

/-- What made tells: a map that may be, of the size. -/
def MadeOf (S : Nat) (w : World) (e : Ending) (w' : World) : Prop :=
  ∃ g c ws, e = .returned (.tuple #[mapV S (some ⟨g, 0, none⟩) ((S + 63) / 64) c, .bool true]) ∧ (S + 63) / 64 ≤ c ∧ Words ws ∧ mapOK S ws = true ∧ ws.length = (S + 63) / 64 ∧ NatsAt w' .u64 (some ⟨g, 0, none⟩) ws ∧ Same w w'

theorem mapOK_zero (S : Nat) (h : S ≤ 4096) : mapOK S (List.replicate ((S + 63) / 64) 0) = true := by
  have hw : Words (List.replicate ((S + 63) / 64) 0) := fun x hx => by rw [List.eq_of_mem_replicate hx]; decide
  refine (mapOK_iff hw).2 ⟨h, by simp, fun j _ _ => ?_⟩
  have : (List.replicate ((S + 63) / 64) 0).getD (j / 64) 0 = 0 := by
    rw [List.getD, List.getElem?_replicate]; split <;> rfl
  unfold bitN
  rw [this]
  simp

set_option maxHeartbeats 1000000 in
theorem made_any (S : Nat) (hS : S ≤ 255) (p : Option Addr) (ll cl : Nat) (xs : List Nat) (w : World) (hll : ll = xs.length) (hx : Bytes xs) (hat : NatsAt w .u8 p xs) :
    Calls Tryd.prog 35 #[.int .u8 (S : Nat), .slice p ll cl] w (MadeOf S w) := by
  have NW := Lib.hid fun w' => bm_new_ok S w' (by omega)
  have ST := Lib.hid fun g c ws (n : Int) w' (h1 : Words ws) (h2 : ws.length = (S + 63) / 64) h3 => h2 ▸ bm_set S g 0 c ws n true w' h1 (by omega) h3
  have AT := Lib.hid hat; have HX := Lib.hid hx; have HL := Lib.hid hll
  clear hat hx hll
  go_enter Tryd.func35, Tryd.ntmps35
  go_wp2_with fail
  refine Calls.fr1 ?_; intro W F' K' hz'; have F := Lib.hid F'; have K := Lib.hid K'; have hz := Lib.hid hz'; clear F' K' hz'; obtain ⟨p0, f0, -⟩ := F.out.rules; have z0 := F.out.1.lt
  refine (NW.out _).mono ?_
  rintro e w2 ⟨g, rfl, ho, k⟩
  have X1 := Lib.hid ho.nats
  clear ho
  have K' := Lib.hid (K.out.trans k); have F' := Lib.hid (F.out.same k); clear K F p0 f0 z0 k; have K := K'; have F := F'; clear K' F'; obtain ⟨p0, f0, -⟩ := F.out.rules; have z0 := F.out.1.lt
  go_wp2_with fail
  have hzw := z0
  have KA := (Kept.refl (fun _ => False) w2).alloc (.cells #[.int .i64 (S : Nat), .slice (some ⟨g, 0, none⟩) ((S + 63) / 64) ((S + 63) / 64)] 27)
  go_loopw [8] (fun si wr => ∃ (i : Nat) (ws : List Nat) (g c : Nat), si = .int .i64 (i : Nat) ∧ i ≤ ll ∧ i ≤ 60 ∧ (S + 63) / 64 ≤ c ∧ Hid (Words ws) ∧ Hid (mapOK S ws = true) ∧ Hid (NatsAt wr .u64 (some ⟨g, 0, none⟩) ws) ∧
      Hid (Fr wr [(w2.heap.size, #[.int .i64 (S : Nat), .slice (some ⟨g, 0, none⟩) ((S + 63) / 64) c], 27), (w.heap.size, #[.int .i64 0, .slice none 0 0], 27)]) ∧ Hid (Same w wr)) (fun si _ => 60 - (intOf si).toNat)
  case atStart => exact ⟨0, List.replicate ((S + 63) / 64) 0, g, (S + 63) / 64, rfl, Nat.zero_le _, Nat.zero_le _, Nat.le_refl _, fun x hx => by rw [List.eq_of_mem_replicate hx]; decide, mapOK_zero S (by omega), X1.out.same KA, ⟨Blk.new w2 _ _, F.out.same KA⟩, K.out.alloc _⟩
  case round =>
    clear p0 f0 z0 F K X1 KA
    obtain ⟨i, ws, g, c, rfl, hi, hi6, hc, W1, M1, X1, F, K⟩ := hrel
    obtain ⟨p0, f0, p1, f1, -⟩ := F.out.rules; have z0 := F.out.1.lt; have z1 := F.out.2.1.lt
    by_cases hgo : i < ll ∧ i < 60
    · obtain ⟨g1, g2⟩ := hgo
      have g1' : (i : Int) < (ll : Int) := by omega
      have g2' : (i : Int) < 60 := by omega
      obtain ⟨pb, po, x, rfl, hpb, hxi, hcx⟩ := (AT.out.same K.out).at (i := i) (by rw [← HL.out]; exact g1)
      have hx256 : x < 256 := HX.out x (List.mem_of_getElem? hxi)
      have SET : Hid (∀ w', Same wr w' → Calls Tryd.prog 11 #[mapV S (some ⟨g, 0, none⟩) ((S + 63) / 64) c, .int .i64 (x : Nat), .bool true] w' fun e w'' => ∃ g' c' us, e = .returned (mapV S (some ⟨g', 0, none⟩) ((S + 63) / 64) c') ∧ (S + 63) / 64 ≤ c' ∧ Words us ∧ mapOK S us = true ∧ NatsAt w'' .u64 (some ⟨g', 0, none⟩) us ∧ Same w' w'') := by
        intro w' h
        have hul := ((mapOK_iff W1.out).1 M1.out).2.1
        refine (ST.out g c ws x w' W1.out hul (X1.out.same h)).mono ?_
        rintro e w'' ⟨g', c', rfl, ho, k⟩
        have so := setN_ok W1.out M1.out x true
        have hl := ho.len
        rw [setN_len, hul] at hl
        exact ⟨g', c', _, rfl, hl.2.1, so.2, so.1, ho.nats, k⟩
      clear hxi
      have ex : IntKind.i64.wrap (x : Int) = (x : Int) := IntWalk.i64_in _ (by omega)
      have ex0 : (i : Int).toNat = i := by omega
      have ex1 : (0 : Int) ≤ (i : Int) := by omega
      go_wp2_with fail
      go_region_with (go_at_call 11; (with_reducible refine (SET.out _ ?_).mono ?_); (first | exact Kept.refl _ _ | exact (Kept.refl _ _).drew); rintro e w5 ⟨g', c', us, rfl, hc', hu, hm, hn, k⟩; have U1 := Lib.hid hu; have U2 := Lib.hid hm; have X2 := Lib.hid hn; have K1 := Lib.hid (show Same wr w5 from ⟨k.os, k.tape, k.output, k.size, k.block⟩); clear hu hm hn k; have F5 := Lib.hid (F.out.same K1.out); obtain ⟨r0, s0, r1, s1, -⟩ := F5.out.rules)
      all_goals
        go_wp2_with fail
        go_roundw
        case rel =>
          have KG := ((Kept.refl (fun j => j = w2.heap.size) w5).setG 0 (.int .i64 (S : Nat))).setG 1 (.slice (some ⟨g', 0, none⟩) ((S + 63) / 64) c')
          exact ⟨i + 1, us, g', c', by go_num, by omega, by omega, hc', U1.out, U2.out, X2.out.apart F5.out.1 KG (map_none _ _ (by simp)), ⟨(F5.out.1.set 0 _).set 1 _, F5.out.2.kept KG (by simp; omega)⟩, (K.out.trans K1.out).turn KG (by omega)⟩
        case measure => simp [intOf]; omega
    · have fin : ∀ w', w' = wr → True := fun _ _ => trivial
      clear fin
      by_cases c1 : i < ll
      · have c1' : (i : Int) < (ll : Int) := by omega
        have c2' : ¬ (i : Int) < 60 := by omega
        clear hgo
        go_wp2_with fail
        have KG := (Kept.refl (fun j => j = w.heap.size) wr).setG 0 (.int .i64 (S : Nat)) |>.setG 1 (.slice (some ⟨g, 0, none⟩) ((S + 63) / 64) c)
        have pp := (F.out.2.1.set 0 (.int .i64 (S : Nat))).set 1 (.slice (some ⟨g, 0, none⟩) ((S + 63) / 64) c)
        refine bodyPost_ret (results_two_tmp rfl _ _ _ _ #[.int .i64 (S : Nat), .slice (some ⟨g, 0, none⟩) ((S + 63) / 64) c] _ rfl pp Tryd.underlying27 rfl (by kernel_rfl)) rfl ?_
        exact ⟨g, c, ws, rfl, hc, W1.out, M1.out, ((mapOK_iff W1.out).1 M1.out).2.1, X1.out.apart F.out.2.1 KG (map_none _ _ (by simp)), K.out.turn KG (Nat.le_refl _)⟩
      · have c1' : ¬ (i : Int) < (ll : Int) := by omega
        clear hgo
        go_wp2_with fail
        have KG := (Kept.refl (fun j => j = w.heap.size) wr).setG 0 (.int .i64 (S : Nat)) |>.setG 1 (.slice (some ⟨g, 0, none⟩) ((S + 63) / 64) c)
        have pp := (F.out.2.1.set 0 (.int .i64 (S : Nat))).set 1 (.slice (some ⟨g, 0, none⟩) ((S + 63) / 64) c)
        refine bodyPost_ret (results_two_tmp rfl _ _ _ _ #[.int .i64 (S : Nat), .slice (some ⟨g, 0, none⟩) ((S + 63) / 64) c] _ rfl pp Tryd.underlying27 rfl (by kernel_rfl)) rfl ?_
        exact ⟨g, c, ws, rfl, hc, W1.out, M1.out, ((mapOK_iff W1.out).1 M1.out).2.1, X1.out.apart F.out.2.1 KG (map_none _ _ (by simp)), K.out.turn KG (Nat.le_refl _)⟩

theorem rankN_at {S x : Nat} {ws : List Nat} (hm : mapOK S ws = true) (h : x ≤ S) : rankN S ws x = cnt ws x := by
  simp only [rankN, hm, if_true]
  congr 1
  omega

set_option maxRecDepth 100000 in
set_option maxHeartbeats 1000000 in
theorem ranks_true (S N : Nat) (hS : S ≤ 255) (hN : N ≤ 255) (p : Option Addr) (ll cl : Nat) (xs : List Nat) (w : World) (hll : ll = xs.length) (hx : Bytes xs) (hat : NatsAt w .u8 p xs) (hT : TabOK w) :
    Calls Tryd.prog 7 #[.int .u8 (S : Nat), .slice p ll cl, .int .u8 (N : Nat)] w fun e w' => e = .returned (.bool true) ∧ Same w w' := by
  have ME := Lib.hid (made_any S hS p ll cl xs w hll hx hat)
  have AW := Lib.hid fun w' h => awake_true w' h
  have TT := Lib.hid hT
  clear hat hT hx hll
  go_enter Tryd.func7, Tryd.ntmps7
  go_wp2_with fail
  refine ME.out.mono ?_
  rintro e w2 ⟨g, c, ws, rfl, hc, hw, hm, hl, hn, k⟩
  have X1 := Lib.hid hn
  have K := Lib.hid k
  clear hn k ME
  have RA := Lib.hid fun w' h => bm_rank (S : Nat) (some ⟨g, 0, none⟩) c ws (S : Nat) w' hw (by omega) h
  rw [rankN_at hm (Nat.le_refl S), hl] at RA
  have SE := Lib.hid fun w' h1 h2 => bm_select (S : Nat) (some ⟨g, 0, none⟩) c ws (N : Nat) w' hw (by omega) h1 h2
  have RX := Lib.hid fun (x : Nat) (hx : x ≤ S) w' h => (bm_rank (S : Nat) (some ⟨g, 0, none⟩) c ws (x : Nat) w' hw (by omega) h).mono (R' := fun e w'' => e = .returned (.int .i64 ((cnt ws x : Nat) : Int)) ∧ Same w' w'') fun _ _ h => by rw [rankN_at hm hx] at h; exact h
  have HX := Lib.hid fun (x : Nat) w' h => bm_has (S : Nat) (some ⟨g, 0, none⟩) c ws (x : Nat) w' hw h
  have NX := Lib.hid fun w' h1 h2 => bm_next (S : Nat) (some ⟨g, 0, none⟩) c ws (N : Nat) false w' hw h1 h2
  have SY := Lib.hid fun (y : Nat) (hy : y < 9223372036854775808) w' h1 h2 => bm_select (S : Nat) (some ⟨g, 0, none⟩) c ws (y : Nat) w' hw (by omega) h1 h2
  rw [hl] at SE RX HX NX SY
  have HM := Lib.hid hm; have HW := Lib.hid hw
  have hcS : cnt ws S ≤ S := cnt_le ws S
  clear hm hw hl
  obtain ⟨A, hA⟩ : ∃ A, cnt ws S = A := ⟨_, rfl⟩
  rw [hA] at RA hcS
  have EA := Lib.hid hA
  clear hA
  obtain ⟨L, hL⟩ : ∃ L, (S + 63) / 64 = L := ⟨_, rfl⟩
  simp only [hL] at *
  clear hL
  go_wp2_with fail
  have KA := (Kept.refl (fun _ => False) w2).alloc (.cells #[.int .i64 (S : Nat), .slice (some ⟨g, 0, none⟩) L c] 27)
  have F := Lib.hid (show Fr (w2.alloc (.cells #[.int .i64 (S : Nat), .slice (some ⟨g, 0, none⟩) L c] 27)) [(w2.heap.size, #[.int .i64 (S : Nat), .slice (some ⟨g, 0, none⟩) L c], 27)] from ⟨Blk.new w2 _ _, trivial⟩)
  have X2 := Lib.hid (X1.out.same KA)
  have K2 := Lib.hid (K.out.trans KA)
  clear X1 K KA
  have X1 := X2; have K := K2; clear X2 K2
  generalize w2.alloc (.cells #[.int .i64 (S : Nat), .slice (some ⟨g, 0, none⟩) L c] 27) = w3 at *
  obtain ⟨p0, f0, -⟩ := F.out.rules; have z0 := F.out.1.lt
  refine (RA.out _ X1.out).mono ?_
  rintro e w4 ⟨rfl, k⟩
  have X2 := Lib.hid (X1.out.same k)
  clear X1
  have X1 := X2
  clear X2
  have K' := Lib.hid (K.out.trans k); have F' := Lib.hid (F.out.same k); clear K F p0 f0 z0 k; have K := K'; have F := F'; clear K' F'; obtain ⟨p0, f0, -⟩ := F.out.rules; have z0 := F.out.1.lt
  go_wp2_with fail
  refine (SE.out _ (TT.out.same K.out) X1.out).mono ?_
  rintro e w5 ⟨r, rfl, hr, k⟩
  have X2 := Lib.hid (X1.out.same k)
  clear X1
  have X1 := X2
  clear X2
  have K' := Lib.hid (K.out.trans k); have F' := Lib.hid (F.out.same k); clear K F p0 f0 z0 k; have K := K'; have F := F'; clear K' F'; obtain ⟨p0, f0, -⟩ := F.out.rules; have z0 := F.out.1.lt
  cases r with
  | none =>
    have hle : (A : Int) ≤ (N : Int) := by have := hr HM.out (by omega); rw [Int.toNat_natCast, EA.out] at this; exact this
    have hd : A ≤ N := by omega
    clear hr hle
    go_wp2_with fail
    cases hb : hasB S ws N
    · have HN := HX.out N
      rw [hb] at HN
      have HN := Lib.hid HN
      refine (HN.out _ X1.out).mono ?_
      rintro e w8 ⟨rfl, k⟩
      have X2 := Lib.hid (X1.out.same k)
      clear X1
      have X1 := X2
      clear X2
      have K' := Lib.hid (K.out.trans k); have F' := Lib.hid (F.out.same k); clear K F p0 f0 z0 k; have K := K'; have F := F'; clear K' F'; obtain ⟨p0, f0, -⟩ := F.out.rules; have z0 := F.out.1.lt
      go_wp2_with fail
      refine (NX.out _ (TT.out.same K.out) X1.out).mono ?_
      rintro e w9 ⟨r, rfl, hr, k⟩
      have X2 := Lib.hid (X1.out.same k)
      clear X1
      have X1 := X2
      clear X2
      have K' := Lib.hid (K.out.trans k); have F' := Lib.hid (F.out.same k); clear K F p0 f0 z0 k; have K := K'; have F := F'; clear K' F'; obtain ⟨p0, f0, -⟩ := F.out.rules; have z0 := F.out.1.lt
      by_cases hNS : N < S
      · have : r = some N := next_one hr ⟨HM.out, Int.le_refl _, by omega, by have h := hb; simp [hasB, inB, HM.out, hNS] at h; exact h, fun j h1 h2 => by omega⟩
        subst this
        have hd2 : (N : Int) < (S : Int) := by omega
        clear hr hb
        go_wp2_with fail
        refine (AW.out _ (TT.out.same K.out)).mono ?_
        rintro e w10 ⟨rfl, k⟩
        have X2 := Lib.hid (X1.out.same k)
        clear X1
        have X1 := X2
        clear X2
        have K' := Lib.hid (K.out.trans k); have F' := Lib.hid (F.out.same k); clear K F p0 f0 z0 k; have K := K'; have F := F'; clear K' F'; obtain ⟨p0, f0, -⟩ := F.out.rules; have z0 := F.out.1.lt
        go_wp2_with fail
        go_ret
        exact ⟨rfl, K.out⟩
      · have : r = none := by
          cases r with
          | none => rfl
          | some z => obtain ⟨_, h1, h2, _⟩ := hr; omega
        subst this
        have hd2 : ¬ (N : Int) < (S : Int) := by omega
        clear hr hb
        go_wp2_with fail
        refine (AW.out _ (TT.out.same K.out)).mono ?_
        rintro e w10 ⟨rfl, k⟩
        have X2 := Lib.hid (X1.out.same k)
        clear X1
        have X1 := X2
        clear X2
        have K' := Lib.hid (K.out.trans k); have F' := Lib.hid (F.out.same k); clear K F p0 f0 z0 k; have K := K'; have F := F'; clear K' F'; obtain ⟨p0, f0, -⟩ := F.out.rules; have z0 := F.out.1.lt
        go_wp2_with fail
        go_ret
        exact ⟨rfl, K.out⟩
    · have HN := HX.out N
      rw [hb] at HN
      have HN := Lib.hid HN
      have hNS : N < S ∧ bitN ws N = true := by have h := hb; simp [hasB, inB, HM.out] at h; exact h
      have hcN := cnt_le ws N
      have RN := RX.out N (by omega)
      have SN := SY.out (cnt ws N) (by omega)
      have ES : Hid (∀ r, SelSpec S ws (cnt ws N : Nat) r → r = some N) := fun r hr => sel_one hr ⟨HM.out, by omega, hNS.2, rfl⟩
      have hbN := Lib.hid hNS
      clear hNS hb
      generalize cnt ws N = q at *
      have SN2 : Hid (∀ w', TabOK w' → NatsAt w' .u64 (some ⟨g, 0, none⟩) ws → Calls Tryd.prog 22 #[mapV S (some ⟨g, 0, none⟩) L c, .int .i64 (q : Nat)] w' fun e w'' => e = .returned (.tuple #[.int .i64 (N : Nat), .bool true]) ∧ Same w' w'') := by
        intro w' h1 h2
        refine (SN w' h1 h2).mono ?_
        rintro e w'' ⟨r, rfl, hr, k⟩
        rw [ES.out r hr]
        exact ⟨rfl, k⟩
      have RN := Lib.hid RN
      clear SN ES
      refine (HN.out _ X1.out).mono ?_
      rintro e w8 ⟨rfl, k⟩
      have X2 := Lib.hid (X1.out.same k)
      clear X1
      have X1 := X2
      clear X2
      have K' := Lib.hid (K.out.trans k); have F' := Lib.hid (F.out.same k); clear K F p0 f0 z0 k; have K := K'; have F := F'; clear K' F'; obtain ⟨p0, f0, -⟩ := F.out.rules; have z0 := F.out.1.lt
      go_wp2_with fail
      have G0 := fun d os i => cell_blk (F.out.1.kept (Kept.of_below (below_regrown _ d os)) (fun h => h)) i
      have ex : IntKind.i64.wrap (N : Int) = (N : Int) := IntWalk.i64_in _ (by omega)
      have C1 : ∀ d os, Calls Tryd.prog 24 #[mapV S (some ⟨g, 0, none⟩) L c, .int .i64 (N : Nat)] (grow (redrawn w8 d) os) fun e w'' => e = .returned (.int .i64 ((q : Nat) : Int)) ∧ ∃ p : Regrown, w'' = grow (redrawn w8 p.d) p.os := fun d os => Calls.quiet_same (RN.out _ (X1.out.same (Kept.of_below (below_regrown _ d os))))
      have C2 : ∀ d os, Calls Tryd.prog 22 #[mapV S (some ⟨g, 0, none⟩) L c, .int .i64 (q : Nat)] (grow (redrawn w8 d) os) fun e w'' => e = .returned (.tuple #[.int .i64 (N : Nat), .bool true]) ∧ ∃ p : Regrown, w'' = grow (redrawn w8 p.d) p.os := fun d os => Calls.quiet_same (SN2.out _ (TT.out.same (K.out.trans (Kept.of_below (below_regrown _ d os)))) (X1.out.same (Kept.of_below (below_regrown _ d os))))
      have C1 := Lib.hid C1; have C2 := Lib.hid C2
      clear p0 f0 z0
      refine wp_region_quiet_below (by kernel_rfl) (by kernel_rfl) ?_
      repeat (quiet_step ((first | exact C1.out _ _ | exact C2.out _ _)))
      refine wpQuiet_nil ?_
      intro _ hw'
      obtain ⟨⟨dq, osq⟩, hw''⟩ := hw'
      subst hw''
      have kq := Lib.hid (show Same w8 _ from Kept.of_below (below_regrown w8 dq osq))
      go_wp2_with fail
      have K' := Lib.hid (K.out.trans kq.out)
      clear K
      have K := K'
      clear K'
      refine (AW.out _ (TT.out.same K.out)).mono ?_
      rintro e w10 ⟨rfl, k⟩
      have K' := Lib.hid (K.out.trans k)
      go_wp2_with fail
      go_ret
      exact ⟨rfl, K'.out⟩
  | some x =>
    obtain ⟨_, r1, r2, r3⟩ := hr
    have hxS : x < S := by omega
    have hlt : (N : Int) < (A : Int) := by
      have := cnt_lt hxS r2
      rw [EA.out] at this
      omega
    have hd : N < A := by omega
    have RXx := RX.out x (by omega)
    have ec : (cnt ws x : Int) = (N : Int) := r3
    rw [ec] at RXx
    have RXx := Lib.hid RXx
    have HXx := HX.out x
    rw [show hasB S ws x = true from by simp [hasB, inB, HM.out, hxS, r2]] at HXx
    have HXx := Lib.hid HXx
    clear r1 r2 r3 ec hlt
    go_wp2_with fail
    refine (RXx.out _ X1.out).mono ?_
    rintro e w6 ⟨rfl, k⟩
    have X2 := Lib.hid (X1.out.same k)
    clear X1
    have X1 := X2
    clear X2
    have K' := Lib.hid (K.out.trans k); have F' := Lib.hid (F.out.same k); clear K F p0 f0 z0 k; have K := K'; have F := F'; clear K' F'; obtain ⟨p0, f0, -⟩ := F.out.rules; have z0 := F.out.1.lt
    go_wp2_with fail
    refine (HXx.out _ X1.out).mono ?_
    rintro e w7 ⟨rfl, k⟩
    have X2 := Lib.hid (X1.out.same k)
    clear X1
    have X1 := X2
    clear X2
    have K' := Lib.hid (K.out.trans k); have F' := Lib.hid (F.out.same k); clear K F p0 f0 z0 k; have K := K'; have F := F'; clear K' F'; obtain ⟨p0, f0, -⟩ := F.out.rules; have z0 := F.out.1.lt
    clear RXx HXx hd hxS
    go_wp2_with fail
    cases hb : hasB S ws N
    · have HN := HX.out N
      rw [hb] at HN
      have HN := Lib.hid HN
      refine (HN.out _ X1.out).mono ?_
      rintro e w8 ⟨rfl, k⟩
      have X2 := Lib.hid (X1.out.same k)
      clear X1
      have X1 := X2
      clear X2
      have K' := Lib.hid (K.out.trans k); have F' := Lib.hid (F.out.same k); clear K F p0 f0 z0 k; have K := K'; have F := F'; clear K' F'; obtain ⟨p0, f0, -⟩ := F.out.rules; have z0 := F.out.1.lt
      go_wp2_with fail
      refine (NX.out _ (TT.out.same K.out) X1.out).mono ?_
      rintro e w9 ⟨r, rfl, hr, k⟩
      have X2 := Lib.hid (X1.out.same k)
      clear X1
      have X1 := X2
      clear X2
      have K' := Lib.hid (K.out.trans k); have F' := Lib.hid (F.out.same k); clear K F p0 f0 z0 k; have K := K'; have F := F'; clear K' F'; obtain ⟨p0, f0, -⟩ := F.out.rules; have z0 := F.out.1.lt
      by_cases hNS : N < S
      · have : r = some N := next_one hr ⟨HM.out, Int.le_refl _, by omega, by have h := hb; simp [hasB, inB, HM.out, hNS] at h; exact h, fun j h1 h2 => by omega⟩
        subst this
        have hd2 : (N : Int) < (S : Int) := by omega
        clear hr hb
        go_wp2_with fail
        refine (AW.out _ (TT.out.same K.out)).mono ?_
        rintro e w10 ⟨rfl, k⟩
        have X2 := Lib.hid (X1.out.same k)
        clear X1
        have X1 := X2
        clear X2
        have K' := Lib.hid (K.out.trans k); have F' := Lib.hid (F.out.same k); clear K F p0 f0 z0 k; have K := K'; have F := F'; clear K' F'; obtain ⟨p0, f0, -⟩ := F.out.rules; have z0 := F.out.1.lt
        go_wp2_with fail
        go_ret
        exact ⟨rfl, K.out⟩
      · have : r = none := by
          cases r with
          | none => rfl
          | some z => obtain ⟨_, h1, h2, _⟩ := hr; omega
        subst this
        have hd2 : ¬ (N : Int) < (S : Int) := by omega
        clear hr hb
        go_wp2_with fail
        refine (AW.out _ (TT.out.same K.out)).mono ?_
        rintro e w10 ⟨rfl, k⟩
        have X2 := Lib.hid (X1.out.same k)
        clear X1
        have X1 := X2
        clear X2
        have K' := Lib.hid (K.out.trans k); have F' := Lib.hid (F.out.same k); clear K F p0 f0 z0 k; have K := K'; have F := F'; clear K' F'; obtain ⟨p0, f0, -⟩ := F.out.rules; have z0 := F.out.1.lt
        go_wp2_with fail
        go_ret
        exact ⟨rfl, K.out⟩
    · have HN := HX.out N
      rw [hb] at HN
      have HN := Lib.hid HN
      have hNS : N < S ∧ bitN ws N = true := by have h := hb; simp [hasB, inB, HM.out] at h; exact h
      have hcN := cnt_le ws N
      have RN := RX.out N (by omega)
      have SN := SY.out (cnt ws N) (by omega)
      have ES : Hid (∀ r, SelSpec S ws (cnt ws N : Nat) r → r = some N) := fun r hr => sel_one hr ⟨HM.out, by omega, hNS.2, rfl⟩
      have hbN := Lib.hid hNS
      clear hNS hb
      generalize cnt ws N = q at *
      have SN2 : Hid (∀ w', TabOK w' → NatsAt w' .u64 (some ⟨g, 0, none⟩) ws → Calls Tryd.prog 22 #[mapV S (some ⟨g, 0, none⟩) L c, .int .i64 (q : Nat)] w' fun e w'' => e = .returned (.tuple #[.int .i64 (N : Nat), .bool true]) ∧ Same w' w'') := by
        intro w' h1 h2
        refine (SN w' h1 h2).mono ?_
        rintro e w'' ⟨r, rfl, hr, k⟩
        rw [ES.out r hr]
        exact ⟨rfl, k⟩
      have RN := Lib.hid RN
      clear SN ES
      refine (HN.out _ X1.out).mono ?_
      rintro e w8 ⟨rfl, k⟩
      have X2 := Lib.hid (X1.out.same k)
      clear X1
      have X1 := X2
      clear X2
      have K' := Lib.hid (K.out.trans k); have F' := Lib.hid (F.out.same k); clear K F p0 f0 z0 k; have K := K'; have F := F'; clear K' F'; obtain ⟨p0, f0, -⟩ := F.out.rules; have z0 := F.out.1.lt
      go_wp2_with fail
      have G0 := fun d os i => cell_blk (F.out.1.kept (Kept.of_below (below_regrown _ d os)) (fun h => h)) i
      have ex : IntKind.i64.wrap (N : Int) = (N : Int) := IntWalk.i64_in _ (by omega)
      have C1 : ∀ d os, Calls Tryd.prog 24 #[mapV S (some ⟨g, 0, none⟩) L c, .int .i64 (N : Nat)] (grow (redrawn w8 d) os) fun e w'' => e = .returned (.int .i64 ((q : Nat) : Int)) ∧ ∃ p : Regrown, w'' = grow (redrawn w8 p.d) p.os := fun d os => Calls.quiet_same (RN.out _ (X1.out.same (Kept.of_below (below_regrown _ d os))))
      have C2 : ∀ d os, Calls Tryd.prog 22 #[mapV S (some ⟨g, 0, none⟩) L c, .int .i64 (q : Nat)] (grow (redrawn w8 d) os) fun e w'' => e = .returned (.tuple #[.int .i64 (N : Nat), .bool true]) ∧ ∃ p : Regrown, w'' = grow (redrawn w8 p.d) p.os := fun d os => Calls.quiet_same (SN2.out _ (TT.out.same (K.out.trans (Kept.of_below (below_regrown _ d os)))) (X1.out.same (Kept.of_below (below_regrown _ d os))))
      have C1 := Lib.hid C1; have C2 := Lib.hid C2
      clear p0 f0 z0
      refine wp_region_quiet_below (by kernel_rfl) (by kernel_rfl) ?_
      repeat (quiet_step ((first | exact C1.out _ _ | exact C2.out _ _)))
      refine wpQuiet_nil ?_
      intro _ hw'
      obtain ⟨⟨dq, osq⟩, hw''⟩ := hw'
      subst hw''
      have kq := Lib.hid (show Same w8 _ from Kept.of_below (below_regrown w8 dq osq))
      go_wp2_with fail
      have K' := Lib.hid (K.out.trans kq.out)
      clear K
      have K := K'
      clear K'
      refine (AW.out _ (TT.out.same K.out)).mono ?_
      rintro e w10 ⟨rfl, k⟩
      have K' := Lib.hid (K.out.trans k)
      go_wp2_with fail
      go_ret
      exact ⟨rfl, K'.out⟩

end Go.Proofs.YtmolmamfmboeoaaDoor
