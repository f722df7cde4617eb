/- BitmapPuts: the bytes of any map, and the map of any bytes, are as the document says. -/
import Derived.Test.YtmolmamfmboeoaaDoorAwk
import Derived.Test.YtmolmamfmboeoaaDoorBmR12
import Derived.Test.YtmolmamfmboeoaaDoorBmR2
namespace Go.Proofs.YtmolmamfmboeoaaDoor
open Go.RowKit

def gotS : Option (Nat × List Nat) → Int
  | some (s, _) => s
  | none => 0
def gotW : Option (Nat × List Nat) → List Nat
  | some (_, ws) => ws
  | none => []
def gotE : Option (Nat × List Nat) → Int
  | some _ => 0
  | none => 4
theorem got_form {b : List Nat} {w : World} {e : Ending} {w' : World} (h : GotMap b w e w') :
    ∃ r v c, GetSpec b r ∧ e = .returned (.tuple #[mapV (gotS r) v (gotW r).length c, .int .i64 (gotE r)]) ∧ NatsAt w' .u64 v (gotW r) ∧ Same w w' := by
  obtain ⟨r, hr, k, hm⟩ := h
  cases r with
  | none => exact ⟨none, none, 0, hr, hm, .inl rfl, k⟩
  | some x =>
    obtain ⟨s, ws⟩ := x
    obtain ⟨v, c, he, hat, _⟩ := hm
    exact ⟨some (s, ws), v, c, hr, he, hat, k⟩
theorem gotW_len {b : List Nat} {r : Option (Nat × List Nat)} (h : GetSpec b r) : (gotW r).length < 9223372036854775808 := by
  cases r with
  | none => simp [gotW]
  | some x =>
    have h1 := mapOK_pos h.1
    have h2 := mapOK_len h.1
    have : (gotW (some x)).length = x.2.length := rfl
    rw [this]
    omega

set_option maxRecDepth 100000 in
set_option maxHeartbeats 1000000 in
theorem puts_true (s : Int) (a : Option Addr) (cap : Nat) (ws : List Nat) (p : Option Addr) (lb cb : Nat) (b : List Nat) (w : World) (hw : Words ws) (hat : NatsAt w .u64 a ws)
    (hlb : lb = b.length) (hb : Bytes b) (hcb : lb ≤ cb) (hcm : cb ≤ 9223372036854775807) (hbt : NatsAt w .u8 p b) (hnil : p = none → b = []) (hT : TabOK w) :
    Calls Tryd.prog 6 #[mapV s a ws.length cap, .slice p lb cb] w fun e w' => e = .returned (.bool true) ∧ Same w w' := by
  have LI := Lib.hid fun w' => rb_light s a ws.length cap w'
  have AW := Lib.hid fun w' h => awake_true w' h
  have P1 := Lib.hid fun w' h1 h2 => bm_put s a cap ws w' hw h1 h2
  have P2 := Lib.hid fun w' h => rb_put s a cap ws w' hw h
  have G1 := Lib.hid fun (h : b.length ≤ 100000) w' h1 h2 => bm_get p lb cb b w' hlb hb h h1 hnil h2
  have G2 := Lib.hid fun w' h => rb_get p lb cb b w' hlb hb hcb hcm h
  have AT := Lib.hid hat; have TT := Lib.hid hT; have BT := Lib.hid hbt
  have HLB := Lib.hid hlb
  clear hat hT hbt hw hnil hb hlb
  obtain ⟨bs, hbs⟩ : ∃ bs, (if mapOK s ws then putMap s.toNat ws else []) = bs := ⟨_, rfl⟩
  obtain ⟨er, her⟩ : ∃ er : Int, (if mapOK s ws then 0 else 4) = er := ⟨_, rfl⟩
  have hbb : Bytes bs := by
    rw [← hbs]
    split
    · exact putMap_bytes _ _
    · intro x hx; simp at hx
  have HBB := Lib.hid hbb
  rw [hbs, her] at P1 P2
  clear hbs her hbb
  generalize ws.length = l at *
  by_cases h8 : l ≤ 8 ∧ lb ≤ 300
  · obtain ⟨h8, h3⟩ := h8
    rw [decide_eq_true h8] at LI
    have G1 := Lib.hid (G1.out (by have := HLB.out; omega))
    clear h8
    go_enter Tryd.func6, Tryd.ntmps6
    go_wp2_with fail
    refine Calls.fr1 ?_; intro W F' K' hz'; have F := Lib.hid F'; have K := Lib.hid K'; have hz := Lib.hid hz'; clear F' K' hz'; obtain ⟨p0, f0, -⟩ := F.out.rules; have z0 := F.out.1.lt
    refine (LI.out _).mono ?_
    rintro e w2 ⟨rfl, k⟩
    have K' := Lib.hid (K.out.trans k); have F' := Lib.hid (F.out.same k); clear K F p0 f0 z0 k; have K := K'; have F := F'; clear K' F'; obtain ⟨p0, f0, -⟩ := F.out.rules; have z0 := F.out.1.lt
    go_wp2_with fail
    refine (P1.out _ (TT.out.same K.out) (AT.out.same K.out)).mono ?_
    rintro e w3 ⟨v1, rfl, ho, k⟩
    obtain ⟨V1, l1, C1, rfl, L1, -, X1, -⟩ := ho.rd
    clear ho
    have K' := Lib.hid (K.out.trans k); have F' := Lib.hid (F.out.same k); clear K F p0 f0 z0 k; have K := K'; have F := F'; clear K' F'; obtain ⟨p0, f0, -⟩ := F.out.rules; have z0 := F.out.1.lt
    go_wp2_with fail
    refine (P2.out _ (AT.out.same K.out)).mono ?_
    rintro e w4 ⟨v2, rfl, ho, k⟩
    obtain ⟨V2, l2, C2, rfl, L2, -, X2, -⟩ := ho.rd
    clear ho
    have X1' := Lib.hid (X1.out.same k); clear X1; have X1 := X1'; clear X1'
    have K' := Lib.hid (K.out.trans k); have F' := Lib.hid (F.out.same k); clear K F p0 f0 z0 k; have K := K'; have F := F'; clear K' F'; obtain ⟨p0, f0, -⟩ := F.out.rules; have z0 := F.out.1.lt
    go_wp2_with fail
    refine (G1.out _ (BT.out.same K.out) (TT.out.same K.out)).mono ?_
    intro e w5 hg
    obtain ⟨r, v3, c3, hr, rfl, hv3, k⟩ := got_form hg
    have X3 := Lib.hid hv3
    clear hg hv3
    have X1' := Lib.hid (X1.out.same k); clear X1; have X1 := X1'; clear X1'
    have X2' := Lib.hid (X2.out.same k); clear X2; have X2 := X2'; clear X2'
    have K' := Lib.hid (K.out.trans k); have F' := Lib.hid (F.out.same k); clear K F p0 f0 z0 k; have K := K'; have F := F'; clear K' F'; obtain ⟨p0, f0, -⟩ := F.out.rules; have z0 := F.out.1.lt
    have HR := Lib.hid hr
    clear hr
    obtain ⟨l3, hl3⟩ : ∃ l3, (gotW r).length = l3 := ⟨_, rfl⟩
    rw [hl3]
    have L3 := Lib.hid hl3
    clear hl3
    go_wp2_with fail
    have F' := Lib.hid (show Fr (w5.alloc (.cells #[.int .i64 (gotS r), .slice v3 l3 c3] 27)) ((w5.heap.size, #[.int .i64 (gotS r), .slice v3 l3 c3], 27) :: [(w.heap.size, #[.int .i64 s, .slice a l cap], 24)]) from ⟨Blk.new w5 _ _, F.out.same ((Kept.refl _ w5).alloc _)⟩)
    have K' := Lib.hid (K.out.alloc (.cells #[.int .i64 (gotS r), .slice v3 l3 c3] 27))
    have KN := (Kept.refl (fun _ => False) w5).alloc (.cells #[.int .i64 (gotS r), .slice v3 l3 c3] 27)
    (try (have X1' := Lib.hid (X1.out.same KN); clear X1; have X1 := X1'; clear X1'))
    (try (have X2' := Lib.hid (X2.out.same KN); clear X2; have X2 := X2'; clear X2'))
    (try (have X3' := Lib.hid (X3.out.same KN); clear X3; have X3 := X3'; clear X3'))
    (try (have X4' := Lib.hid (X4.out.same KN); clear X4; have X4 := X4'; clear X4'))
    clear F K KN; have F := F'; have K := K'; clear F' K'
    generalize w5.alloc (.cells #[.int .i64 (gotS r), .slice v3 l3 c3] 27) = w6 at *
    clear p0 f0 z0
    obtain ⟨p0, f0, p1, f1, -⟩ := F.out.rules; have z0 := F.out.1.lt; have z1 := F.out.2.1.lt
    refine (G2.out _ (BT.out.same K.out)).mono ?_
    intro e w7 hg
    obtain ⟨r', v4, c4, hr', rfl, hv4, k⟩ := got_form hg
    obtain rfl := get_one HR.out hr'
    have X4 := Lib.hid hv4
    clear hg hv4 hr'
    rw [L3.out]
    have X1' := Lib.hid (X1.out.same k); clear X1; have X1 := X1'; clear X1'
    have X2' := Lib.hid (X2.out.same k); clear X2; have X2 := X2'; clear X2'
    have X3' := Lib.hid (X3.out.same k); clear X3; have X3 := X3'; clear X3'
    have K' := Lib.hid (K.out.trans k); have F' := Lib.hid (F.out.same k); clear K F p0 f0 z0 p1 f1 z1 k; have K := K'; have F := F'; clear K' F'; obtain ⟨p0, f0, p1, f1, -⟩ := F.out.rules; have z0 := F.out.1.lt; have z1 := F.out.2.1.lt
    go_wp2_with fail
    clear p0 f0 z0 p1 f1 z1
    have F' := Lib.hid (show Fr (w7.alloc (.cells #[.int .i64 (gotS r), .slice v4 l3 c4] 24)) ((w7.heap.size, #[.int .i64 (gotS r), .slice v4 l3 c4], 24) :: [(w5.heap.size, #[.int .i64 (gotS r), .slice v3 l3 c3], 27), (w.heap.size, #[.int .i64 s, .slice a l cap], 24)]) from ⟨Blk.new w7 _ _, F.out.same ((Kept.refl _ w7).alloc _)⟩)
    have K' := Lib.hid (K.out.alloc (.cells #[.int .i64 (gotS r), .slice v4 l3 c4] 24))
    have KN := (Kept.refl (fun _ => False) w7).alloc (.cells #[.int .i64 (gotS r), .slice v4 l3 c4] 24)
    (try (have X1' := Lib.hid (X1.out.same KN); clear X1; have X1 := X1'; clear X1'))
    (try (have X2' := Lib.hid (X2.out.same KN); clear X2; have X2 := X2'; clear X2'))
    (try (have X3' := Lib.hid (X3.out.same KN); clear X3; have X3 := X3'; clear X3'))
    (try (have X4' := Lib.hid (X4.out.same KN); clear X4; have X4 := X4'; clear X4'))
    clear F K KN; have F := F'; have K := K'; clear F' K'
    generalize w7.alloc (.cells #[.int .i64 (gotS r), .slice v4 l3 c4] 24) = w8 at *
    obtain ⟨p0, f0, p1, f1, p2, f2, -⟩ := F.out.rules; have z0 := F.out.1.lt; have z1 := F.out.2.1.lt; have z2 := F.out.2.2.1.lt
    have hc1 := conv_str V1 l1 C1 bs w8 L1.out X1.out
    have hc2 := conv_str V2 l2 C2 bs w8 L2.out X2.out
    have SM := rb_same (gotS r) (gotS r) v3 v4 c3 c4 (gotW r) (gotW r) w8 (gotW_len HR.out) X3.out X4.out
    rw [L3.out, show sameB (gotS r) (gotS r) (gotW r) (gotW r) = true from by simp [sameB]] at SM
    have SM := Lib.hid SM
    go_wp2_with fail
    refine SM.out.mono ?_
    rintro e w9 ⟨rfl, k⟩
    have K' := Lib.hid (K.out.trans k); have F' := Lib.hid (F.out.same k); clear K F p0 f0 z0 p1 f1 z1 p2 f2 z2 k; have K := K'; have F := F'; clear K' F'; obtain ⟨p0, f0, p1, f1, p2, f2, -⟩ := F.out.rules; have z0 := F.out.1.lt; have z1 := F.out.2.1.lt; have z2 := F.out.2.2.1.lt
    go_wp2_with fail
    refine (AW.out _ (TT.out.same K.out)).mono ?_
    rintro e w10 ⟨rfl, k⟩
    have K' := Lib.hid (K.out.trans k); have F' := Lib.hid (F.out.same k); clear K F p0 f0 z0 p1 f1 z1 p2 f2 z2 k; have K := K'; have F := F'; clear K' F'; obtain ⟨p0, f0, p1, f1, p2, f2, -⟩ := F.out.rules; have z0 := F.out.1.lt; have z1 := F.out.2.1.lt; have z2 := F.out.2.2.1.lt
    go_wp2_with fail
    go_ret
    exact ⟨rfl, K.out⟩
  · by_cases h9 : l ≤ 8
    · have h10 : (300 : Int) < (lb : Int) := by omega
      rw [decide_eq_true h9] at LI
      clear h8 h9
      go_enter Tryd.func6, Tryd.ntmps6
      go_wp2_with fail
      refine Calls.fr1 ?_; intro W F' K' hz'; have F := Lib.hid F'; have K := Lib.hid K'; have hz := Lib.hid hz'; clear F' K' hz'; obtain ⟨p0, f0, -⟩ := F.out.rules; have z0 := F.out.1.lt
      refine (LI.out _).mono ?_
      rintro e w2 ⟨rfl, k⟩
      have K' := Lib.hid (K.out.trans k); have F' := Lib.hid (F.out.same k); clear K F p0 f0 z0 k; have K := K'; have F := F'; clear K' F'; obtain ⟨p0, f0, -⟩ := F.out.rules; have z0 := F.out.1.lt
      go_wp2_with fail
      refine (AW.out _ (TT.out.same K.out)).mono ?_
      rintro e w3 ⟨rfl, k⟩
      have K' := Lib.hid (K.out.trans k); have F' := Lib.hid (F.out.same k); clear K F p0 f0 z0 k; have K := K'; have F := F'; clear K' F'; obtain ⟨p0, f0, -⟩ := F.out.rules; have z0 := F.out.1.lt
      go_wp2_with fail
      go_ret
      exact ⟨rfl, K.out⟩
    · rw [decide_eq_false h9] at LI
      clear h8 h9
      go_enter Tryd.func6, Tryd.ntmps6
      go_wp2_with fail
      refine Calls.fr1 ?_; intro W F' K' hz'; have F := Lib.hid F'; have K := Lib.hid K'; have hz := Lib.hid hz'; clear F' K' hz'; obtain ⟨p0, f0, -⟩ := F.out.rules; have z0 := F.out.1.lt
      refine (LI.out _).mono ?_
      rintro e w2 ⟨rfl, k⟩
      have K' := Lib.hid (K.out.trans k); have F' := Lib.hid (F.out.same k); clear K F p0 f0 z0 k; have K := K'; have F := F'; clear K' F'; obtain ⟨p0, f0, -⟩ := F.out.rules; have z0 := F.out.1.lt
      go_wp2_with fail
      refine (AW.out _ (TT.out.same K.out)).mono ?_
      rintro e w3 ⟨rfl, k⟩
      have K' := Lib.hid (K.out.trans k); have F' := Lib.hid (F.out.same k); clear K F p0 f0 z0 k; have K := K'; have F := F'; clear K' F'; obtain ⟨p0, f0, -⟩ := F.out.rules; have z0 := F.out.1.lt
      go_wp2_with fail
      go_ret
      exact ⟨rfl, K.out⟩

end Go.Proofs.YtmolmamfmboeoaaDoor
