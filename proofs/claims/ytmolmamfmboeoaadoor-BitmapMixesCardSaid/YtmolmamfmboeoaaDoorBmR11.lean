/- Walks over the document's maps: mixed. -/
import Derived.Test.YtmolmamfmboeoaaDoorBmR10
import Derived.Test.YtmolmamfmboeoaaDoorBmR7
import Derived.Test.YtmolmamfmboeoaaDoorMix
import Derived.Test.YtmolmamfmboeoaaDoorAuto
import Derived.Lib.MinMax
namespace Go.Proofs.YtmolmamfmboeoaaDoor
open Go.RowKit

set_option maxHeartbeats 400000 in
theorem rb_mixed_bad (all : Bool) (s t : Int) (a b : Option Addr) (ca cb : Nat) (xs ys : List Nat) (w : World) (hx64 : Words xs) (hy64 : Words ys) (h : mapOK s xs = false ∨ mapOK t ys = false) (hx : NatsAt w .u64 a xs) (hy : NatsAt w .u64 b ys) :
    Calls Tryd.prog 45 #[mapV s a xs.length ca, mapV t b ys.length cb, .bool all] w fun e w' => e = .returned (mapV 0 none 0 0) ∧ Same w w' := by
  have HX := Lib.hid hx; have HY := Lib.hid hy
  cases hmx : mapOK s xs
  · have CA := Lib.hid fun w' h => rb_check4 s a ca xs w' hx64 hmx h
    clear hx hy hmx h hx64 hy64
    generalize xs.length = l1 at *
    generalize ys.length = l2 at *
    go_enter Tryd.func45, Tryd.ntmps45
    go_wp2_with fail
    refine Calls.fr3 ?_; intro W F' K' hz'; have F := Lib.hid F'; have K := Lib.hid K'; have hz := Lib.hid hz'; clear F' K' hz'; obtain ⟨p0, f0, p1, f1, p2, f2, -⟩ := F.out.rules; have z0 := F.out.1.lt; have z1 := F.out.2.1.lt; have z2 := F.out.2.2.1.lt
    refine (CA.out _ (HX.out.same K.out)).mono ?_
    rintro e w2 ⟨rfl, k⟩
    have K' := Lib.hid (K.out.trans k); have F' := Lib.hid (F.out.same k); clear K F p0 f0 z0 p1 f1 z1 p2 f2 z2 k; have K := K'; have F := F'; clear K' F'; obtain ⟨p0, f0, p1, f1, p2, f2, -⟩ := F.out.rules; have z0 := F.out.1.lt; have z1 := F.out.2.1.lt; have z2 := F.out.2.2.1.lt
    go_wp2_with fail
    have p := (F.out.2.2.1.set 0 (.int .i64 0)).set 1 (.slice none 0 0)
    refine bodyPost_ret (v := mapV 0 none 0 0) (results_two rfl _ _ _ _ #[.int .i64 0, .slice none 0 0] _ rfl p Tryd.underlying24 rfl (by kernel_rfl)) rfl ⟨rfl, ?_⟩
    have k := K.out
    (repeat (first | exact Kept.refl _ _ | with_reducible assumption | with_reducible refine Kept.alloc ?_ _ | with_reducible refine Kept.drew ?_ | with_reducible refine Kept.drewN ?_ _ | refine Kept.setNew ?_ (by dsimp only; omega) _ | refine Kept.trans ?_ (by with_reducible assumption)))
  · have hmy : mapOK t ys = false := by rcases h with h | h; rw [hmx] at h; cases h; exact h
    have CA := Lib.hid fun w' h => rb_check0 s a ca xs w' hx64 hmx h
    have CB := Lib.hid fun w' h => rb_check4 t b cb ys w' hy64 hmy h
    clear hx hy hmx hmy h hx64 hy64
    generalize xs.length = l1 at *
    generalize ys.length = l2 at *
    go_enter Tryd.func45, Tryd.ntmps45
    go_wp2_with fail
    refine Calls.fr3 ?_; intro W F' K' hz'; have F := Lib.hid F'; have K := Lib.hid K'; have hz := Lib.hid hz'; clear F' K' hz'; obtain ⟨p0, f0, p1, f1, p2, f2, -⟩ := F.out.rules; have z0 := F.out.1.lt; have z1 := F.out.2.1.lt; have z2 := F.out.2.2.1.lt
    refine (CA.out _ (HX.out.same K.out)).mono ?_
    rintro e w2 ⟨rfl, k⟩
    have K' := Lib.hid (K.out.trans k); have F' := Lib.hid (F.out.same k); clear K F p0 f0 z0 p1 f1 z1 p2 f2 z2 k; have K := K'; have F := F'; clear K' F'; obtain ⟨p0, f0, p1, f1, p2, f2, -⟩ := F.out.rules; have z0 := F.out.1.lt; have z1 := F.out.2.1.lt; have z2 := F.out.2.2.1.lt
    go_wp2_with fail
    refine (CB.out _ (HY.out.same K.out)).mono ?_
    rintro e w3 ⟨rfl, k⟩
    have K' := Lib.hid (K.out.trans k); have F' := Lib.hid (F.out.same k); clear K F p0 f0 z0 p1 f1 z1 p2 f2 z2 k; have K := K'; have F := F'; clear K' F'; obtain ⟨p0, f0, p1, f1, p2, f2, -⟩ := F.out.rules; have z0 := F.out.1.lt; have z1 := F.out.2.1.lt; have z2 := F.out.2.2.1.lt
    go_wp2_with fail
    have p := (F.out.2.2.1.set 0 (.int .i64 0)).set 1 (.slice none 0 0)
    refine bodyPost_ret (v := mapV 0 none 0 0) (results_two rfl _ _ _ _ #[.int .i64 0, .slice none 0 0] _ rfl p Tryd.underlying24 rfl (by kernel_rfl)) rfl ⟨rfl, ?_⟩
    have k := K.out
    (repeat (first | exact Kept.refl _ _ | with_reducible assumption | with_reducible refine Kept.alloc ?_ _ | with_reducible refine Kept.drew ?_ | with_reducible refine Kept.drewN ?_ _ | refine Kept.setNew ?_ (by dsimp only; omega) _ | refine Kept.trans ?_ (by with_reducible assumption)))

set_option maxHeartbeats 800000 in
theorem rb_mixed_ok (all : Bool) (s t m : Nat) (a b : Option Addr) (ca cb : Nat) (xs ys : List Nat) (w : World) (hx64 : Words xs) (hy64 : Words ys) (hmx : mapOK s xs = true) (hmy : mapOK t ys = true) (hm : max (s : Int) t = m) (hm4 : m ≤ 4096) (hx : NatsAt w .u64 a xs) (hy : NatsAt w .u64 b ys) :
    Calls Tryd.prog 45 #[mapV s a xs.length ca, mapV t b ys.length cb, .bool all] w (MapAt w m (mixK (combN all) xs ys ((m + 63) / 64) ((m + 63) / 64))) := by
  have HX := Lib.hid hx; have HY := Lib.hid hy
  have CA := Lib.hid fun w' h => rb_check0 s a ca xs w' hx64 hmx h
  have CB := Lib.hid fun w' h => rb_check0 t b cb ys w' hy64 hmy h
  have NW := Lib.hid fun w' => rb_new_ok m w' hm4
  have PA := Lib.hid fun (k : Nat) w' h => rb_has s a ca xs k w' hx64 h
  have PB := Lib.hid fun (k : Nat) w' h => rb_has t b cb ys k w' hy64 h
  have ST := Lib.hid fun v c zs (k : Nat) on w' (h1 : Words zs) (h2 : zs.length = (m + 63) / 64) h3 h4 => h2 ▸ rb_set m v c zs k on w' h1 h3 h4
  have DONE := Lib.hid fun zs (h : MixTo s t xs ys all ((m + 63) / 64) m zs) => mixTo_done hx64 hy64 hmx hmy (by omega) h
  have Z0 := Lib.hid (mixTo_zero s t xs ys all ((m + 63) / 64))
  have STEP := Lib.hid fun k zs (h : MixTo s t xs ys all ((m + 63) / 64) k zs) hk => mixTo_step h hk hm4
  have HM := Lib.hid hm
  clear hx hy hmx hmy hx64 hy64 hm
  obtain ⟨L, hL⟩ : ∃ L, (m + 63) / 64 = L := ⟨_, rfl⟩
  simp only [hL] at *
  clear hL
  generalize xs.length = l1 at *
  generalize ys.length = l2 at *
  go_enter Tryd.func45, Tryd.ntmps45
  go_wp2_with fail
  refine Calls.fr3 ?_; intro W F' K' hz'; have F := Lib.hid F'; have K := Lib.hid K'; have hz := Lib.hid hz'; clear F' K' hz'; obtain ⟨p0, f0, p1, f1, p2, f2, -⟩ := F.out.rules; have z0 := F.out.1.lt; have z1 := F.out.2.1.lt; have z2 := F.out.2.2.1.lt
  refine (CA.out _ (HX.out.same K.out)).mono ?_
  rintro e w2 ⟨rfl, k⟩
  have K' := Lib.hid (K.out.trans k); have F' := Lib.hid (F.out.same k); clear K F p0 f0 z0 p1 f1 z1 p2 f2 z2 k; have K := K'; have F := F'; clear K' F'; obtain ⟨p0, f0, p1, f1, p2, f2, -⟩ := F.out.rules; have z0 := F.out.1.lt; have z1 := F.out.2.1.lt; have z2 := F.out.2.2.1.lt
  go_wp2_with fail
  refine (CB.out _ (HY.out.same K.out)).mono ?_
  rintro e w3 ⟨rfl, k⟩
  have K' := Lib.hid (K.out.trans k); have F' := Lib.hid (F.out.same k); clear K F p0 f0 z0 p1 f1 z1 p2 f2 z2 k; have K := K'; have F := F'; clear K' F'; obtain ⟨p0, f0, p1, f1, p2, f2, -⟩ := F.out.rules; have z0 := F.out.1.lt; have z1 := F.out.2.1.lt; have z2 := F.out.2.2.1.lt
  go_wp2_with fail
  rw [HM.out]
  refine (NW.out _).mono ?_
  rintro e w4 ⟨g, rfl, ho, k⟩
  have O := Lib.hid ho.nats
  clear ho
  have K' := Lib.hid (K.out.trans k); have F' := Lib.hid (F.out.same k); clear K F p0 f0 z0 p1 f1 z1 p2 f2 z2 k; have K := K'; have F := F'; clear K' F'; obtain ⟨p0, f0, p1, f1, p2, f2, -⟩ := F.out.rules; have z0 := F.out.1.lt; have z1 := F.out.2.1.lt; have z2 := F.out.2.2.1.lt
  clear NW CA CB HM
  have z4 := F.out.2.2.1.lt
  go_wp2_with fail
  go_loopw [9, 10] (fun n u wr => ∃ (k : Nat) (zs : List Nat) (v : Option Addr) (c : Nat) (u' : Value), k ≤ m ∧ n = .int .i64 (k : Nat) ∧ u = u' ∧
      Hid (Fr wr [(w4.heap.size, #[.int .i64 (m : Nat), .slice v L c], 24), (w.heap.size, #[.int .i64 (s : Nat), .slice a l1 ca], 24), (w.heap.size + 1, #[.int .i64 (t : Nat), .slice b l2 cb], 24), (w.heap.size + 1 + 1, #[.int .i64 0, .slice none 0 0], 24)]) ∧
      Hid (NatsAt wr .u64 v zs) ∧ Hid (v = none → c = 0) ∧ Hid (MixTo s t xs ys all L k zs) ∧ Hid (Same w wr)) (fun n _ _ => m - (intOf n).toNat)
  case atStart => exact ⟨0, _, some ⟨g, 0, none⟩, L, _, Nat.zero_le _, rfl, rfl, ⟨Blk.new w4 _ _, F.out.same ((Kept.refl _ w4).alloc _)⟩, O.out.same ((Kept.refl _ w4).alloc _), (fun h => by cases h), Z0.out, K.out.alloc _⟩
  case round =>
    obtain ⟨k, zs, v, c, u', hk, rfl, rfl, F, A, N, M, K⟩ := hrel
    clear p0 f0 p1 f1 p2 f2 z0 z1 z2
    obtain ⟨p0, f0, p1, f1, p2, f2, p3, f3, -⟩ := F.out.rules; have z0 := F.out.1.lt; have z1 := F.out.2.1.lt; have z2 := F.out.2.2.1.lt; have z3 := F.out.2.2.2.1.lt
    by_cases hlt : k < m
    · have hlt' : (k : Int) < (m : Int) := by omega
      have PAk := Lib.hid fun w' (h : Same w w') => PA.out k w' (HX.out.same h)
      have PBk := Lib.hid fun w' (h : Same w w') => PB.out k w' (HY.out.same h)
      have SM := Lib.hid (STEP.out k zs M.out hlt)
      have W1 := Lib.hid M.out.2.1
      have W2 := Lib.hid M.out.1
      have KK := Lib.hid (Kept.refl (fun _ => False) wr)
      obtain ⟨p, hp⟩ : ∃ p, hasB s xs k = p := ⟨_, rfl⟩
      obtain ⟨q, hq⟩ : ∃ q, hasB t ys k = q := ⟨_, rfl⟩
      rw [hp] at PAk SM; rw [hq] at PBk SM
      have STk : Hid (∀ w', Same wr w' → Calls Tryd.prog 13 #[mapV m v L c, .int .i64 (k : Nat), .bool (comb all p q)] w' fun e w'' => ∃ v' c' zs', e = .returned (mapV m v' L c') ∧ NatsAt w'' .u64 v' zs' ∧ (v' = none → c' = 0) ∧ MixTo s t xs ys all L (k + 1) zs' ∧ Same w' w'') := by
        intro w' h
        refine (ST.out v c zs k (comb all p q) w' W1.out W2.out N.out (A.out.same h)).mono ?_
        rintro e w'' ⟨v', c', rfl, h1, h2, h3⟩
        exact ⟨v', c', _, by rw [SM.out.1], h1, h2, SM.out, h3⟩
      clear hp hq M PA PB STEP ST DONE Z0 O W1 W2
      cases all <;> cases p <;> cases q
      all_goals
        simp only [comb, Bool.and_true, Bool.and_false, Bool.or_true, Bool.or_false, if_true, Bool.false_eq_true, if_false] at STk
        go_wp2_with (first
          | ((with_reducible refine (PAk.out _ K.out).mono ?_); rintro e w5 ⟨rfl, kk⟩; have KK' := Lib.hid (KK.out.trans kk); clear KK; have KK := KK'; clear KK'; have K' := Lib.hid (K.out.trans kk); have F' := Lib.hid (F.out.same kk); clear K F p0 f0 z0 p1 f1 z1 p2 f2 z2 p3 f3 z3 kk; have K := K'; have F := F'; clear K' F'; obtain ⟨p0, f0, p1, f1, p2, f2, p3, f3, -⟩ := F.out.rules; have z0 := F.out.1.lt; have z1 := F.out.2.1.lt; have z2 := F.out.2.2.1.lt; have z3 := F.out.2.2.2.1.lt)
          | ((with_reducible refine (PBk.out _ K.out).mono ?_); rintro e w5 ⟨rfl, kk⟩; have KK' := Lib.hid (KK.out.trans kk); clear KK; have KK := KK'; clear KK'; have K' := Lib.hid (K.out.trans kk); have F' := Lib.hid (F.out.same kk); clear K F p0 f0 z0 p1 f1 z1 p2 f2 z2 p3 f3 z3 kk; have K := K'; have F := F'; clear K' F'; obtain ⟨p0, f0, p1, f1, p2, f2, p3, f3, -⟩ := F.out.rules; have z0 := F.out.1.lt; have z1 := F.out.2.1.lt; have z2 := F.out.2.2.1.lt; have z3 := F.out.2.2.2.1.lt))
        refine (STk.out _ KK.out).mono ?_
        rintro e w6 ⟨v', c', zs', rfl, A', N', M', kk⟩
        have A' := Lib.hid A'; have N' := Lib.hid N'; have M' := Lib.hid M'
        have K' := Lib.hid (K.out.trans kk); have F' := Lib.hid (F.out.same kk); clear K F p0 f0 z0 p1 f1 z1 p2 f2 z2 p3 f3 z3 kk; have K := K'; have F := F'; clear K' F'; obtain ⟨p0, f0, p1, f1, p2, f2, p3, f3, -⟩ := F.out.rules; have z0 := F.out.1.lt; have z1 := F.out.2.1.lt; have z2 := F.out.2.2.1.lt; have z3 := F.out.2.2.2.1.lt
        go_wp2_with fail
        go_roundw
        case rel =>
          have KG := (Kept.refl (fun j => j = w4.heap.size) w6).setG 0 (.int .i64 (m : Nat)) |>.setG 1 (.slice v' L c')
          refine ⟨k + 1, zs', v', c', _, by omega, by go_num, rfl, ⟨(F.out.1.set 0 _).set 1 _, F.out.2.kept KG (by simp; omega)⟩, A'.out.apart F.out.1 KG (map_none _ _ (by simp)), N'.out, M'.out, ?_⟩
          have k := K.out
          (repeat (first | exact Kept.refl _ _ | with_reducible assumption | with_reducible refine Kept.alloc ?_ _ | with_reducible refine Kept.drew ?_ | with_reducible refine Kept.drewN ?_ _ | refine Kept.setNew ?_ (by dsimp only; omega) _ | refine Kept.trans ?_ (by with_reducible assumption)))
        case measure => simp [intOf]; omega
    · have e : k = m := by omega
      subst e
      go_wp2_with fail
      have p := (F.out.2.2.2.1.set 0 (.int .i64 (k : Nat))).set 1 (.slice v L c)
      have KG := (Kept.refl (fun j => j = w.heap.size + 1 + 1) wr).setG 0 (.int .i64 (k : Nat)) |>.setG 1 (.slice v L c)
      refine bodyPost_ret (v := mapV k v L c) (results_two rfl _ _ _ _ #[.int .i64 (k : Nat), .slice v L c] _ rfl p Tryd.underlying24 rfl (by kernel_rfl)) rfl ?_
      refine ⟨v, c, by rw [mixK_len], ?_, N.out, ?_⟩
      · rw [← DONE.out zs M.out]
        exact A.out.apart F.out.2.2.2.1 KG (map_none _ _ (by simp))
      · have k := K.out
        (repeat (first | exact Kept.refl _ _ | with_reducible assumption | with_reducible refine Kept.alloc ?_ _ | with_reducible refine Kept.drew ?_ | with_reducible refine Kept.drewN ?_ _ | refine Kept.setNew ?_ (by dsimp only; omega) _ | refine Kept.trans ?_ (by with_reducible assumption)))

theorem rb_mixed (all : Bool) (s t : Int) (a b : Option Addr) (ca cb : Nat) (xs ys : List Nat) (w : World) (hx64 : Words xs) (hy64 : Words ys) (hx : NatsAt w .u64 a xs) (hy : NatsAt w .u64 b ys) :
    Calls Tryd.prog 45 #[mapV s a xs.length ca, mapV t b ys.length cb, .bool all] w (MapAt w (mixS s t xs ys) (mixW (combN all) s t xs ys)) := by
  cases hok : mapOK s xs && mapOK t ys
  · have h : mapOK s xs = false ∨ mapOK t ys = false := by
      cases h1 : mapOK s xs
      · exact .inl rfl
      · exact .inr (by rw [h1] at hok; exact hok)
    refine (rb_mixed_bad all s t a b ca cb xs ys w hx64 hy64 h hx hy).mono fun e w' r => ?_
    have e1 : mixS s t xs ys = 0 := by simp [mixS, hok]
    have e2 : mixW (combN all) s t xs ys = [] := by simp [mixW, hok]
    rw [e1, e2]
    exact ⟨none, 0, r.1, .inl rfl, fun _ => rfl, r.2⟩
  · have h1 : mapOK s xs = true := by rw [Bool.and_eq_true] at hok; exact hok.1
    have h2 : mapOK t ys = true := by rw [Bool.and_eq_true] at hok; exact hok.2
    have p1 := mapOK_pos h1
    have p2 := mapOK_pos h2
    obtain ⟨S, rfl⟩ := Int.eq_ofNat_of_zero_le p1.1
    obtain ⟨T, rfl⟩ := Int.eq_ofNat_of_zero_le p2.1
    obtain ⟨m, hm⟩ := Int.eq_ofNat_of_zero_le (show 0 ≤ max (S : Int) T by omega)
    have hm' : max (S : Int) (T : Int) = (m : Int) := hm
    have e1 : mixS S T xs ys = m := by simp only [mixS, hok, if_true]; exact hm'
    have e2 : mixW (combN all) S T xs ys = mixK (combN all) xs ys ((m + 63) / 64) ((m + 63) / 64) := by simp only [mixW, hok, if_true, hm', Int.toNat_natCast]
    rw [e1, e2]
    exact rb_mixed_ok all S T m a b ca cb xs ys w hx64 hy64 h1 h2 hm' (by omega) hx hy

set_option maxHeartbeats 400000 in
theorem rb_both (s t : Int) (a b : Option Addr) (ca cb : Nat) (xs ys : List Nat) (w : World) (hx64 : Words xs) (hy64 : Words ys) (hx : NatsAt w .u64 a xs) (hy : NatsAt w .u64 b ys) :
    Calls Tryd.prog 27 #[mapV s a xs.length ca, mapV t b ys.length cb] w (MapAt w (mixS s t xs ys) (mixW (· &&& ·) s t xs ys)) := by
  have HX := Lib.hid hx; have HY := Lib.hid hy
  have M := Lib.hid fun w' h1 h2 => rb_mixed true s t a b ca cb xs ys w' hx64 hy64 h1 h2
  rw [combN_true] at M
  clear hx hy hx64 hy64
  generalize mixS s t xs ys = m at *
  generalize mixW (· &&& ·) s t xs ys = zs at *
  generalize xs.length = l1 at *
  generalize ys.length = l2 at *
  go_enter Tryd.func27, Tryd.ntmps27
  go_wp2_with fail
  refine Calls.fr3 ?_; intro W F' K' hz'; have F := Lib.hid F'; have K := Lib.hid K'; have hz := Lib.hid hz'; clear F' K' hz'; obtain ⟨p0, f0, p1, f1, p2, f2, -⟩ := F.out.rules; have z0 := F.out.1.lt; have z1 := F.out.2.1.lt; have z2 := F.out.2.2.1.lt
  refine (M.out _ (HX.out.same K.out) (HY.out.same K.out)).mono ?_
  rintro e w2 ⟨v, c, rfl, A, N, k⟩
  have A := Lib.hid A; have N := Lib.hid N
  have K' := Lib.hid (K.out.trans k); have F' := Lib.hid (F.out.same k); clear K F p0 f0 z0 p1 f1 z1 p2 f2 z2 k; have K := K'; have F := F'; clear K' F'; obtain ⟨p0, f0, p1, f1, p2, f2, -⟩ := F.out.rules; have z0 := F.out.1.lt; have z1 := F.out.2.1.lt; have z2 := F.out.2.2.1.lt
  go_wp2_with fail
  have p := (F.out.2.2.1.set 0 (.int .i64 m)).set 1 (.slice v zs.length c)
  have KG := (Kept.refl (fun j => j = w.heap.size + 1 + 1) w2).setG 0 (.int .i64 m) |>.setG 1 (.slice v zs.length c)
  refine bodyPost_ret (v := mapV m v zs.length c) (results_two rfl _ _ _ _ #[.int .i64 m, .slice v zs.length c] _ rfl p Tryd.underlying24 rfl (by kernel_rfl)) rfl ?_
  refine ⟨v, c, rfl, A.out.apart F.out.2.2.1 KG (map_none _ _ (by simp)), N.out, ?_⟩
  have k := K.out
  (repeat (first | exact Kept.refl _ _ | with_reducible assumption | with_reducible refine Kept.alloc ?_ _ | with_reducible refine Kept.drew ?_ | with_reducible refine Kept.drewN ?_ _ | refine Kept.setNew ?_ (by dsimp only; omega) _ | refine Kept.trans ?_ (by with_reducible assumption)))

set_option maxHeartbeats 400000 in
theorem rb_either (s t : Int) (a b : Option Addr) (ca cb : Nat) (xs ys : List Nat) (w : World) (hx64 : Words xs) (hy64 : Words ys) (hx : NatsAt w .u64 a xs) (hy : NatsAt w .u64 b ys) :
    Calls Tryd.prog 29 #[mapV s a xs.length ca, mapV t b ys.length cb] w (MapAt w (mixS s t xs ys) (mixW (· ||| ·) s t xs ys)) := by
  have HX := Lib.hid hx; have HY := Lib.hid hy
  have M := Lib.hid fun w' h1 h2 => rb_mixed false s t a b ca cb xs ys w' hx64 hy64 h1 h2
  rw [combN_false] at M
  clear hx hy hx64 hy64
  generalize mixS s t xs ys = m at *
  generalize mixW (· ||| ·) s t xs ys = zs at *
  generalize xs.length = l1 at *
  generalize ys.length = l2 at *
  go_enter Tryd.func29, Tryd.ntmps29
  go_wp2_with fail
  refine Calls.fr3 ?_; intro W F' K' hz'; have F := Lib.hid F'; have K := Lib.hid K'; have hz := Lib.hid hz'; clear F' K' hz'; obtain ⟨p0, f0, p1, f1, p2, f2, -⟩ := F.out.rules; have z0 := F.out.1.lt; have z1 := F.out.2.1.lt; have z2 := F.out.2.2.1.lt
  refine (M.out _ (HX.out.same K.out) (HY.out.same K.out)).mono ?_
  rintro e w2 ⟨v, c, rfl, A, N, k⟩
  have A := Lib.hid A; have N := Lib.hid N
  have K' := Lib.hid (K.out.trans k); have F' := Lib.hid (F.out.same k); clear K F p0 f0 z0 p1 f1 z1 p2 f2 z2 k; have K := K'; have F := F'; clear K' F'; obtain ⟨p0, f0, p1, f1, p2, f2, -⟩ := F.out.rules; have z0 := F.out.1.lt; have z1 := F.out.2.1.lt; have z2 := F.out.2.2.1.lt
  go_wp2_with fail
  have p := (F.out.2.2.1.set 0 (.int .i64 m)).set 1 (.slice v zs.length c)
  have KG := (Kept.refl (fun j => j = w.heap.size + 1 + 1) w2).setG 0 (.int .i64 m) |>.setG 1 (.slice v zs.length c)
  refine bodyPost_ret (v := mapV m v zs.length c) (results_two rfl _ _ _ _ #[.int .i64 m, .slice v zs.length c] _ rfl p Tryd.underlying24 rfl (by kernel_rfl)) rfl ?_
  refine ⟨v, c, rfl, A.out.apart F.out.2.2.1 KG (map_none _ _ (by simp)), N.out, ?_⟩
  have k := K.out
  (repeat (first | exact Kept.refl _ _ | with_reducible assumption | with_reducible refine Kept.alloc ?_ _ | with_reducible refine Kept.drew ?_ | with_reducible refine Kept.drewN ?_ _ | refine Kept.setNew ?_ (by dsimp only; omega) _ | refine Kept.trans ?_ (by with_reducible assumption)))

end Go.Proofs.YtmolmamfmboeoaaDoor
