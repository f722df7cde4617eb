/- BitmapMixes: what is in both of two maps, or in one, and whether they are one, is told as the document says. -/
import Derived.Test.YtmolmamfmboeoaaDoorAwk
import Derived.Test.YtmolmamfmboeoaaDoorBmR11
import Derived.Test.YtmolmamfmboeoaaDoorBmR2
import Derived.Deep.RegionHeld3
namespace Go.Proofs.YtmolmamfmboeoaaDoor
open Go.RowKit

theorem mixW_len (op : Nat → Nat → Nat) (s t : Int) (xs ys : List Nat) : (mixW op s t xs ys).length < 9223372036854775808 := by
  unfold mixW
  split
  · rename_i h
    rw [Bool.and_eq_true] at h
    have h1 := mapOK_pos h.1
    have h2 := mapOK_pos h.2
    rw [mixK_len]
    omega
  · simp

set_option maxRecDepth 100000 in
set_option maxHeartbeats 1000000 in
theorem mixes_true (s t : Int) (a b : Option Addr) (ca cb : Nat) (xs ys : List Nat) (w : World) (hx64 : Words xs) (hy64 : Words ys) (hx : NatsAt w .u64 a xs) (hy : NatsAt w .u64 b ys) (hlx : xs.length < 9223372036854775808) (hT : TabOK w) :
    Calls Tryd.prog 5 #[mapV s a xs.length ca, mapV t b ys.length cb] w fun e w' => e = .returned (.bool true) ∧ Same w w' := by
  have LA := Lib.hid fun w' => rb_light s a xs.length ca w'
  have LB := Lib.hid fun w' => rb_light t b ys.length cb w'
  have AW := Lib.hid fun w' h => awake_true w' h
  have B1 := Lib.hid fun w' h1 h2 => bm_both s t a b ca cb xs ys w' hx64 hy64 h1 h2
  have B2 := Lib.hid fun w' h1 h2 => rb_both s t a b ca cb xs ys w' hx64 hy64 h1 h2
  have E1 := Lib.hid fun w' h1 h2 => bm_either s t a b ca cb xs ys w' hx64 hy64 h1 h2
  have E2 := Lib.hid fun w' h1 h2 => rb_either s t a b ca cb xs ys w' hx64 hy64 h1 h2
  have S1 := Lib.hid fun w' h1 h2 => bm_same s t a b ca cb xs ys w' hlx h1 h2
  have S2 := Lib.hid fun w' h1 h2 => rb_same s t a b ca cb xs ys w' hlx h1 h2
  have HX := Lib.hid hx; have HY := Lib.hid hy; have TT := Lib.hid hT
  clear hx hy hT hx64 hy64 hlx
  obtain ⟨q, hq⟩ : ∃ q, sameB s t xs ys = q := ⟨_, rfl⟩
  rw [hq] at S1 S2
  have LZB := Lib.hid (mixW_len (· &&& ·) s t xs ys)
  have LZE := Lib.hid (mixW_len (· ||| ·) s t xs ys)
  generalize mixS s t xs ys = m at *
  generalize mixW (· &&& ·) s t xs ys = zb at *
  generalize mixW (· ||| ·) s t xs ys = ze at *
  clear hq
  have SZB := Lib.hid fun v v' c c' w' h1 h2 => (rb_same m m v v' c c' zb zb w' LZB.out h1 h2).mono (R' := fun e w'' => e = .returned (.bool true) ∧ Same w' w'') fun _ _ h => ⟨by rw [h.1, show sameB m m zb zb = true from by simp [sameB]], h.2⟩
  have SZE := Lib.hid fun v v' c c' w' h1 h2 => (rb_same m m v v' c c' ze ze w' LZE.out h1 h2).mono (R' := fun e w'' => e = .returned (.bool true) ∧ Same w' w'') fun _ _ h => ⟨by rw [h.1, show sameB m m ze ze = true from by simp [sameB]], h.2⟩
  generalize xs.length = l1 at *
  generalize ys.length = l2 at *
  by_cases h1 : l1 ≤ 8
  · by_cases h2 : l2 ≤ 8
    · rw [decide_eq_true h1] at LA
      rw [decide_eq_true h2] at LB
      clear h1 h2
      go_enter Tryd.func5, Tryd.ntmps5
      go_wp2_with fail
      refine Calls.fr2 ?_; intro W F' K' hz'; have F := Lib.hid F'; have K := Lib.hid K'; have hz := Lib.hid hz'; clear F' K' hz'; obtain ⟨p0, f0, p1, f1, -⟩ := F.out.rules; have z0 := F.out.1.lt; have z1 := F.out.2.1.lt
      refine (LA.out _).mono ?_
      rintro e w2 ⟨rfl, k⟩
      have K' := Lib.hid (K.out.trans k); have F' := Lib.hid (F.out.same k); clear K F p0 f0 z0 p1 f1 z1 k; have K := K'; have F := F'; clear K' F'; obtain ⟨p0, f0, p1, f1, -⟩ := F.out.rules; have z0 := F.out.1.lt; have z1 := F.out.2.1.lt
      go_wp2_with fail
      refine (LB.out _).mono ?_
      rintro e w3 ⟨rfl, k⟩
      have K' := Lib.hid (K.out.trans k); have F' := Lib.hid (F.out.same k); clear K F p0 f0 z0 p1 f1 z1 k; have K := K'; have F := F'; clear K' F'; obtain ⟨p0, f0, p1, f1, -⟩ := F.out.rules; have z0 := F.out.1.lt; have z1 := F.out.2.1.lt
      go_wp2_with fail
      go_region
      · have F' := Lib.hid (show Fr ((w3.alloc (.cells #[.int .i64 s, .slice a l1 ca] 27)).alloc (.cells #[.int .i64 t, .slice b l2 cb] 27)).drew [(w3.heap.size, #[.int .i64 s, .slice a l1 ca], 27), (w3.heap.size + 1, #[.int .i64 t, .slice b l2 cb], 27), (w.heap.size, #[.int .i64 s, .slice a l1 ca], 24), (w.heap.size + 1, #[.int .i64 t, .slice b l2 cb], 24)] from
          ⟨((Blk.new w3 _ _).alloc _).drew, (Blk.new' _ _ _ (by simp)).drew, F.out.same (((Kept.refl _ w3).alloc _).alloc _).drew⟩)
        have K' := Lib.hid ((K.out.alloc (.cells #[.int .i64 s, .slice a l1 ca] 27)).alloc (.cells #[.int .i64 t, .slice b l2 cb] 27)).drew
        clear F K p0 f0 p1 f1 z0 z1; have F := F'; have K := K'; clear F' K'
        generalize ((w3.alloc (.cells #[.int .i64 s, .slice a l1 ca] 27)).alloc (.cells #[.int .i64 t, .slice b l2 cb] 27)).drew = w4 at *
        have QQ : Hid (∀ w', Same w4 w' → ((∀ i, w'.cell? ⟨w3.heap.size, i, none⟩ = (#[Value.int .i64 s, .slice a l1 ca] : Array Value)[i]?) ∧ (∀ i, w'.cell? ⟨(w3.heap.size + 1), i, none⟩ = (#[Value.int .i64 t, .slice b l2 cb] : Array Value)[i]?) ∧ (∀ i, w'.cell? ⟨w.heap.size, i, none⟩ = (#[Value.int .i64 s, .slice a l1 ca] : Array Value)[i]?) ∧ (∀ i, w'.cell? ⟨w.heap.size + 1, i, none⟩ = (#[Value.int .i64 t, .slice b l2 cb] : Array Value)[i]?))) := by
          intro w' k
          obtain ⟨r0, _, r1, _, r2, _, r3, _⟩ := (F.out.same k).rules
          exact ⟨r0, r1, r2, r3⟩
        have KN := Lib.hid (Kept.refl (fun _ => False) w4)
        go_wp2_with fail
        go_region_held3 (fun w' => ((∀ i, w'.cell? ⟨w3.heap.size, i, none⟩ = (#[Value.int .i64 s, .slice a l1 ca] : Array Value)[i]?) ∧ (∀ i, w'.cell? ⟨(w3.heap.size + 1), i, none⟩ = (#[Value.int .i64 t, .slice b l2 cb] : Array Value)[i]?) ∧ (∀ i, w'.cell? ⟨w.heap.size, i, none⟩ = (#[Value.int .i64 s, .slice a l1 ca] : Array Value)[i]?) ∧ (∀ i, w'.cell? ⟨w.heap.size + 1, i, none⟩ = (#[Value.int .i64 t, .slice b l2 cb] : Array Value)[i]?)))
          (first | exact QQ.out _ KN.out | exact QQ.out _ KN.out.drew)
          (first
            | (go_at_call 26; refine (B1.out _ (HX.out.same (by first | exact K.out.trans KN.out | exact K.out.trans KN.out.drew)) (HY.out.same (by first | exact K.out.trans KN.out | exact K.out.trans KN.out.drew))).mono ?_; rintro e w9 ⟨v1, c1, rfl, ho1, k⟩; obtain ⟨A1, C1, e1, _, _, _, hat1, _⟩ := ho1.read; simp only [Value.slice.injEq] at e1; obtain ⟨rfl, _, _⟩ := e1; (try (have X1' := Lib.hid (X1.out.same k); clear X1; have X1 := X1'; clear X1')); (try (have X2' := Lib.hid (X2.out.same k); clear X2; have X2 := X2'; clear X2')); (try (have X3' := Lib.hid (X3.out.same k); clear X3; have X3 := X3'; clear X3')); have KN' := Lib.hid (Kept.trans (by first | exact KN.out | exact KN.out.drew) k); clear KN k; have KN := KN'; clear KN'; have X1 := Lib.hid hat1; clear ho1 hat1)
            | (go_at_call 27; refine (B2.out _ (HX.out.same (by first | exact K.out.trans KN.out | exact K.out.trans KN.out.drew)) (HY.out.same (by first | exact K.out.trans KN.out | exact K.out.trans KN.out.drew))).mono ?_; rintro e w9 ⟨v2, c2, rfl, hat2, _, k⟩; (try (have X1' := Lib.hid (X1.out.same k); clear X1; have X1 := X1'; clear X1')); (try (have X2' := Lib.hid (X2.out.same k); clear X2; have X2 := X2'; clear X2')); (try (have X3' := Lib.hid (X3.out.same k); clear X3; have X3 := X3'; clear X3')); have KN' := Lib.hid (Kept.trans (by first | exact KN.out | exact KN.out.drew) k); clear KN k; have KN := KN'; clear KN'; have X2 := Lib.hid hat2; clear hat2)
            | (go_at_call 28; refine (E1.out _ (HX.out.same (by first | exact K.out.trans KN.out | exact K.out.trans KN.out.drew)) (HY.out.same (by first | exact K.out.trans KN.out | exact K.out.trans KN.out.drew))).mono ?_; rintro e w9 ⟨v1, c1, rfl, ho1, k⟩; obtain ⟨A1, C1, e1, _, _, _, hat1, _⟩ := ho1.read; simp only [Value.slice.injEq] at e1; obtain ⟨rfl, _, _⟩ := e1; clear X1 X2; (try (have X1' := Lib.hid (X1.out.same k); clear X1; have X1 := X1'; clear X1')); (try (have X2' := Lib.hid (X2.out.same k); clear X2; have X2 := X2'; clear X2')); (try (have X3' := Lib.hid (X3.out.same k); clear X3; have X3 := X3'; clear X3')); have KN' := Lib.hid (Kept.trans (by first | exact KN.out | exact KN.out.drew) k); clear KN k; have KN := KN'; clear KN'; have X1 := Lib.hid hat1; clear ho1 hat1)
            | (go_at_call 29; refine (E2.out _ (HX.out.same (by first | exact K.out.trans KN.out | exact K.out.trans KN.out.drew)) (HY.out.same (by first | exact K.out.trans KN.out | exact K.out.trans KN.out.drew))).mono ?_; rintro e w9 ⟨v2, c2, rfl, hat2, _, k⟩; (try (have X1' := Lib.hid (X1.out.same k); clear X1; have X1 := X1'; clear X1')); (try (have X2' := Lib.hid (X2.out.same k); clear X2; have X2 := X2'; clear X2')); (try (have X3' := Lib.hid (X3.out.same k); clear X3; have X3 := X3'; clear X3')); have KN' := Lib.hid (Kept.trans (by first | exact KN.out | exact KN.out.drew) k); clear KN k; have KN := KN'; clear KN'; have X2 := Lib.hid hat2; clear hat2)
            | (go_at_call 30; refine (S1.out _ (HX.out.same (by first | exact K.out.trans KN.out | exact K.out.trans KN.out.drew)) (HY.out.same (by first | exact K.out.trans KN.out | exact K.out.trans KN.out.drew))).mono ?_; rintro e w9 ⟨rfl, k⟩; clear X1 X2; (try (have X1' := Lib.hid (X1.out.same k); clear X1; have X1 := X1'; clear X1')); (try (have X2' := Lib.hid (X2.out.same k); clear X2; have X2 := X2'; clear X2')); (try (have X3' := Lib.hid (X3.out.same k); clear X3; have X3 := X3'; clear X3')); have KN' := Lib.hid (Kept.trans (by first | exact KN.out | exact KN.out.drew) k); clear KN k; have KN := KN'; clear KN')
            | (go_at_call 10; refine (AW.out _ (TT.out.same (by first | exact K.out.trans KN.out | exact K.out.trans KN.out.drew))).mono ?_; rintro e w9 ⟨rfl, k⟩; (try (have X1' := Lib.hid (X1.out.same k); clear X1; have X1 := X1'; clear X1')); (try (have X2' := Lib.hid (X2.out.same k); clear X2; have X2 := X2'; clear X2')); (try (have X3' := Lib.hid (X3.out.same k); clear X3; have X3 := X3'; clear X3')); have KN' := Lib.hid (Kept.trans (by first | exact KN.out | exact KN.out.drew) k); clear KN k; have KN := KN'; clear KN')
            | (go_at_call 12; (with_reducible refine (SZB.out _ _ _ _ _ X1.out X2.out).mono ?_); rintro e w9 ⟨rfl, k⟩; (try (have X1' := Lib.hid (X1.out.same k); clear X1; have X1 := X1'; clear X1')); (try (have X2' := Lib.hid (X2.out.same k); clear X2; have X2 := X2'; clear X2')); (try (have X3' := Lib.hid (X3.out.same k); clear X3; have X3 := X3'; clear X3')); have KN' := Lib.hid (Kept.trans (by first | exact KN.out | exact KN.out.drew) k); clear KN k; have KN := KN'; clear KN')
            | (go_at_call 12; (with_reducible refine (SZE.out _ _ _ _ _ X1.out X2.out).mono ?_); rintro e w9 ⟨rfl, k⟩; (try (have X1' := Lib.hid (X1.out.same k); clear X1; have X1 := X1'; clear X1')); (try (have X2' := Lib.hid (X2.out.same k); clear X2; have X2 := X2'; clear X2')); (try (have X3' := Lib.hid (X3.out.same k); clear X3; have X3 := X3'; clear X3')); have KN' := Lib.hid (Kept.trans (by first | exact KN.out | exact KN.out.drew) k); clear KN k; have KN := KN'; clear KN')
            | (go_at_call 12; (with_reducible refine (S2.out _ (HX.out.same (by first | exact K.out.trans KN.out | exact K.out.trans KN.out.drew)) (HY.out.same (by first | exact K.out.trans KN.out | exact K.out.trans KN.out.drew))).mono ?_); rintro e w9 ⟨rfl, k⟩; (try (have X1' := Lib.hid (X1.out.same k); clear X1; have X1 := X1'; clear X1')); (try (have X2' := Lib.hid (X2.out.same k); clear X2; have X2 := X2'; clear X2')); (try (have X3' := Lib.hid (X3.out.same k); clear X3; have X3 := X3'; clear X3')); have KN' := Lib.hid (Kept.trans (by first | exact KN.out | exact KN.out.drew) k); clear KN k; have KN := KN'; clear KN'))
        all_goals
          go_wp2_with fail
          go_ret
          exact ⟨rfl, K.out.trans KN.out⟩
      · have F' := Lib.hid (show Fr ((w3.alloc (.cells #[.int .i64 t, .slice b l2 cb] 27)).alloc (.cells #[.int .i64 s, .slice a l1 ca] 27)).drew [(w3.heap.size + 1, #[.int .i64 s, .slice a l1 ca], 27), (w3.heap.size, #[.int .i64 t, .slice b l2 cb], 27), (w.heap.size, #[.int .i64 s, .slice a l1 ca], 24), (w.heap.size + 1, #[.int .i64 t, .slice b l2 cb], 24)] from
          ⟨(Blk.new' _ _ _ (by simp)).drew, ((Blk.new w3 _ _).alloc _).drew, F.out.same (((Kept.refl _ w3).alloc _).alloc _).drew⟩)
        have K' := Lib.hid ((K.out.alloc (.cells #[.int .i64 t, .slice b l2 cb] 27)).alloc (.cells #[.int .i64 s, .slice a l1 ca] 27)).drew
        clear F K p0 f0 p1 f1 z0 z1; have F := F'; have K := K'; clear F' K'
        generalize ((w3.alloc (.cells #[.int .i64 t, .slice b l2 cb] 27)).alloc (.cells #[.int .i64 s, .slice a l1 ca] 27)).drew = w4 at *
        have QQ : Hid (∀ w', Same w4 w' → ((∀ i, w'.cell? ⟨(w3.heap.size + 1), i, none⟩ = (#[Value.int .i64 s, .slice a l1 ca] : Array Value)[i]?) ∧ (∀ i, w'.cell? ⟨w3.heap.size, i, none⟩ = (#[Value.int .i64 t, .slice b l2 cb] : Array Value)[i]?) ∧ (∀ i, w'.cell? ⟨w.heap.size, i, none⟩ = (#[Value.int .i64 s, .slice a l1 ca] : Array Value)[i]?) ∧ (∀ i, w'.cell? ⟨w.heap.size + 1, i, none⟩ = (#[Value.int .i64 t, .slice b l2 cb] : Array Value)[i]?))) := by
          intro w' k
          obtain ⟨r0, _, r1, _, r2, _, r3, _⟩ := (F.out.same k).rules
          exact ⟨r0, r1, r2, r3⟩
        have KN := Lib.hid (Kept.refl (fun _ => False) w4)
        go_wp2_with fail
        go_region_held3 (fun w' => ((∀ i, w'.cell? ⟨(w3.heap.size + 1), i, none⟩ = (#[Value.int .i64 s, .slice a l1 ca] : Array Value)[i]?) ∧ (∀ i, w'.cell? ⟨w3.heap.size, i, none⟩ = (#[Value.int .i64 t, .slice b l2 cb] : Array Value)[i]?) ∧ (∀ i, w'.cell? ⟨w.heap.size, i, none⟩ = (#[Value.int .i64 s, .slice a l1 ca] : Array Value)[i]?) ∧ (∀ i, w'.cell? ⟨w.heap.size + 1, i, none⟩ = (#[Value.int .i64 t, .slice b l2 cb] : Array Value)[i]?)))
          (first | exact QQ.out _ KN.out | exact QQ.out _ KN.out.drew)
          (first
            | (go_at_call 26; refine (B1.out _ (HX.out.same (by first | exact K.out.trans KN.out | exact K.out.trans KN.out.drew)) (HY.out.same (by first | exact K.out.trans KN.out | exact K.out.trans KN.out.drew))).mono ?_; rintro e w9 ⟨v1, c1, rfl, ho1, k⟩; obtain ⟨A1, C1, e1, _, _, _, hat1, _⟩ := ho1.read; simp only [Value.slice.injEq] at e1; obtain ⟨rfl, _, _⟩ := e1; (try (have X1' := Lib.hid (X1.out.same k); clear X1; have X1 := X1'; clear X1')); (try (have X2' := Lib.hid (X2.out.same k); clear X2; have X2 := X2'; clear X2')); (try (have X3' := Lib.hid (X3.out.same k); clear X3; have X3 := X3'; clear X3')); have KN' := Lib.hid (Kept.trans (by first | exact KN.out | exact KN.out.drew) k); clear KN k; have KN := KN'; clear KN'; have X1 := Lib.hid hat1; clear ho1 hat1)
            | (go_at_call 27; refine (B2.out _ (HX.out.same (by first | exact K.out.trans KN.out | exact K.out.trans KN.out.drew)) (HY.out.same (by first | exact K.out.trans KN.out | exact K.out.trans KN.out.drew))).mono ?_; rintro e w9 ⟨v2, c2, rfl, hat2, _, k⟩; (try (have X1' := Lib.hid (X1.out.same k); clear X1; have X1 := X1'; clear X1')); (try (have X2' := Lib.hid (X2.out.same k); clear X2; have X2 := X2'; clear X2')); (try (have X3' := Lib.hid (X3.out.same k); clear X3; have X3 := X3'; clear X3')); have KN' := Lib.hid (Kept.trans (by first | exact KN.out | exact KN.out.drew) k); clear KN k; have KN := KN'; clear KN'; have X2 := Lib.hid hat2; clear hat2)
            | (go_at_call 28; refine (E1.out _ (HX.out.same (by first | exact K.out.trans KN.out | exact K.out.trans KN.out.drew)) (HY.out.same (by first | exact K.out.trans KN.out | exact K.out.trans KN.out.drew))).mono ?_; rintro e w9 ⟨v1, c1, rfl, ho1, k⟩; obtain ⟨A1, C1, e1, _, _, _, hat1, _⟩ := ho1.read; simp only [Value.slice.injEq] at e1; obtain ⟨rfl, _, _⟩ := e1; clear X1 X2; (try (have X1' := Lib.hid (X1.out.same k); clear X1; have X1 := X1'; clear X1')); (try (have X2' := Lib.hid (X2.out.same k); clear X2; have X2 := X2'; clear X2')); (try (have X3' := Lib.hid (X3.out.same k); clear X3; have X3 := X3'; clear X3')); have KN' := Lib.hid (Kept.trans (by first | exact KN.out | exact KN.out.drew) k); clear KN k; have KN := KN'; clear KN'; have X1 := Lib.hid hat1; clear ho1 hat1)
            | (go_at_call 29; refine (E2.out _ (HX.out.same (by first | exact K.out.trans KN.out | exact K.out.trans KN.out.drew)) (HY.out.same (by first | exact K.out.trans KN.out | exact K.out.trans KN.out.drew))).mono ?_; rintro e w9 ⟨v2, c2, rfl, hat2, _, k⟩; (try (have X1' := Lib.hid (X1.out.same k); clear X1; have X1 := X1'; clear X1')); (try (have X2' := Lib.hid (X2.out.same k); clear X2; have X2 := X2'; clear X2')); (try (have X3' := Lib.hid (X3.out.same k); clear X3; have X3 := X3'; clear X3')); have KN' := Lib.hid (Kept.trans (by first | exact KN.out | exact KN.out.drew) k); clear KN k; have KN := KN'; clear KN'; have X2 := Lib.hid hat2; clear hat2)
            | (go_at_call 30; refine (S1.out _ (HX.out.same (by first | exact K.out.trans KN.out | exact K.out.trans KN.out.drew)) (HY.out.same (by first | exact K.out.trans KN.out | exact K.out.trans KN.out.drew))).mono ?_; rintro e w9 ⟨rfl, k⟩; clear X1 X2; (try (have X1' := Lib.hid (X1.out.same k); clear X1; have X1 := X1'; clear X1')); (try (have X2' := Lib.hid (X2.out.same k); clear X2; have X2 := X2'; clear X2')); (try (have X3' := Lib.hid (X3.out.same k); clear X3; have X3 := X3'; clear X3')); have KN' := Lib.hid (Kept.trans (by first | exact KN.out | exact KN.out.drew) k); clear KN k; have KN := KN'; clear KN')
            | (go_at_call 10; refine (AW.out _ (TT.out.same (by first | exact K.out.trans KN.out | exact K.out.trans KN.out.drew))).mono ?_; rintro e w9 ⟨rfl, k⟩; (try (have X1' := Lib.hid (X1.out.same k); clear X1; have X1 := X1'; clear X1')); (try (have X2' := Lib.hid (X2.out.same k); clear X2; have X2 := X2'; clear X2')); (try (have X3' := Lib.hid (X3.out.same k); clear X3; have X3 := X3'; clear X3')); have KN' := Lib.hid (Kept.trans (by first | exact KN.out | exact KN.out.drew) k); clear KN k; have KN := KN'; clear KN')
            | (go_at_call 12; (with_reducible refine (SZB.out _ _ _ _ _ X1.out X2.out).mono ?_); rintro e w9 ⟨rfl, k⟩; (try (have X1' := Lib.hid (X1.out.same k); clear X1; have X1 := X1'; clear X1')); (try (have X2' := Lib.hid (X2.out.same k); clear X2; have X2 := X2'; clear X2')); (try (have X3' := Lib.hid (X3.out.same k); clear X3; have X3 := X3'; clear X3')); have KN' := Lib.hid (Kept.trans (by first | exact KN.out | exact KN.out.drew) k); clear KN k; have KN := KN'; clear KN')
            | (go_at_call 12; (with_reducible refine (SZE.out _ _ _ _ _ X1.out X2.out).mono ?_); rintro e w9 ⟨rfl, k⟩; (try (have X1' := Lib.hid (X1.out.same k); clear X1; have X1 := X1'; clear X1')); (try (have X2' := Lib.hid (X2.out.same k); clear X2; have X2 := X2'; clear X2')); (try (have X3' := Lib.hid (X3.out.same k); clear X3; have X3 := X3'; clear X3')); have KN' := Lib.hid (Kept.trans (by first | exact KN.out | exact KN.out.drew) k); clear KN k; have KN := KN'; clear KN')
            | (go_at_call 12; (with_reducible refine (S2.out _ (HX.out.same (by first | exact K.out.trans KN.out | exact K.out.trans KN.out.drew)) (HY.out.same (by first | exact K.out.trans KN.out | exact K.out.trans KN.out.drew))).mono ?_); rintro e w9 ⟨rfl, k⟩; (try (have X1' := Lib.hid (X1.out.same k); clear X1; have X1 := X1'; clear X1')); (try (have X2' := Lib.hid (X2.out.same k); clear X2; have X2 := X2'; clear X2')); (try (have X3' := Lib.hid (X3.out.same k); clear X3; have X3 := X3'; clear X3')); have KN' := Lib.hid (Kept.trans (by first | exact KN.out | exact KN.out.drew) k); clear KN k; have KN := KN'; clear KN'))
        all_goals
          go_wp2_with fail
          go_ret
          exact ⟨rfl, K.out.trans KN.out⟩
    · rw [decide_eq_true h1] at LA
      rw [decide_eq_false h2] at LB
      clear h1 h2
      go_enter Tryd.func5, Tryd.ntmps5
      go_wp2_with fail
      refine Calls.fr2 ?_; intro W F' K' hz'; have F := Lib.hid F'; have K := Lib.hid K'; have hz := Lib.hid hz'; clear F' K' hz'; obtain ⟨p0, f0, p1, f1, -⟩ := F.out.rules; have z0 := F.out.1.lt; have z1 := F.out.2.1.lt
      refine (LA.out _).mono ?_
      rintro e w2 ⟨rfl, k⟩
      have K' := Lib.hid (K.out.trans k); have F' := Lib.hid (F.out.same k); clear K F p0 f0 z0 p1 f1 z1 k; have K := K'; have F := F'; clear K' F'; obtain ⟨p0, f0, p1, f1, -⟩ := F.out.rules; have z0 := F.out.1.lt; have z1 := F.out.2.1.lt
      go_wp2_with fail
      refine (LB.out _).mono ?_
      rintro e w3 ⟨rfl, k⟩
      have K' := Lib.hid (K.out.trans k); have F' := Lib.hid (F.out.same k); clear K F p0 f0 z0 p1 f1 z1 k; have K := K'; have F := F'; clear K' F'; obtain ⟨p0, f0, p1, f1, -⟩ := F.out.rules; have z0 := F.out.1.lt; have z1 := F.out.2.1.lt
      go_wp2_with fail
      refine (AW.out _ (TT.out.same K.out)).mono ?_
      rintro e w4 ⟨rfl, k⟩
      have K' := Lib.hid (K.out.trans k); have F' := Lib.hid (F.out.same k); clear K F p0 f0 z0 p1 f1 z1 k; have K := K'; have F := F'; clear K' F'; obtain ⟨p0, f0, p1, f1, -⟩ := F.out.rules; have z0 := F.out.1.lt; have z1 := F.out.2.1.lt
      go_wp2_with fail
      go_ret
      exact ⟨rfl, K.out⟩
  · rw [decide_eq_false h1] at LA
    clear h1
    go_enter Tryd.func5, Tryd.ntmps5
    go_wp2_with fail
    refine Calls.fr2 ?_; intro W F' K' hz'; have F := Lib.hid F'; have K := Lib.hid K'; have hz := Lib.hid hz'; clear F' K' hz'; obtain ⟨p0, f0, p1, f1, -⟩ := F.out.rules; have z0 := F.out.1.lt; have z1 := F.out.2.1.lt
    refine (LA.out _).mono ?_
    rintro e w2 ⟨rfl, k⟩
    have K' := Lib.hid (K.out.trans k); have F' := Lib.hid (F.out.same k); clear K F p0 f0 z0 p1 f1 z1 k; have K := K'; have F := F'; clear K' F'; obtain ⟨p0, f0, p1, f1, -⟩ := F.out.rules; have z0 := F.out.1.lt; have z1 := F.out.2.1.lt
    go_wp2_with fail
    refine (AW.out _ (TT.out.same K.out)).mono ?_
    rintro e w4 ⟨rfl, k⟩
    have K' := Lib.hid (K.out.trans k); have F' := Lib.hid (F.out.same k); clear K F p0 f0 z0 p1 f1 z1 k; have K := K'; have F := F'; clear K' F'; obtain ⟨p0, f0, p1, f1, -⟩ := F.out.rules; have z0 := F.out.1.lt; have z1 := F.out.2.1.lt
    go_wp2_with fail
    go_ret
    exact ⟨rfl, K.out⟩

end Go.Proofs.YtmolmamfmboeoaaDoor
