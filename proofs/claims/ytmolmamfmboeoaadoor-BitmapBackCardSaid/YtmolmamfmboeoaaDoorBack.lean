/- BitmapBack: a map that is put is got; bytes more, or less, are none; it is what is in it, or in what it is mixed with. -/
import Derived.Test.YtmolmamfmboeoaaDoorRanks
import Derived.Test.YtmolmamfmboeoaaDoorBackP
import Derived.Test.YtmolmamfmboeoaaDoorBm10
import Derived.Test.YtmolmamfmboeoaaDoorBmR2
import Derived.Test.YtmolmamfmboeoaaDoorBmRead
import Derived.Deep.RegionHeld3
namespace Go.Proofs.YtmolmamfmboeoaaDoor
open Go.RowKit Go.Sort
attribute [local go_sem ↓] exec_app semAt_app
attribute [local go_sem] isApp_lit appA appX

theorem blk_one {w w' : World} {cs : Array Value} {t : TypeId} (k : Same (w.alloc (.cells cs t)) w') : Blk w' w.heap.size cs t := (Blk.new w cs t).kept k (fun h => h)
theorem blk_one_drew {w w' : World} {cs : Array Value} {t : TypeId} (k : Same (w.alloc (.cells cs t)).drew w') : Blk w' w.heap.size cs t := (Blk.new w cs t).drew.kept k (fun h => h)
theorem blk_snd {w w' : World} {cs cs' : Array Value} {t t' : TypeId} (k : Same ((w.alloc (.cells cs t)).alloc (.cells cs' t')) w') : Blk w' (w.heap.size + 1) cs' t' := by
  have h := blk_one k
  have e : (w.alloc (.cells cs t)).heap.size = w.heap.size + 1 := by simp
  rwa [e] at h
theorem blk_snd_drew {w w' : World} {cs cs' : Array Value} {t t' : TypeId} (k : Same ((w.alloc (.cells cs t)).alloc (.cells cs' t')).drew w') : Blk w' (w.heap.size + 1) cs' t' := by
  have h := blk_one_drew k
  have e : (w.alloc (.cells cs t)).heap.size = w.heap.size + 1 := by simp
  rwa [e] at h
theorem blk_on {w w' w2 : World} {b : Nat} {cs : Array Value} {t : TypeId} (h : Blk w b cs t) (k : Same w' w2) (j : Same w w') : Blk w2 b cs t := h.kept (j.trans k) (fun h => h)
theorem nats_on {w w' w2 : World} {k : IntKind} {a : Option Addr} {xs : List Nat} (h : NatsAt w k a xs) (q : Same w' w2) (j : Same w w') : NatsAt w2 k a xs := h.same (j.trans q)
theorem blk_put {w : World} {b : Nat} {x0 x1 : Value} {t : TypeId} (h : Blk w b #[x0, x1] t) (x y : Value) : Blk ((w.setCell ⟨b, 0, none⟩ x).setCell ⟨b, 1, none⟩ y) b #[x, y] t := (h.set 0 x).set 1 y
theorem blk_apart {w : World} {b g : Nat} {cs : Array Value} {t : TypeId} (h : Blk w b cs t) (hn : ¬ b = g) (x y : Value) : Blk ((w.setCell ⟨g, 0, none⟩ x).setCell ⟨g, 1, none⟩ y) b cs t := h.kept (((Kept.refl (fun k => k = g) w).setG 0 _).setG 1 _) hn
theorem nats_alloc {w : World} {k : IntKind} {a : Option Addr} {xs : List Nat} (h : NatsAt w k a xs) (o : Obj) : NatsAt (w.alloc o) k a xs := h.same ((Kept.refl _ w).alloc o)
theorem nats_apart {w : World} {g : Nat} {a : Option Addr} {xs : List Nat} {t : TypeId} {s : Int} {l c : Nat} {v : Option Addr} (h : NatsAt w .u64 a xs) (hb : Blk w g #[.int .i64 s, .slice v l c] t) (x y : Value) : NatsAt ((w.setCell ⟨g, 0, none⟩ x).setCell ⟨g, 1, none⟩ y) .u64 a xs :=
  h.apart hb (((Kept.refl (fun k => k = g) w).setG 0 _).setG 1 _) (map_none _ _ (by simp))
theorem blk_two {w w' : World} {cs : Array Value} {t : TypeId} {o : Obj} (k : Same ((w.alloc (.cells cs t)).alloc o) w') : Blk w' w.heap.size cs t := ((Blk.new w cs t).alloc o).kept k (fun h => h)
theorem blk_two_drew {w w' : World} {cs : Array Value} {t : TypeId} {o : Obj} (k : Same ((w.alloc (.cells cs t)).alloc o).drew w') : Blk w' w.heap.size cs t := ((Blk.new w cs t).alloc o).drew.kept k (fun h => h)
theorem set_apart {w : World} {b1 b2 : Nat} {cs ds : Array Value} {t u : TypeId} (_ : Blk w b1 cs t) (_ : Blk w b2 ds u) (h : b1 ≠ b2) (W : World) (i : Nat) (v : Value) (j : Nat) : (W.setCell ⟨b1, i, none⟩ v).cell? ⟨b2, j, none⟩ = W.cell? ⟨b2, j, none⟩ :=
  World.cell?_setCell_other _ _ _ _ (by intro e; simp only [Addr.mk.injEq] at e; exact h (by first | exact e.1 | exact e.1.symm))
theorem region_via {P : Program} {c : Code} {Q : Exit → Act → World → Prop} {a : Act} {w : World} (upd : Nat → Nat → Option Addr → Nat → Option Addr → Nat → Act → Act) (R : Nat → Nat → Option Addr → Nat → Option Addr → Nat → World → Prop)
    (h1 : c.wp P (fun e a' w' => ∃ b1 b2 v5 c5 v6 c6, e = .normal ∧ a' = upd b1 b2 v5 c5 v6 c6 a ∧ R b1 b2 v5 c5 v6 c6 w') a w) (h2 : ∀ b1 b2 v5 c5 v6 c6 w', R b1 b2 v5 c5 v6 c6 w' → Q .normal (upd b1 b2 v5 c5 v6 c6 a) w') : c.wp P Q a w :=
  Code.wp_mono (fun e a' w' ⟨b1, b2, v5, c5, v6, c6, he, ha, hr⟩ => by subst he ha; exact h2 _ _ _ _ _ _ _ hr) h1

/-- What the ways of region 9 leave. -/
def LF (w0 w' : World) (b1 b2 : Nat) (s : Int) (L : Nat) (v5 : Option Addr) (c5 : Nat) (v6 : Option Addr) (c6 : Nat) (zo za : List Nat) (t : TypeId) : Prop :=
  NatsAt w' .u64 v5 zo ∧ NatsAt w' .u64 v6 za ∧ Blk w' b1 #[.int .i64 s, .slice v5 L c5] t ∧ Blk w' b2 #[.int .i64 s, .slice v6 L c6] t ∧ Same w0 w'
section
variable {w0 w : World} {s : Int} {L : Nat} {v5 : Option Addr} {c5 : Nat} {v6 : Option Addr} {c6 : Nat} {zo za : List Nat} {t : TypeId}
theorem lfA (h5 : NatsAt w .u64 v5 zo) (h6 : NatsAt w .u64 v6 za) (k : Same w0 w) :
    LF w0 ((w.alloc (.cells #[.int .i64 s, .slice v5 L c5] t)).alloc (.cells #[.int .i64 s, .slice v6 L c6] t)) w.heap.size (w.heap.size + 1) s L v5 c5 v6 c6 zo za t :=
  ⟨nats_alloc (nats_alloc h5 _) _, nats_alloc (nats_alloc h6 _) _, (Blk.new w _ _).alloc _, Blk.new' _ _ _ (by simp), (k.alloc _).alloc _⟩
theorem lfA' (h5 : NatsAt w .u64 v5 zo) (h6 : NatsAt w .u64 v6 za) (k : Same w0 w) :
    LF w0 ((w.alloc (.cells #[.int .i64 s, .slice v6 L c6] t)).alloc (.cells #[.int .i64 s, .slice v5 L c5] t)) (w.heap.size + 1) w.heap.size s L v5 c5 v6 c6 zo za t :=
  ⟨nats_alloc (nats_alloc h5 _) _, nats_alloc (nats_alloc h6 _) _, Blk.new' _ _ _ (by simp), (Blk.new w _ _).alloc _, (k.alloc _).alloc _⟩
theorem set2_size (w : World) (a b : Addr) (x y : Value) : ((w.setCell a x).setCell b y).heap.size = w.heap.size := by simp [World.setCell]
theorem lfB {g : Nat} {s0 : Int} {v0 : Option Addr} {l0 c0 : Nat} (h5 : NatsAt w .u64 v5 zo) (h6 : NatsAt w .u64 v6 za) (k : Same w0 w) (hb : Blk w g #[.int .i64 s0, .slice v0 l0 c0] t) (hg : w0.heap.size ≤ g) :
    LF w0 (((w.setCell ⟨g, 0, none⟩ (.int .i64 s)).setCell ⟨g, 1, none⟩ (.slice v5 L c5)).alloc (.cells #[.int .i64 s, .slice v6 L c6] t)) g w.heap.size s L v5 c5 v6 c6 zo za t :=
  ⟨nats_alloc (nats_apart h5 hb _ _) _, nats_alloc (nats_apart h6 hb _ _) _, (blk_put hb _ _).alloc _, Blk.new' _ _ _ (set2_size _ _ _ _ _).symm, ((k.setNew hg _).setNew hg _).alloc _⟩
theorem lfB' {g : Nat} {s0 : Int} {v0 : Option Addr} {l0 c0 : Nat} (h5 : NatsAt w .u64 v5 zo) (h6 : NatsAt w .u64 v6 za) (k : Same w0 w) (hb : Blk w g #[.int .i64 s0, .slice v0 l0 c0] t) (hg : w0.heap.size ≤ g) :
    LF w0 (((w.setCell ⟨g, 0, none⟩ (.int .i64 s)).setCell ⟨g, 1, none⟩ (.slice v6 L c6)).alloc (.cells #[.int .i64 s, .slice v5 L c5] t)) w.heap.size g s L v5 c5 v6 c6 zo za t :=
  ⟨nats_alloc (nats_apart h5 hb _ _) _, nats_alloc (nats_apart h6 hb _ _) _, Blk.new' _ _ _ (set2_size _ _ _ _ _).symm, (blk_put hb _ _).alloc _, ((k.setNew hg _).setNew hg _).alloc _⟩
theorem lfC {g h : Nat} {s0 s1 : Int} {v0 v1 : Option Addr} {l0 c0 l1 c1 : Nat} (h5 : NatsAt w .u64 v5 zo) (h6 : NatsAt w .u64 v6 za) (k : Same w0 w) (hb : Blk w g #[.int .i64 s0, .slice v0 l0 c0] t) (hc : Blk w h #[.int .i64 s1, .slice v1 l1 c1] t) (hg : w0.heap.size ≤ g) (hh : w0.heap.size ≤ h) (hn : g ≠ h) :
    LF w0 ((((w.setCell ⟨g, 0, none⟩ (.int .i64 s)).setCell ⟨g, 1, none⟩ (.slice v5 L c5)).setCell ⟨h, 0, none⟩ (.int .i64 s)).setCell ⟨h, 1, none⟩ (.slice v6 L c6)) g h s L v5 c5 v6 c6 zo za t := by
  have hc' := blk_apart hc (fun q => hn q.symm) (.int .i64 s) (.slice v5 L c5)
  have hb' := blk_put hb (.int .i64 s) (.slice v5 L c5)
  exact ⟨nats_apart (nats_apart h5 hb _ _) hc' _ _, nats_apart (nats_apart h6 hb _ _) hc' _ _, blk_apart hb' hn _ _, blk_put hc' _ _, (((k.setNew hg _).setNew hg _).setNew hh _).setNew hh _⟩
end

theorem bk_put (S : Nat) (a : Option Addr) (c : Nat) (ws : List Nat) (w : World) (hw : Words ws) (hm : mapOK S ws = true) (hT : TabOK w) (hat : NatsAt w .u64 a ws) :
    Calls Tryd.prog 31 #[mapV S a ws.length c] w fun e w' => ∃ g cb, e = .returned (.tuple #[.slice (some ⟨g, 0, none⟩) (putMap S ws).length cb, .int .i64 0]) ∧ (putMap S ws).length ≤ cb ∧ cb ≤ maxLen ∧ NatsAt w' .u8 (some ⟨g, 0, none⟩) (putMap S ws) ∧ Same w w' := by
  refine (bm_put S a c ws w hw hT hat).mono ?_
  rintro e w' ⟨v, rfl, ho, k⟩
  rw [hm, if_pos rfl, Int.toNat_natCast] at ho
  have hp : 1 ≤ (putMap S ws).length := by unfold putMap; have := putSmall_pos S; rw [List.length_append]; omega
  rcases ho.2 with ⟨rfl, h0⟩ | ⟨g, cap, cur, rfl, _⟩
  · simp at h0; rw [h0] at hp; simp at hp
  · have hl := ho.len
    exact ⟨g, cap, by simp [hm], hl.2.1, hl.2.2, ho.nats, k⟩
theorem bk_get (S : Nat) (a : Option Addr) (l c : Nat) (ws : List Nat) (w : World) (hl : l = (putMap S ws).length) (hlen : (putMap S ws).length ≤ 100000) (hw : Words ws) (hm : mapOK S ws = true) (hat : NatsAt w .u8 a (putMap S ws)) (hnil : a = none → putMap S ws = []) (hT : TabOK w) :
    Calls Tryd.prog 33 #[.slice a l c] w fun e w' => ∃ v cx, e = .returned (.tuple #[mapV S v ws.length cx, .int .i64 0]) ∧ NatsAt w' .u64 v ws ∧ Same w w' := by
  refine (bm_get a l c _ w hl (putMap_bytes _ _) hlen hat hnil hT).mono ?_
  rintro e w' ⟨r, hr, k, h⟩
  have : r = some (S, ws) := get_one hr ⟨hm, hw, rfl⟩
  subst this
  obtain ⟨v, cx, rfl, h1, _⟩ := h
  exact ⟨v, cx, rfl, h1, k⟩
theorem bk_none (a : Option Addr) (l c : Nat) (b : List Nat) (w : World) (hl : l = b.length) (hb : Bytes b) (hlen : b.length ≤ 100000) (hn : GetSpec b none) (hat : NatsAt w .u8 a b) (hnil : a = none → b = []) (hT : TabOK w) :
    Calls Tryd.prog 33 #[.slice a l c] w fun e w' => e = .returned (.tuple #[mapV 0 none 0 0, .int .i64 4]) ∧ Same w w' := by
  refine (bm_get a l c b w hl hb hlen hat hnil hT).mono ?_
  rintro e w' ⟨r, hr, k, h⟩
  have : r = none := get_one hr hn
  subst this
  exact ⟨h, k⟩

theorem nats_take {w : World} {k : IntKind} {a : Option Addr} {xs : List Nat} (h : NatsAt w k a xs) (n : Nat) : NatsAt w k a (xs.take n) := by
  rcases h with rfl | ⟨b, off, rfl, hb, hc⟩
  · exact .inl (by simp)
  · refine .inr ⟨b, off, rfl, hb, fun i x hx => hc i x ?_⟩
    rw [List.getElem?_take] at hx
    split at hx
    · exact hx
    · cases hx
/-- A mix of two maps of one size. -/
theorem bk_either (S : Nat) (a b : Option Addr) (ca cb L : Nat) (xs ys : List Nat) (w : World) (hx : Words xs) (hy : Words ys) (h1 : mapOK S xs = true) (h2 : mapOK S ys = true) (hL : L = (S + 63) / 64) (h3 : NatsAt w .u64 a xs) (h4 : NatsAt w .u64 b ys) :
    Calls Tryd.prog 28 #[mapV S a L ca, mapV S b L cb] w fun e w' => ∃ v c, e = .returned (mapV S v L c) ∧ L ≤ c ∧ NatsAt w' .u64 v (mixK (· ||| ·) xs ys ((S + 63) / 64) ((S + 63) / 64)) ∧ Same w w' := by
  have l1 := ((mapOK_iff hx).1 h1).2.1
  have l2 := ((mapOK_iff hy).1 h2).2.1
  have C := bm_either S S a b ca cb xs ys w hx hy h3 h4
  rw [mixS_one h1 h2, mixW_one _ h1 h2, l1, l2, ← hL] at C
  refine C.mono ?_
  rintro e w' ⟨v, c, rfl, ho, k⟩
  obtain ⟨a', c'', e1, hc, _, _, hat, _⟩ := ho.read
  rw [mixK_len] at *
  simp only [Value.slice.injEq] at e1
  obtain ⟨rfl, _, rfl⟩ := e1
  rw [hL] at *
  exact ⟨_, _, rfl, hc, hat, k⟩
theorem bk_both (S : Nat) (a b : Option Addr) (ca cb L : Nat) (xs ys : List Nat) (w : World) (hx : Words xs) (hy : Words ys) (h1 : mapOK S xs = true) (h2 : mapOK S ys = true) (hL : L = (S + 63) / 64) (h3 : NatsAt w .u64 a xs) (h4 : NatsAt w .u64 b ys) :
    Calls Tryd.prog 26 #[mapV S a L ca, mapV S b L cb] w fun e w' => ∃ v c, e = .returned (mapV S v L c) ∧ L ≤ c ∧ NatsAt w' .u64 v (mixK (· &&& ·) xs ys ((S + 63) / 64) ((S + 63) / 64)) ∧ Same w w' := by
  have l1 := ((mapOK_iff hx).1 h1).2.1
  have l2 := ((mapOK_iff hy).1 h2).2.1
  have C := bm_both S S a b ca cb xs ys w hx hy h3 h4
  rw [mixS_one h1 h2, mixW_one _ h1 h2, l1, l2, ← hL] at C
  refine C.mono ?_
  rintro e w' ⟨v, c, rfl, ho, k⟩
  obtain ⟨a', c'', e1, hc, _, _, hat, _⟩ := ho.read
  rw [mixK_len] at *
  simp only [Value.slice.injEq] at e1
  obtain ⟨rfl, _, rfl⟩ := e1
  rw [hL] at *
  exact ⟨_, _, rfl, hc, hat, k⟩

set_option maxRecDepth 100000 in
set_option maxHeartbeats 4000000 in
theorem back_true (S : Nat) (hS : S ≤ 255) (p q : Option Addr) (ll cl lo co : Nat) (xs ys : List Nat) (w : World) (hll : ll = xs.length) (hlo : lo = ys.length) (hx : Bytes xs) (hy : Bytes ys) (hat : NatsAt w .u8 p xs) (hbt : NatsAt w .u8 q ys) (hT : TabOK w) :
    Calls Tryd.prog 8 #[.int .u8 (S : Nat), .slice p ll cl, .slice q lo co] w fun e w' => e = .returned (.bool true) ∧ Same w w' := by
  have M1 := Lib.hid (made_any S hS p ll cl xs w hll hx hat)
  have M2 := Lib.hid fun w' h => made_any S hS q lo co ys w' hlo hy (hbt.same h)
  have AW := Lib.hid fun w' h => awake_true w' h
  have TT := Lib.hid hT
  clear hat hbt hT hx hy hll hlo
  go_enter Tryd.func8, Tryd.ntmps8
  go_wp2_with fail
  refine M1.out.mono ?_
  rintro e w2 ⟨g, c, ws, rfl, hc, hw, hm, hl, hn, k⟩
  have X1 := Lib.hid hn
  have K := Lib.hid k
  have F : Hid (Fr w2 []) := trivial
  clear hn k M1
  obtain ⟨L, hL⟩ : ∃ L, (S + 63) / 64 = L := ⟨_, rfl⟩
  rw [hL] at hc hl ⊢
  go_wp2_with fail
  have F' := Lib.hid (show Fr (w2.alloc (.cells #[.int .i64 (S : Nat), .slice (some ⟨g, 0, none⟩) L c] 27)) ((w2.heap.size, #[.int .i64 (S : Nat), .slice (some ⟨g, 0, none⟩) L c], 27) :: []) from ⟨Blk.new w2 _ _, F.out.same ((Kept.refl _ w2).alloc _)⟩)
  have K' := Lib.hid (K.out.alloc (.cells #[.int .i64 (S : Nat), .slice (some ⟨g, 0, none⟩) L c] 27))
  have KN := (Kept.refl (fun _ => False) w2).alloc (.cells #[.int .i64 (S : Nat), .slice (some ⟨g, 0, none⟩) L c] 27)
  (try (have X1' := Lib.hid (X1.out.same KN); clear X1; have X1 := X1'; clear X1'))
  (try (have X2' := Lib.hid (X2.out.same KN); clear X2; have X2 := X2'; clear X2'))
  (try (have X3' := Lib.hid (X3.out.same KN); clear X3; have X3 := X3'; clear X3'))
  (try (have X4' := Lib.hid (X4.out.same KN); clear X4; have X4 := X4'; clear X4'))
  (try (have X5' := Lib.hid (X5.out.same KN); clear X5; have X5 := X5'; clear X5'))
  (try (have X6' := Lib.hid (X6.out.same KN); clear X6; have X6 := X6'; clear X6'))
  clear F K KN; have F := F'; have K := K'; clear F' K'
  generalize w2.alloc (.cells #[.int .i64 (S : Nat), .slice (some ⟨g, 0, none⟩) L c] 27) = w3 at *
  obtain ⟨p0, f0, -⟩ := F.out.rules; have z0 := F.out.1.lt
  refine (M2.out _ K.out).mono ?_
  rintro e w4 ⟨g2, c2, us, rfl, hc2, hw2, hm2, hl2, hn2, k⟩
  rw [hL] at hc2 hl2
  (try (have X1' := Lib.hid (X1.out.same k); clear X1; have X1 := X1'; clear X1'))
  (try (have X2' := Lib.hid (X2.out.same k); clear X2; have X2 := X2'; clear X2'))
  (try (have X3' := Lib.hid (X3.out.same k); clear X3; have X3 := X3'; clear X3'))
  (try (have X4' := Lib.hid (X4.out.same k); clear X4; have X4 := X4'; clear X4'))
  (try (have X5' := Lib.hid (X5.out.same k); clear X5; have X5 := X5'; clear X5'))
  (try (have X6' := Lib.hid (X6.out.same k); clear X6; have X6 := X6'; clear X6'))
  have X2 := Lib.hid hn2
  have K' := Lib.hid (K.out.trans k); have F' := Lib.hid (F.out.same k); clear K F p0 f0 z0 k; have K := K'; have F := F'; clear K' F'; obtain ⟨p0, f0, -⟩ := F.out.rules; have z0 := F.out.1.lt
  clear hn2 M2
  simp only [hL]
  go_wp2_with fail
  have F' := Lib.hid (show Fr (w4.alloc (.cells #[.int .i64 (S : Nat), .slice (some ⟨g2, 0, none⟩) L c2] 27)) ((w4.heap.size, #[.int .i64 (S : Nat), .slice (some ⟨g2, 0, none⟩) L c2], 27) :: [(w2.heap.size, #[.int .i64 (S : Nat), .slice (some ⟨g, 0, none⟩) L c], 27)]) from ⟨Blk.new w4 _ _, F.out.same ((Kept.refl _ w4).alloc _)⟩)
  have K' := Lib.hid (K.out.alloc (.cells #[.int .i64 (S : Nat), .slice (some ⟨g2, 0, none⟩) L c2] 27))
  have KN := (Kept.refl (fun _ => False) w4).alloc (.cells #[.int .i64 (S : Nat), .slice (some ⟨g2, 0, none⟩) L c2] 27)
  (try (have X1' := Lib.hid (X1.out.same KN); clear X1; have X1 := X1'; clear X1'))
  (try (have X2' := Lib.hid (X2.out.same KN); clear X2; have X2 := X2'; clear X2'))
  (try (have X3' := Lib.hid (X3.out.same KN); clear X3; have X3 := X3'; clear X3'))
  (try (have X4' := Lib.hid (X4.out.same KN); clear X4; have X4 := X4'; clear X4'))
  (try (have X5' := Lib.hid (X5.out.same KN); clear X5; have X5 := X5'; clear X5'))
  (try (have X6' := Lib.hid (X6.out.same KN); clear X6; have X6 := X6'; clear X6'))
  clear F K KN; have F := F'; have K := K'; clear F' K'
  generalize w4.alloc (.cells #[.int .i64 (S : Nat), .slice (some ⟨g2, 0, none⟩) L c2] 27) = w5 at *
  clear p0 f0 z0
  obtain ⟨p0, f0, p1, f1, -⟩ := F.out.rules; have z0 := F.out.1.lt; have z1 := F.out.2.1.lt
  have PU := Lib.hid fun a cx w' h1 h2 => bk_put S a cx ws w' hw hm h1 h2
  rw [hl] at PU
  have hlen : (putMap S ws).length ≤ 9 * (S + 2) := by
    have := putSmall_len S
    have := putRuns_len (runsL S ws)
    have := runsL_len S ws
    unfold putMap
    rw [List.length_append]
    omega
  have hpos : 1 ≤ (putMap S ws).length := by unfold putMap; have := putSmall_pos S; rw [List.length_append]; omega
  have GE := Lib.hid fun a l cx w' h1 h2 h3 h4 => bk_get S a l cx ws w' h1 (by omega) hw hm h2 h3 h4
  rw [hl] at GE
  have GM := got_more hm
  have GL := got_less hm
  have BB : Bytes (putMap S ws) := putMap_bytes _ _
  obtain ⟨bs, hbs⟩ : ∃ bs, putMap S ws = bs := ⟨_, rfl⟩
  rw [hbs] at PU GE GM GL hlen hpos BB
  have GM := Lib.hid fun a l cx w' h1 h2 h3 h4 => bk_none a l cx (bs ++ [1, 1]) w' h1 (by intro x hx; rcases List.mem_append.1 hx with h | h; exact BB x h; simp at h; omega) (by simp; omega) GM h2 h3 h4
  have GL := Lib.hid fun a l cx w' h1 h2 h3 h4 => bk_none a l cx (bs.take (bs.length - 1)) w' h1 (fun x hx => BB x (List.mem_of_mem_take hx)) (by simp; omega) GL h2 h3 h4
  obtain ⟨lb, hlb⟩ : ∃ lb, bs.length = lb := ⟨_, rfl⟩
  rw [hlb] at PU hlen hpos GL
  have HLB := Lib.hid hlb
  clear hbs hlb BB
  have hlb0 : ¬ lb = 0 := by omega
  have hlb0' : ¬ (lb : Int) = 0 := by omega
  go_wp2_with fail
  refine (PU.out _ _ _ (TT.out.same K.out) X1.out).mono ?_
  rintro e w6 ⟨gb, cb, rfl, hcb, hcm, hn3, k⟩
  (try (have X1' := Lib.hid (X1.out.same k); clear X1; have X1 := X1'; clear X1'))
  (try (have X2' := Lib.hid (X2.out.same k); clear X2; have X2 := X2'; clear X2'))
  (try (have X3' := Lib.hid (X3.out.same k); clear X3; have X3 := X3'; clear X3'))
  (try (have X4' := Lib.hid (X4.out.same k); clear X4; have X4 := X4'; clear X4'))
  (try (have X5' := Lib.hid (X5.out.same k); clear X5; have X5 := X5'; clear X5'))
  (try (have X6' := Lib.hid (X6.out.same k); clear X6; have X6 := X6'; clear X6'))
  have X3 := Lib.hid hn3
  clear hn3
  have K' := Lib.hid (K.out.trans k); have F' := Lib.hid (F.out.same k); clear K F p0 f0 z0 p1 f1 z1 k; have K := K'; have F := F'; clear K' F'; obtain ⟨p0, f0, p1, f1, -⟩ := F.out.rules; have z0 := F.out.1.lt; have z1 := F.out.2.1.lt
  go_wp2_with fail
  refine (GE.out _ _ _ _ HLB.out.symm X3.out (fun h => by cases h) (TT.out.same K.out)).mono ?_
  rintro e w7 ⟨vx, cx, rfl, hn4, k⟩
  (try (have X1' := Lib.hid (X1.out.same k); clear X1; have X1 := X1'; clear X1'))
  (try (have X2' := Lib.hid (X2.out.same k); clear X2; have X2 := X2'; clear X2'))
  (try (have X3' := Lib.hid (X3.out.same k); clear X3; have X3 := X3'; clear X3'))
  (try (have X4' := Lib.hid (X4.out.same k); clear X4; have X4 := X4'; clear X4'))
  (try (have X5' := Lib.hid (X5.out.same k); clear X5; have X5 := X5'; clear X5'))
  (try (have X6' := Lib.hid (X6.out.same k); clear X6; have X6 := X6'; clear X6'))
  have X4 := Lib.hid hn4
  clear hn4
  have K' := Lib.hid (K.out.trans k); have F' := Lib.hid (F.out.same k); clear K F p0 f0 z0 p1 f1 z1 k; have K := K'; have F := F'; clear K' F'; obtain ⟨p0, f0, p1, f1, -⟩ := F.out.rules; have z0 := F.out.1.lt; have z1 := F.out.2.1.lt
  have KB := (Kept.refl (fun _ => False) w7).alloc (.cells #[.int .i64 (S : Nat), .slice vx L cx] 27)
  have KA := (Kept.refl (fun _ => False) (w7.alloc (.cells #[.int .i64 (S : Nat), .slice vx L cx] 27))).alloc (.cells #[] 5)
  obtain ⟨v8, w8, hrun8, h8, g8, -⟩ := app_facts (P := Tryd.prog) ((w7.alloc (.cells #[.int .i64 (S : Nat), .slice vx L cx] 27)).alloc (.cells #[] 5)) 52 52 (w7.heap.size + 1) 5 .u8 1 Tryd.underlying52 info8 (by omega) (.slice (some ⟨w7.heap.size + 1, 0, none⟩) 0 0) [] (OwnN.blk (Blk.new' _ _ _ (by simp)) rfl (Nat.le_refl _) (by simp [maxLen])) (some ⟨gb, 0, none⟩) lb cb bs HLB.out.symm ((X3.out.same KB).same KA) (fun h => by cases h) (by have e := HLB.out; show (0 + bs.length) * 1 ≤ _; rw [e]; omega) (by simp)
  obtain ⟨a8, l8, c8, rfl, hl8, hn8, ha8, hc8⟩ := h8.rd
  obtain ⟨aok8, aV8, aW8⟩ := app_of hrun8
  have k8 : Same (w7.alloc (.cells #[.int .i64 (S : Nat), .slice vx L cx] 27)) w8 := Kept.grownNew KA g8 (by intro k hk; cases hk; simp)
  have z8 : w7.heap.size + 1 ≤ w8.heap.size := by have := k8.size; simp at this; omega
  obtain ⟨v9, w9, hrun9, h9, g9, -⟩ := app_facts (P := Tryd.prog) (w8.alloc (.cells #[.int .u8 1, .int .u8 1] 5)) 52 52 (w7.heap.size + 1) 5 .u8 1 Tryd.underlying52 info8 (by omega) (.slice a8 l8 c8) ([] ++ bs) (h8.same ((Kept.refl (fun _ => False) w8).alloc _)) (some ⟨w8.heap.size, 0, none⟩) 2 2 [1, 1] rfl (OwnN.nats (OwnN.blk (base := 0) (Blk.new' _ _ _ (by simp)) rfl (Nat.zero_le _) (by simp [maxLen]))) (fun h => by cases h) (by have e := HLB.out; show ((([] : List Nat) ++ bs).length + 2) * 1 ≤ _; rw [List.nil_append, e]; omega) (by simp; omega)
  obtain ⟨a9, l9, c9, rfl, hl9, hn9, ha9, hc9⟩ := h9.rd
  obtain ⟨aok9, aV9, aW9⟩ := app_of hrun9
  have k9 : Same (w7.alloc (.cells #[.int .i64 (S : Nat), .slice vx L cx] 27)) w9 := Kept.grownNew (k8.alloc _) g9 (fun g hg => by have := (World.ownsRow.lt h8 g hg).1; simp; omega)
  have hnil9 : a9 = none → bs ++ [1, 1] = [] := fun h => by
    subst h
    rcases ha9.out with e | ⟨_, _, e, _⟩
    · exact e
    · cases e
  have NI := Lib.hid hnil9
  clear h9 h8 hrun8 hrun9 g8 g9 KA hl8 hn8 ha8 hc8 hn9 hc9 hnil9
  go_wp2_with fail
  refine (GM.out a9 l9 c9 w9 hl9.out ha9.out NI.out (TT.out.same ((K.out.trans KB).trans k9))).mono ?_
  rintro e w10 ⟨rfl, k⟩
  have F' := Lib.hid (show Fr w10 [(w7.heap.size, #[.int .i64 (S : Nat), .slice vx L cx], 27), (w4.heap.size, #[.int .i64 (S : Nat), .slice (some ⟨g2, 0, none⟩) L c2], 27), (w2.heap.size, #[.int .i64 (S : Nat), .slice (some ⟨g, 0, none⟩) L c], 27)] from
    ⟨(Blk.new w7 _ _).kept (k9.trans k) (fun h => h), (F.out.same KB).same (k9.trans k)⟩)
  have K' := Lib.hid ((K.out.trans KB).trans (k9.trans k))
  have KK := KB.trans (k9.trans k)
  (try (have X1' := Lib.hid (X1.out.same KK); clear X1; have X1 := X1'; clear X1'))
  (try (have X2' := Lib.hid (X2.out.same KK); clear X2; have X2 := X2'; clear X2'))
  (try (have X3' := Lib.hid (X3.out.same KK); clear X3; have X3 := X3'; clear X3'))
  (try (have X4' := Lib.hid (X4.out.same KK); clear X4; have X4 := X4'; clear X4'))
  (try (have X5' := Lib.hid (X5.out.same KK); clear X5; have X5 := X5'; clear X5'))
  (try (have X6' := Lib.hid (X6.out.same KK); clear X6; have X6 := X6'; clear X6'))
  clear F K KB KK k9 k8 k z8 aok8 aV8 aW8 aok9 aV9 aW9 hl9 ha9 NI GM GE PU p0 f0 z0 p1 f1 z1
  have F := F'; have K := K'; clear F' K'
  obtain ⟨p0, f0, p1, f1, p2, f2, -⟩ := F.out.rules; have z0 := F.out.1.lt; have z1 := F.out.2.1.lt; have z2 := F.out.2.2.1.lt
  go_wp2_with fail
  clear p0 f0 z0 p1 f1 z1 p2 f2 z2
  have F' := Lib.hid (show Fr (w10.alloc (.cells #[.int .i64 0, .slice none 0 0] 27)) ((w10.heap.size, #[.int .i64 0, .slice none 0 0], 27) :: [(w7.heap.size, #[.int .i64 (S : Nat), .slice vx L cx], 27), (w4.heap.size, #[.int .i64 (S : Nat), .slice (some ⟨g2, 0, none⟩) L c2], 27), (w2.heap.size, #[.int .i64 (S : Nat), .slice (some ⟨g, 0, none⟩) L c], 27)]) from ⟨Blk.new w10 _ _, F.out.same ((Kept.refl _ w10).alloc _)⟩)
  have K' := Lib.hid (K.out.alloc (.cells #[.int .i64 0, .slice none 0 0] 27))
  have KN := (Kept.refl (fun _ => False) w10).alloc (.cells #[.int .i64 0, .slice none 0 0] 27)
  (try (have X1' := Lib.hid (X1.out.same KN); clear X1; have X1 := X1'; clear X1'))
  (try (have X2' := Lib.hid (X2.out.same KN); clear X2; have X2 := X2'; clear X2'))
  (try (have X3' := Lib.hid (X3.out.same KN); clear X3; have X3 := X3'; clear X3'))
  (try (have X4' := Lib.hid (X4.out.same KN); clear X4; have X4 := X4'; clear X4'))
  (try (have X5' := Lib.hid (X5.out.same KN); clear X5; have X5 := X5'; clear X5'))
  (try (have X6' := Lib.hid (X6.out.same KN); clear X6; have X6 := X6'; clear X6'))
  clear F K KN; have F := F'; have K := K'; clear F' K'
  generalize w10.alloc (.cells #[.int .i64 0, .slice none 0 0] 27) = w11 at *
  refine (GL.out _ _ _ _ (by rw [List.length_take, HLB.out]; omega) (nats_take X3.out _) (fun h => by cases h) (TT.out.same K.out)).mono ?_
  rintro e w12 ⟨rfl, k⟩
  have F' := Lib.hid (F.out.2.same k)
  have K' := Lib.hid (K.out.trans k)
  (try (have X1' := Lib.hid (X1.out.same k); clear X1; have X1 := X1'; clear X1'))
  (try (have X2' := Lib.hid (X2.out.same k); clear X2; have X2 := X2'; clear X2'))
  (try (have X3' := Lib.hid (X3.out.same k); clear X3; have X3 := X3'; clear X3'))
  (try (have X4' := Lib.hid (X4.out.same k); clear X4; have X4 := X4'; clear X4'))
  (try (have X5' := Lib.hid (X5.out.same k); clear X5; have X5 := X5'; clear X5'))
  (try (have X6' := Lib.hid (X6.out.same k); clear X6; have X6 := X6'; clear X6'))
  clear F K k GL
  have F := F'; have K := K'; clear F' K'
  obtain ⟨p0, f0, p1, f1, p2, f2, -⟩ := F.out.rules; have z0 := F.out.1.lt; have z1 := F.out.2.1.lt; have z2 := F.out.2.2.1.lt
  go_wp2_with fail
  clear p0 f0 z0 p1 f1 z1 p2 f2 z2 X3
  have F' := Lib.hid (show Fr (w12.alloc (.cells #[.int .i64 0, .slice none 0 0] 27)) ((w12.heap.size, #[.int .i64 0, .slice none 0 0], 27) :: [(w7.heap.size, #[.int .i64 (S : Nat), .slice vx L cx], 27), (w4.heap.size, #[.int .i64 (S : Nat), .slice (some ⟨g2, 0, none⟩) L c2], 27), (w2.heap.size, #[.int .i64 (S : Nat), .slice (some ⟨g, 0, none⟩) L c], 27)]) from ⟨Blk.new w12 _ _, F.out.same ((Kept.refl _ w12).alloc _)⟩)
  have K' := Lib.hid (K.out.alloc (.cells #[.int .i64 0, .slice none 0 0] 27))
  have KN := (Kept.refl (fun _ => False) w12).alloc (.cells #[.int .i64 0, .slice none 0 0] 27)
  (try (have X1' := Lib.hid (X1.out.same KN); clear X1; have X1 := X1'; clear X1'))
  (try (have X2' := Lib.hid (X2.out.same KN); clear X2; have X2 := X2'; clear X2'))
  (try (have X3' := Lib.hid (X3.out.same KN); clear X3; have X3 := X3'; clear X3'))
  (try (have X4' := Lib.hid (X4.out.same KN); clear X4; have X4 := X4'; clear X4'))
  (try (have X5' := Lib.hid (X5.out.same KN); clear X5; have X5 := X5'; clear X5'))
  (try (have X6' := Lib.hid (X6.out.same KN); clear X6; have X6 := X6'; clear X6'))
  clear F K KN; have F := F'; have K := K'; clear F' K'
  generalize w12.alloc (.cells #[.int .i64 0, .slice none 0 0] 27) = w13 at *
  have F' := Lib.hid F.out.2
  clear F HLB hlb0 hlb0' hcb hcm hlen hpos
  have F := F'; clear F'
  obtain ⟨zo, hzo⟩ : ∃ zo, mixK (· ||| ·) ws us ((S + 63) / 64) ((S + 63) / 64) = zo := ⟨_, rfl⟩
  obtain ⟨za, hza⟩ : ∃ za, mixK (· &&& ·) ws us ((S + 63) / 64) ((S + 63) / 64) = za := ⟨_, rfl⟩
  have EI := Lib.hid fun w' h1 h2 => bk_either S (some ⟨g, 0, none⟩) (some ⟨g2, 0, none⟩) c c2 L ws us w' hw hw2 hm hm2 hL.symm h1 h2
  have BO := Lib.hid fun w' h1 h2 => bk_both S (some ⟨g, 0, none⟩) (some ⟨g2, 0, none⟩) c c2 L ws us w' hw hw2 hm hm2 hL.symm h1 h2
  rw [hzo] at EI
  rw [hza] at BO
  have QQ : Hid (∀ w', Same w13 w' → ((∀ i, w'.cell? ⟨w4.heap.size, i, none⟩ = (#[Value.int .i64 (S : Nat), .slice (some ⟨g2, 0, none⟩) L c2] : Array Value)[i]?) ∧ (∀ i, w'.cell? ⟨w2.heap.size, i, none⟩ = (#[Value.int .i64 (S : Nat), .slice (some ⟨g, 0, none⟩) L c] : Array Value)[i]?))) := by
    intro w' k
    obtain ⟨_, _, r1, _, r2, _⟩ := (F.out.same k).rules
    exact ⟨r1, r2⟩
  have KN := Lib.hid (Kept.refl (fun _ => False) w13)
  go_wp2_with fail
  refine region_via (fun b1 b2 v5 c5 v6 c6 a => (((((((a.put (some 77) (mapV S (some ⟨g, 0, none⟩) L c)).put (some 78) (mapV S (some ⟨g2, 0, none⟩) L c2)).put (some 79) (mapV S v5 L c5)).put (some 80) (mapV S (some ⟨g, 0, none⟩) L c)).put (some 81) (mapV S (some ⟨g2, 0, none⟩) L c2)).put (some 82) (mapV S v6 L c6)).put (some 19) (.pointer (some ⟨b1, 0, none⟩))).put (some 20) (.pointer (some ⟨b2, 0, none⟩)))
    (fun b1 b2 v5 c5 v6 c6 w' => Hid (L ≤ c5) ∧ Hid (L ≤ c6) ∧ Hid (LF w13 w' b1 b2 (S : Nat) L v5 c5 v6 c6 zo za 27)) ?via ?rest
  case rest =>
    intro b1 b2 v5 c5 v6 c6 w14 ⟨hc5, hc6, HF⟩
    obtain ⟨n5, n6, B1, B2, k14⟩ := HF.out
    have l1 := ((mapOK_iff hw).1 hm).2.1
    have l2 := ((mapOK_iff hw2).1 hm2).2.1
    have wo : Words zo := by rw [← hzo]; exact or_words hw hw2 _
    have wa : Words za := by rw [← hza]; exact and_words hw hw2 _
    have oo : mapOK S zo = true := by rw [← hzo]; exact or_ok hw hw2 hm hm2
    have oa : mapOK S za = true := by rw [← hza]; exact and_ok hw hw2 hm hm2
    have lo' : zo.length = L := by rw [← hzo, mixK_len, hL]
    have la' : za.length = L := by rw [← hza, mixK_len, hL]
    have c5L := hc5.out; have c6L := hc6.out
    have lo2 : zo.length ≤ 5 := by rw [← hzo, mixK_len]; omega
    have la2 : za.length ≤ 5 := by rw [← hza, mixK_len]; omega
    have hsum : cnt zo S + cnt za S = cnt ws S + cnt us S := by rw [← hzo, ← hza]; exact cnt_mix _ _ _ _ (by omega)
    have i1 := cnt_le zo S; have i2 := cnt_le za S; have i3 := cnt_le ws S; have i4 := cnt_le us S
    have U1 := Lib.hid fun w' h => (bm_rank (S : Nat) v5 c5 zo (S : Nat) w' wo (by omega) h)
    have U2 := Lib.hid fun w' h => (bm_rank (S : Nat) v6 c6 za (S : Nat) w' wa (by omega) h)
    have U3 := Lib.hid fun w' h => (bm_rank (S : Nat) (some ⟨g, 0, none⟩) c ws (S : Nat) w' hw (by omega) h)
    have U4 := Lib.hid fun w' h => (bm_rank (S : Nat) (some ⟨g2, 0, none⟩) c2 us (S : Nat) w' hw2 (by omega) h)
    rw [rankN_at oo (Nat.le_refl S), lo'] at U1
    rw [rankN_at oa (Nat.le_refl S), la'] at U2
    rw [rankN_at hm (Nat.le_refl S), hl] at U3
    rw [rankN_at hm2 (Nat.le_refl S), hl2] at U4
    have SW := Lib.hid fun a b ca cb w' h1 h2 => (bm_same S S a b ca cb ws ws w' (by omega) h1 h2).mono (R' := fun e w'' => e = .returned (.bool true) ∧ Same w' w'') fun _ _ h => ⟨by rw [h.1, show sameB S S ws ws = true from by simp [sameB]], h.2⟩
    rw [hl] at SW
    have BB := Lib.hid fun w' h1 h2 => bk_both S v5 (some ⟨g, 0, none⟩) c5 c L zo ws w' wo hw oo hm hL.symm h1 h2
    have EE := Lib.hid fun w' h1 h2 => bk_either S v6 (some ⟨g, 0, none⟩) c6 c L za ws w' wa hw oa hm hL.symm h1 h2
    rw [show mixK (· &&& ·) zo ws ((S + 63) / 64) ((S + 63) / 64) = ws from by rw [← hzo]; exact and_or hw hw2 hm] at BB
    rw [show mixK (· ||| ·) za ws ((S + 63) / 64) ((S + 63) / 64) = ws from by rw [← hza]; exact or_and hw hw2 hm] at EE
    have LI := Lib.hid fun w' => rb_light (S : Nat) (some ⟨g, 0, none⟩) L c w'
    rw [decide_eq_true (show L ≤ 8 from by omega)] at LI
    have F' := Lib.hid (show Fr w14 [(b1, #[.int .i64 (S : Nat), .slice v5 L c5], 27), (b2, #[.int .i64 (S : Nat), .slice v6 L c6], 27), (w7.heap.size, #[.int .i64 (S : Nat), .slice vx L cx], 27), (w4.heap.size, #[.int .i64 (S : Nat), .slice (some ⟨g2, 0, none⟩) L c2], 27), (w2.heap.size, #[.int .i64 (S : Nat), .slice (some ⟨g, 0, none⟩) L c], 27)] from ⟨B1, B2, F.out.same k14⟩)
    have Z1 := Lib.hid (X1.out.same k14); have Z2 := Lib.hid (X2.out.same k14); have Z4 := Lib.hid (X4.out.same k14)
    have Z5 := Lib.hid n5; have Z6 := Lib.hid n6
    have KK := Lib.hid (K.out.trans k14)
    have TK := Lib.hid (TT.out.same KK.out)
    obtain ⟨A1, hA1⟩ : ∃ A, cnt zo S = A := ⟨_, rfl⟩
    obtain ⟨A2, hA2⟩ : ∃ A, cnt za S = A := ⟨_, rfl⟩
    obtain ⟨A3, hA3⟩ : ∃ A, cnt ws S = A := ⟨_, rfl⟩
    obtain ⟨A4, hA4⟩ : ∃ A, cnt us S = A := ⟨_, rfl⟩
    rw [hA1] at U1 i1 hsum; rw [hA2] at U2 i2 hsum; rw [hA3] at U3 i3 hsum; rw [hA4] at U4 i4 hsum
    have cS : IntKind.i64.wrap (S : Int) = (S : Int) := IntWalk.i64_in _ (by omega)
    obtain ⟨T, hT⟩ : ∃ T : Int, IntKind.i64.wrap ((A1 : Int) + (A2 : Int)) = T := ⟨_, rfl⟩
    have hT2 : IntKind.i64.wrap ((A3 : Int) + (A4 : Int)) = T := by rw [← hT]; congr 1; omega
    have HT := Lib.hid hT; have HT2 := Lib.hid hT2
    have QQ2 : Hid (∀ w', Same w14 w' → ((∀ i, w'.cell? ⟨b1, i, none⟩ = (#[Value.int .i64 (S : Nat), .slice v5 L c5] : Array Value)[i]?) ∧ (∀ i, w'.cell? ⟨b2, i, none⟩ = (#[Value.int .i64 (S : Nat), .slice v6 L c6] : Array Value)[i]?) ∧ (∀ i, w'.cell? ⟨w7.heap.size, i, none⟩ = (#[Value.int .i64 (S : Nat), .slice vx L cx] : Array Value)[i]?) ∧ (∀ i, w'.cell? ⟨w4.heap.size, i, none⟩ = (#[Value.int .i64 (S : Nat), .slice (some ⟨g2, 0, none⟩) L c2] : Array Value)[i]?) ∧ (∀ i, w'.cell? ⟨w2.heap.size, i, none⟩ = (#[Value.int .i64 (S : Nat), .slice (some ⟨g, 0, none⟩) L c] : Array Value)[i]?))) := by
      intro w' k
      obtain ⟨r0, _, r1, _, r2, _, r3, _, r4, _⟩ := (F'.out.same k).rules
      exact ⟨r0, r1, r2, r3, r4⟩
    clear lo2 la2 c5L c6L F F' K KN QQ EI BO X1 X2 X4 TT HF n5 n6 B1 B2 k14 l1 l2 wo wa oo oa lo' la' hsum i1 i2 i3 i4 hA1 hA2 hA3 hA4 hT hT2 hc hl hc2 hl2 hc5 hc6 hzo hza hw hw2 hm hm2 hL hS
    have KN := Lib.hid (Kept.refl (fun _ => False) w14)
    go_wp2_with fail
    go_region_held3 (fun w' => ((∀ i, w'.cell? ⟨b1, i, none⟩ = (#[Value.int .i64 (S : Nat), .slice v5 L c5] : Array Value)[i]?) ∧ (∀ i, w'.cell? ⟨b2, i, none⟩ = (#[Value.int .i64 (S : Nat), .slice v6 L c6] : Array Value)[i]?) ∧ (∀ i, w'.cell? ⟨w7.heap.size, i, none⟩ = (#[Value.int .i64 (S : Nat), .slice vx L cx] : Array Value)[i]?) ∧ (∀ i, w'.cell? ⟨w4.heap.size, i, none⟩ = (#[Value.int .i64 (S : Nat), .slice (some ⟨g2, 0, none⟩) L c2] : Array Value)[i]?) ∧ (∀ i, w'.cell? ⟨w2.heap.size, i, none⟩ = (#[Value.int .i64 (S : Nat), .slice (some ⟨g, 0, none⟩) L c] : Array Value)[i]?)))
      (first | exact QQ2.out _ KN.out | exact QQ2.out _ KN.out.drew)
      (first
        | (go_at_call 24; (with_reducible refine (U1.out _ (Z5.out.same (by first | exact KN.out | exact KN.out.drew))).mono ?_); rintro e w9 ⟨rfl, k⟩; (try (have Y1' := Lib.hid (Y1.out.same k); clear Y1; have Y1 := Y1'; clear Y1')); (try (have Y2' := Lib.hid (Y2.out.same k); clear Y2; have Y2 := Y2'; clear Y2')); have KN' := Lib.hid (Kept.trans (by first | exact KN.out | exact KN.out.drew) k); clear KN k; have KN := KN'; clear KN')
        | (go_at_call 24; (with_reducible refine (U2.out _ (Z6.out.same (by first | exact KN.out | exact KN.out.drew))).mono ?_); rintro e w9 ⟨rfl, k⟩; (try (have Y1' := Lib.hid (Y1.out.same k); clear Y1; have Y1 := Y1'; clear Y1')); (try (have Y2' := Lib.hid (Y2.out.same k); clear Y2; have Y2 := Y2'; clear Y2')); have KN' := Lib.hid (Kept.trans (by first | exact KN.out | exact KN.out.drew) k); clear KN k; have KN := KN'; clear KN'; have e1 := HT.out)
        | (go_at_call 24; (with_reducible refine (U3.out _ (Z1.out.same (by first | exact KN.out | exact KN.out.drew))).mono ?_); rintro e w9 ⟨rfl, k⟩; (try (have Y1' := Lib.hid (Y1.out.same k); clear Y1; have Y1 := Y1'; clear Y1')); (try (have Y2' := Lib.hid (Y2.out.same k); clear Y2; have Y2 := Y2'; clear Y2')); have KN' := Lib.hid (Kept.trans (by first | exact KN.out | exact KN.out.drew) k); clear KN k; have KN := KN'; clear KN')
        | (go_at_call 24; (with_reducible refine (U4.out _ (Z2.out.same (by first | exact KN.out | exact KN.out.drew))).mono ?_); rintro e w9 ⟨rfl, k⟩; (try (have Y1' := Lib.hid (Y1.out.same k); clear Y1; have Y1 := Y1'; clear Y1')); (try (have Y2' := Lib.hid (Y2.out.same k); clear Y2; have Y2 := Y2'; clear Y2')); have KN' := Lib.hid (Kept.trans (by first | exact KN.out | exact KN.out.drew) k); clear KN k; have KN := KN'; clear KN'; have e2 := HT2.out)
        | (go_at_call 26; refine (BB.out _ (Z5.out.same (by first | exact KN.out | exact KN.out.drew)) (Z1.out.same (by first | exact KN.out | exact KN.out.drew))).mono ?_; rintro e w9 ⟨y1, d1, rfl, _, hy, k⟩; (try (have Y1' := Lib.hid (Y1.out.same k); clear Y1; have Y1 := Y1'; clear Y1')); (try (have Y2' := Lib.hid (Y2.out.same k); clear Y2; have Y2 := Y2'; clear Y2')); have KN' := Lib.hid (Kept.trans (by first | exact KN.out | exact KN.out.drew) k); clear KN k; have KN := KN'; clear KN'; have Y1 := Lib.hid hy; clear hy)
        | (go_at_call 28; refine (EE.out _ (Z6.out.same (by first | exact KN.out | exact KN.out.drew)) (Z1.out.same (by first | exact KN.out | exact KN.out.drew))).mono ?_; rintro e w9 ⟨y2, d2, rfl, _, hy, k⟩; (try (have Y1' := Lib.hid (Y1.out.same k); clear Y1; have Y1 := Y1'; clear Y1')); (try (have Y2' := Lib.hid (Y2.out.same k); clear Y2; have Y2 := Y2'; clear Y2')); have KN' := Lib.hid (Kept.trans (by first | exact KN.out | exact KN.out.drew) k); clear KN k; have KN := KN'; clear KN'; have Y2 := Lib.hid hy; clear hy)
        | (go_at_call 30; (with_reducible refine (SW.out vx (some ⟨g, 0, none⟩) cx c _ (Z4.out.same (by first | exact KN.out | exact KN.out.drew)) (Z1.out.same (by first | exact KN.out | exact KN.out.drew))).mono ?_); rintro e w9 ⟨rfl, k⟩; (try (have Y1' := Lib.hid (Y1.out.same k); clear Y1; have Y1 := Y1'; clear Y1')); (try (have Y2' := Lib.hid (Y2.out.same k); clear Y2; have Y2 := Y2'; clear Y2')); have KN' := Lib.hid (Kept.trans (by first | exact KN.out | exact KN.out.drew) k); clear KN k; have KN := KN'; clear KN')
        | (go_at_call 30; (with_reducible refine (SW.out _ (some ⟨g, 0, none⟩) _ c _ Y2.out (Z1.out.same (by first | exact KN.out | exact KN.out.drew))).mono ?_); rintro e w9 ⟨rfl, k⟩; clear Y2; (try (have Y1' := Lib.hid (Y1.out.same k); clear Y1; have Y1 := Y1'; clear Y1')); (try (have Y2' := Lib.hid (Y2.out.same k); clear Y2; have Y2 := Y2'; clear Y2')); have KN' := Lib.hid (Kept.trans (by first | exact KN.out | exact KN.out.drew) k); clear KN k; have KN := KN'; clear KN')
        | (go_at_call 30; (with_reducible refine (SW.out _ (some ⟨g, 0, none⟩) _ c _ Y1.out (Z1.out.same (by first | exact KN.out | exact KN.out.drew))).mono ?_); rintro e w9 ⟨rfl, k⟩; clear Y1; (try (have Y1' := Lib.hid (Y1.out.same k); clear Y1; have Y1 := Y1'; clear Y1')); (try (have Y2' := Lib.hid (Y2.out.same k); clear Y2; have Y2 := Y2'; clear Y2')); have KN' := Lib.hid (Kept.trans (by first | exact KN.out | exact KN.out.drew) k); clear KN k; have KN := KN'; clear KN')
        | (go_at_call 9; refine (LI.out _).mono ?_; rintro e w9 ⟨rfl, k⟩; (try (have Y1' := Lib.hid (Y1.out.same k); clear Y1; have Y1 := Y1'; clear Y1')); (try (have Y2' := Lib.hid (Y2.out.same k); clear Y2; have Y2 := Y2'; clear Y2')); have KN' := Lib.hid (Kept.trans (by first | exact KN.out | exact KN.out.drew) k); clear KN k; have KN := KN'; clear KN')
        | (go_at_call 10; refine (AW.out _ (TK.out.same (by first | exact KN.out | exact KN.out.drew))).mono ?_; rintro e w9 ⟨rfl, k⟩; (try (have Y1' := Lib.hid (Y1.out.same k); clear Y1; have Y1 := Y1'; clear Y1')); (try (have Y2' := Lib.hid (Y2.out.same k); clear Y2; have Y2 := Y2'; clear Y2')); have KN' := Lib.hid (Kept.trans (by first | exact KN.out | exact KN.out.drew) k); clear KN k; have KN := KN'; clear KN'))
    all_goals
      go_wp2_with fail
      go_ret
      exact ⟨rfl, KK.out.trans KN.out⟩
  go_region_held3 (fun w' => ((∀ i, w'.cell? ⟨w4.heap.size, i, none⟩ = (#[Value.int .i64 (S : Nat), .slice (some ⟨g2, 0, none⟩) L c2] : Array Value)[i]?) ∧ (∀ i, w'.cell? ⟨w2.heap.size, i, none⟩ = (#[Value.int .i64 (S : Nat), .slice (some ⟨g, 0, none⟩) L c] : Array Value)[i]?)))
    (exact QQ.out _ (by repeat (first | exact KN.out | with_reducible refine Kept.drew ?_ | with_reducible refine Kept.alloc ?_ _ | refine Kept.setNew ?_ (by first | (simp; done) | (simp; omega)) _)))
    (first
      | (go_at_call 26; refine (BO.out _ ?_ ?_).mono ?_; (exact X1.out.same (by first | exact KN.out | exact KN.out.drew | (repeat (first | exact KN.out | with_reducible refine Kept.drew ?_ | with_reducible refine Kept.alloc ?_ _ | refine Kept.setNew ?_ (by first | (simp; done) | (simp; omega)) _)))); (exact X2.out.same (by first | exact KN.out | exact KN.out.drew | (repeat (first | exact KN.out | with_reducible refine Kept.drew ?_ | with_reducible refine Kept.alloc ?_ _ | refine Kept.setNew ?_ (by first | (simp; done) | (simp; omega)) _)))); rintro e w9 ⟨v6, c6, rfl, hc6, hat6, k⟩; (try (have B1' := Lib.hid (blk_on B1.out k (by repeat (first | exact Kept.refl _ _ | with_reducible refine Kept.drew ?_ | with_reducible refine Kept.alloc ?_ _))); clear B1; have B1 := B1'; clear B1'; have r1 := cell_blk B1.out; have s1 := B1.out.free; have q1 := B1.out.lt; have n1 := Nat.ne_of_lt q1; have m1 := (Nat.ne_of_lt q1).symm)); (try (have B2' := Lib.hid (blk_on B2.out k (by repeat (first | exact Kept.refl _ _ | with_reducible refine Kept.drew ?_ | with_reducible refine Kept.alloc ?_ _))); clear B2; have B2 := B2'; clear B2'; have r2 := cell_blk B2.out; have s2 := B2.out.free; have q2 := B2.out.lt; have n2 := Nat.ne_of_lt q2; have m2 := (Nat.ne_of_lt q2).symm)); (try ((first | have B3 := Lib.hid (blk_snd k) | have B3 := Lib.hid (blk_snd_drew k) | have B3 := Lib.hid (blk_one k) | have B3 := Lib.hid (blk_one_drew k)); (first | (have hh := B2; clear hh) | (have hh := B1; clear hh; have B2 := B3) | have B1 := B3); have r3 := cell_blk B3.out; have s3 := B3.out.free; have q3 := B3.out.lt; have n3 := Nat.ne_of_lt q3; have m3 := (Nat.ne_of_lt q3).symm)); (try ((first | have B4 := Lib.hid (blk_two k) | have B4 := Lib.hid (blk_two_drew k)); (first | (have hh := B2; clear hh) | (have hh := B1; clear hh; have B2 := B4) | have B1 := B4); have r4 := cell_blk B4.out; have s4 := B4.out.free; have q4 := B4.out.lt; have n4 := Nat.ne_of_lt q4; have m4 := (Nat.ne_of_lt q4).symm)); (try (have a3 := set_apart B1.out B2.out (by omega); have a4 := set_apart B2.out B1.out (by omega))); have KN' := Lib.hid (Kept.trans (show Same w13 _ from (by first | exact KN.out | exact KN.out.drew | (repeat (first | exact KN.out | with_reducible refine Kept.drew ?_ | with_reducible refine Kept.alloc ?_ _ | refine Kept.setNew ?_ (by first | (simp; done) | (simp; omega)) _)))) k); clear KN; have KN := KN'; clear KN'; have zk := KN.out.size; have X6 := Lib.hid hat6; clear hat6; have K6 := Lib.hid k; clear k)
      | (go_at_call 28; refine (EI.out _ ?_ ?_).mono ?_; (exact X1.out.same (by first | exact KN.out | exact KN.out.drew | (repeat (first | exact KN.out | with_reducible refine Kept.drew ?_ | with_reducible refine Kept.alloc ?_ _ | refine Kept.setNew ?_ (by first | (simp; done) | (simp; omega)) _)))); (exact X2.out.same (by first | exact KN.out | exact KN.out.drew | (repeat (first | exact KN.out | with_reducible refine Kept.drew ?_ | with_reducible refine Kept.alloc ?_ _ | refine Kept.setNew ?_ (by first | (simp; done) | (simp; omega)) _)))); rintro e w9 ⟨v5, c5, rfl, hc5, hat5, k⟩; (try (have B1' := Lib.hid (blk_on B1.out k (by repeat (first | exact Kept.refl _ _ | with_reducible refine Kept.drew ?_ | with_reducible refine Kept.alloc ?_ _))); clear B1; have B1 := B1'; clear B1'; have r1 := cell_blk B1.out; have s1 := B1.out.free; have q1 := B1.out.lt; have n1 := Nat.ne_of_lt q1; have m1 := (Nat.ne_of_lt q1).symm)); (try (have B2' := Lib.hid (blk_on B2.out k (by repeat (first | exact Kept.refl _ _ | with_reducible refine Kept.drew ?_ | with_reducible refine Kept.alloc ?_ _))); clear B2; have B2 := B2'; clear B2'; have r2 := cell_blk B2.out; have s2 := B2.out.free; have q2 := B2.out.lt; have n2 := Nat.ne_of_lt q2; have m2 := (Nat.ne_of_lt q2).symm)); (try ((first | have B3 := Lib.hid (blk_snd k) | have B3 := Lib.hid (blk_snd_drew k) | have B3 := Lib.hid (blk_one k) | have B3 := Lib.hid (blk_one_drew k)); (first | (have hh := B2; clear hh) | (have hh := B1; clear hh; have B2 := B3) | have B1 := B3); have r3 := cell_blk B3.out; have s3 := B3.out.free; have q3 := B3.out.lt; have n3 := Nat.ne_of_lt q3; have m3 := (Nat.ne_of_lt q3).symm)); (try ((first | have B4 := Lib.hid (blk_two k) | have B4 := Lib.hid (blk_two_drew k)); (first | (have hh := B2; clear hh) | (have hh := B1; clear hh; have B2 := B4) | have B1 := B4); have r4 := cell_blk B4.out; have s4 := B4.out.free; have q4 := B4.out.lt; have n4 := Nat.ne_of_lt q4; have m4 := (Nat.ne_of_lt q4).symm)); (try (have a3 := set_apart B1.out B2.out (by omega); have a4 := set_apart B2.out B1.out (by omega))); have KN' := Lib.hid (Kept.trans (show Same w13 _ from (by first | exact KN.out | exact KN.out.drew | (repeat (first | exact KN.out | with_reducible refine Kept.drew ?_ | with_reducible refine Kept.alloc ?_ _ | refine Kept.setNew ?_ (by first | (simp; done) | (simp; omega)) _)))) k); clear KN; have KN := KN'; clear KN'; have zk := KN.out.size; have X5 := Lib.hid hat5; clear hat5; have K5 := Lib.hid k; clear k))
  all_goals
    clear EI BO QQ AW TT F K X1 X2 X4 hzo hza
    refine ⟨_, _, v5, c5, v6, c6, rfl, by with_reducible rfl, Lib.hid hc5, Lib.hid hc6, Lib.hid ?_⟩
    have H5 : NatsAt w9 .u64 v5 zo := by first | exact X5.out | exact nats_on X5.out K6.out (by repeat (first | exact Kept.refl _ _ | with_reducible refine Kept.drew ?_ | with_reducible refine Kept.alloc ?_ _))
    have H6 := X6.out
    have HN := KN.out
    clear KN X5 X6
    with_reducible first
      | exact lfA H5 H6 HN
      | exact lfA' H5 H6 HN
      | exact lfB H5 H6 HN B1.out (by omega)
      | exact lfB' H5 H6 HN B1.out (by omega)
      | exact lfC H5 H6 HN B1.out B2.out (by omega) (by omega) (by omega)
      | exact lfC H5 H6 HN B2.out B1.out (by omega) (by omega) (by omega)


/-! By readings. -/
section
open Go.ChangeShapes Go.WideShapes Go.ChangeAt
theorem back_read {H : Type} {enc : TypeId × Value → H} (W : World) (hT : TabOK W) {base : Nat} {v0 v1 v2 : Value} {d0 d1 d2 : DataW H} {p0 p1 p2 : List MemPlace}
    (h0 : DataW.Trod enc Tryd.prog W 0 (fun _ => true) true 5 v0 d0 p0) (k0 : Value.okWide Tryd.prog W .any base 5 v0)
    (h1 : DataW.Trod enc Tryd.prog W 0 (fun _ => true) true 52 v1 d1 p1) (k1 : Value.okWide Tryd.prog W .any base 52 v1)
    (h2 : DataW.Trod enc Tryd.prog W 0 (fun _ => true) true 52 v2 d2 p2) (k2 : Value.okWide Tryd.prog W .any base 52 v2) :
    Calls Tryd.prog 8 #[v0, v1, v2] W fun e W' => e = .returned (.bool true) ∧ Same W W' := by
  obtain ⟨n, rfl, hn⟩ := u8_read h0 k0
  obtain ⟨p, lb, cb, rfl⟩ := okWide_slice Tryd.underlying52 k1
  obtain ⟨xs, e, hb, hbt, hlc, hcm, hnil⟩ := bytes_read h1 p lb cb rfl
  obtain ⟨q, lo, co, rfl⟩ := okWide_slice Tryd.underlying52 k2
  obtain ⟨ys, e2, hb2, hbt2, _, _, _⟩ := bytes_read h2 q lo co rfl
  exact back_true n hn p q lb cb lo co xs ys W e e2 hb hb2 hbt hbt2 hT
end

end Go.Proofs.YtmolmamfmboeoaaDoor
