/- Walks over package bitmap: Both, Either. -/
import Derived.Test.YtmolmamfmboeoaaDoorBm9
namespace Go.Proofs.YtmolmamfmboeoaaDoor
open Go.RowKit

set_option maxHeartbeats 400000 in
theorem bm_both (s t : Int) (a b : Option Addr) (ca cb : Nat) (xs ys : List Nat) (w : World) (hx64 : Words xs) (hy64 : Words ys) (hx : NatsAt w .u64 a xs) (hy : NatsAt w .u64 b ys) :
    Calls Tryd.prog 26 #[mapV s a xs.length ca, mapV t b ys.length cb] w (MadeMap w (mixS s t xs ys) (mixW (· &&& ·) s t xs ys)) := by
  have M := Lib.hid fun w' hx' hy' => bm_mix 44 (· &&& ·) (.inl rfl) word_and s t a b ca cb xs ys w' hx64 hy64 hx' hy'
  have HX := Lib.hid hx; have HY := Lib.hid hy
  clear hx hy hx64 hy64
  generalize mixS s t xs ys = m at *
  generalize mixW (· &&& ·) s t xs ys = zs at *
  generalize xs.length = l1 at *
  generalize ys.length = l2 at *
  go_enter Tryd.func26, Tryd.ntmps26
  go_wp2_with fail
  refine Calls.boxes3 ?_
  intro W g1 g2 g3 k1 hz
  refine (M.out W (HX.out.same k1) (HY.out.same k1)).mono ?_
  rintro e w2 ⟨v, c, rfl, ho, k2⟩
  have O := Lib.hid (ho.base k1.size)
  have K2 := Lib.hid (k1.trans k2)
  have G3 := Lib.hid (g3.kept k2 (fun h => h))
  have f3 : ∀ i, w2.frozen? ⟨w.heap.size + 1 + 1, i, none⟩ = false := G3.out.free
  have c0 : w2.cell? ⟨w.heap.size + 1 + 1, 0, none⟩ = some (.int .i64 0) := G3.out.cell 0 rfl
  have c1 : w2.cell? ⟨w.heap.size + 1 + 1, 1, none⟩ = some (.slice none 0 0) := G3.out.cell 1 rfl
  have hb : Hid (∀ q, (Value.slice v zs.length c).ownBlock = some q → W.heap.size ≤ q) := fun q hq => (World.ownsRow.lt ho q hq).1
  have hz' := Lib.hid hz
  clear g1 g2 g3 k1 k2 hz M ho
  go_wp2_with fail
  have p := (G3.out.set 0 (.int .i64 m)).set 1 (.slice v zs.length c)
  have p0 := p.cell 0 (v := .int .i64 m) rfl
  have p1 := p.cell 1 (v := .slice v zs.length c) rfl
  have KG := (Kept.refl (fun j => j = w.heap.size + 1 + 1) w2).setG 0 (.int .i64 m) |>.setG 1 (.slice v zs.length c)
  exact bodyPost_ret (v := mapV m v zs.length c) (by simp [results, Tryd.results26, go_sem, p0, p1]) rfl ⟨v, c, rfl, O.out.kept KG (fun j hj => by have h1 := hb.out j hj; have h2 := hz'.out; omega), (K2.out.setNew (by show _ ≤ _ + 1 + 1; omega) _).setNew (by show _ ≤ _ + 1 + 1; omega) _⟩

set_option maxHeartbeats 400000 in
theorem bm_either (s t : Int) (a b : Option Addr) (ca cb : Nat) (xs ys : List Nat) (w : World) (hx64 : Words xs) (hy64 : Words ys) (hx : NatsAt w .u64 a xs) (hy : NatsAt w .u64 b ys) :
    Calls Tryd.prog 28 #[mapV s a xs.length ca, mapV t b ys.length cb] w (MadeMap w (mixS s t xs ys) (mixW (· ||| ·) s t xs ys)) := by
  have M := Lib.hid fun w' hx' hy' => bm_mix 46 (· ||| ·) (.inr rfl) word_or s t a b ca cb xs ys w' hx64 hy64 hx' hy'
  have HX := Lib.hid hx; have HY := Lib.hid hy
  clear hx hy hx64 hy64
  generalize mixS s t xs ys = m at *
  generalize mixW (· ||| ·) s t xs ys = zs at *
  generalize xs.length = l1 at *
  generalize ys.length = l2 at *
  go_enter Tryd.func28, Tryd.ntmps28
  go_wp2_with fail
  refine Calls.boxes3 ?_
  intro W g1 g2 g3 k1 hz
  refine (M.out W (HX.out.same k1) (HY.out.same k1)).mono ?_
  rintro e w2 ⟨v, c, rfl, ho, k2⟩
  have O := Lib.hid (ho.base k1.size)
  have K2 := Lib.hid (k1.trans k2)
  have G3 := Lib.hid (g3.kept k2 (fun h => h))
  have f3 : ∀ i, w2.frozen? ⟨w.heap.size + 1 + 1, i, none⟩ = false := G3.out.free
  have c0 : w2.cell? ⟨w.heap.size + 1 + 1, 0, none⟩ = some (.int .i64 0) := G3.out.cell 0 rfl
  have c1 : w2.cell? ⟨w.heap.size + 1 + 1, 1, none⟩ = some (.slice none 0 0) := G3.out.cell 1 rfl
  have hb : Hid (∀ q, (Value.slice v zs.length c).ownBlock = some q → W.heap.size ≤ q) := fun q hq => (World.ownsRow.lt ho q hq).1
  have hz' := Lib.hid hz
  clear g1 g2 g3 k1 k2 hz M ho
  go_wp2_with fail
  have p := (G3.out.set 0 (.int .i64 m)).set 1 (.slice v zs.length c)
  have p0 := p.cell 0 (v := .int .i64 m) rfl
  have p1 := p.cell 1 (v := .slice v zs.length c) rfl
  have KG := (Kept.refl (fun j => j = w.heap.size + 1 + 1) w2).setG 0 (.int .i64 m) |>.setG 1 (.slice v zs.length c)
  exact bodyPost_ret (v := mapV m v zs.length c) (by simp [results, Tryd.results28, go_sem, p0, p1]) rfl ⟨v, c, rfl, O.out.kept KG (fun j hj => by have h1 := hb.out j hj; have h2 := hz'.out; omega), (K2.out.setNew (by show _ ≤ _ + 1 + 1; omega) _).setNew (by show _ ≤ _ + 1 + 1; omega) _⟩

end Go.Proofs.YtmolmamfmboeoaaDoor
