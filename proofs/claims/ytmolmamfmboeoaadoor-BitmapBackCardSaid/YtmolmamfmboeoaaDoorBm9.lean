/- Walks over package bitmap: mix of what is no map; Both, Either. -/
import Derived.Test.YtmolmamfmboeoaaDoorBm8
namespace Go.Proofs.YtmolmamfmboeoaaDoor
open Go.RowKit

theorem mapOK_if_false (s : Int) (xs : List Nat) (h : mapOK s xs = false) {e : Ending} (k : e = .returned (.int .i64 (if mapOK s xs then 0 else 4))) : e = .returned (.int .i64 4) := by rw [h] at k; exact k
theorem mapOK_if_true (s : Int) (xs : List Nat) (h : mapOK s xs = true) {e : Ending} (k : e = .returned (.int .i64 (if mapOK s xs then 0 else 4))) : e = .returned (.int .i64 0) := by rw [h] at k; exact k

set_option maxHeartbeats 400000 in
theorem bm_mix_bad (fw : FuncId) (s t : Int) (a b : Option Addr) (ca cb : Nat) (xs ys : List Nat) (w : World) (h : mapOK s xs = false ∨ mapOK t ys = false) (hx : NatsAt w .u64 a xs) (hy : NatsAt w .u64 b ys) :
    Calls Tryd.prog 43 #[mapV s a xs.length ca, mapV t b ys.length cb, .func (.func fw) #[] #[]] w fun e w' => e = .returned (mapV 0 none 0 0) ∧ Same w w' := by
  cases hmx : mapOK s xs
  · have CA := Lib.hid fun w' (h : NatsAt w' .u64 a xs) => (bm_check s a ca xs w' h).mono (R' := fun e w'' => e = .returned (.int .i64 4) ∧ Same w' w'') fun _ _ h => ⟨mapOK_if_false s xs hmx h.1, h.2⟩
    have HX := Lib.hid hx
    clear hx hy hmx h
    generalize xs.length = l1 at *
    generalize ys.length = l2 at *
    go_enter Tryd.func43, Tryd.ntmps43
    go_wp2_with fail
    refine Calls.boxes3 ?_
    intro W g1 g2 g3 k1 hz
    refine (CA.out W (HX.out.same k1)).mono ?_
    rintro e w2 ⟨rfl, k2⟩
    have K2 := Lib.hid (k1.trans k2)
    have G3 := Lib.hid (g3.kept k2 (fun h => h))
    have f3 : ∀ i, w2.frozen? ⟨w.heap.size + 1 + 1, i, none⟩ = false := G3.out.free
    have c0 : w2.cell? ⟨w.heap.size + 1 + 1, 0, none⟩ = some (.int .i64 0) := G3.out.cell 0 rfl
    have c1 : w2.cell? ⟨w.heap.size + 1 + 1, 1, none⟩ = some (.slice none 0 0) := G3.out.cell 1 rfl
    clear g1 g2 g3 k1 k2 hz CA
    go_wp2_with fail
    have p := (G3.out.set 0 (.int .i64 0)).set 1 (.slice none 0 0)
    have p0 := p.cell 0 (v := .int .i64 0) rfl
    have p1 := p.cell 1 (v := .slice none 0 0) rfl
    exact bodyPost_ret (v := mapV 0 none 0 0) (by simp [results, Tryd.results43, go_sem, p0, p1]) rfl ⟨rfl, (K2.out.setNew (by show _ ≤ _ + 1 + 1; omega) _).setNew (by show _ ≤ _ + 1 + 1; omega) _⟩
  · have hmy : mapOK t ys = false := by rcases h with h | h; rw [hmx] at h; cases h; exact h
    have CA := Lib.hid fun w' (h : NatsAt w' .u64 a xs) => (bm_check s a ca xs w' h).mono (R' := fun e w'' => e = .returned (.int .i64 0) ∧ Same w' w'') fun _ _ h => ⟨mapOK_if_true s xs hmx h.1, h.2⟩
    have CB := Lib.hid fun w' (h : NatsAt w' .u64 b ys) => (bm_check t b cb ys w' h).mono (R' := fun e w'' => e = .returned (.int .i64 4) ∧ Same w' w'') fun _ _ h => ⟨mapOK_if_false t ys hmy h.1, h.2⟩
    have HX := Lib.hid hx; have HY := Lib.hid hy
    clear hx hy hmx hmy h
    generalize xs.length = l1 at *
    generalize ys.length = l2 at *
    go_enter Tryd.func43, Tryd.ntmps43
    go_wp2_with fail
    refine Calls.boxes3 ?_
    intro W g1 g2 g3 k1 hz
    refine (CA.out W (HX.out.same k1)).mono ?_
    rintro e w2 ⟨rfl, k2⟩
    have K2 := Lib.hid (k1.trans k2)
    have G2 := Lib.hid (g2.kept k2 (fun h => h))
    have G3 := Lib.hid (g3.kept k2 (fun h => h))
    have r0 : w2.cell? ⟨w.heap.size + 1, 0, none⟩ = some (.int .i64 t) := G2.out.cell 0 rfl
    have r1 : w2.cell? ⟨w.heap.size + 1, 1, none⟩ = some (.slice b l2 cb) := G2.out.cell 1 rfl
    clear g1 g2 g3 k1 k2 hz CA
    go_wp2_with fail
    refine (CB.out w2 (HY.out.same K2.out)).mono ?_
    rintro e w3 ⟨rfl, k3⟩
    have K3 := Lib.hid (K2.out.trans k3)
    have F3 := Lib.hid (G3.out.kept k3 (fun h => h))
    have f3 : ∀ i, w3.frozen? ⟨w.heap.size + 1 + 1, i, none⟩ = false := F3.out.free
    have c0 : w3.cell? ⟨w.heap.size + 1 + 1, 0, none⟩ = some (.int .i64 0) := F3.out.cell 0 rfl
    have c1 : w3.cell? ⟨w.heap.size + 1 + 1, 1, none⟩ = some (.slice none 0 0) := F3.out.cell 1 rfl
    clear r0 r1 k3 CB K2 G2 G3
    go_wp2_with fail
    have p := (F3.out.set 0 (.int .i64 0)).set 1 (.slice none 0 0)
    have p0 := p.cell 0 (v := .int .i64 0) rfl
    have p1 := p.cell 1 (v := .slice none 0 0) rfl
    exact bodyPost_ret (v := mapV 0 none 0 0) (by simp [results, Tryd.results43, go_sem, p0, p1]) rfl ⟨rfl, (K3.out.setNew (by show _ ≤ _ + 1 + 1; omega) _).setNew (by show _ ≤ _ + 1 + 1; omega) _⟩

/-- What a mix of two is: its size and words. -/
def mixS (s t : Int) (xs ys : List Nat) : Int := if mapOK s xs && mapOK t ys then max s t else 0
def mixW (op : Nat → Nat → Nat) (s t : Int) (xs ys : List Nat) : List Nat :=
  if mapOK s xs && mapOK t ys then mixK op xs ys (((max s t).toNat + 63) / 64) (((max s t).toNat + 63) / 64) else []

/-- What a call tells that makes a map. -/
def MadeMap (w : World) (s : Int) (ws : List Nat) (e : Ending) (w' : World) : Prop :=
  ∃ v c, e = .returned (mapV s v ws.length c) ∧ OwnN w' w.heap.size 36 .u64 (.slice v ws.length c) ws ∧ Same w w'

theorem ownN_nil (w : World) (base : Nat) (e : TypeId) (k : IntKind) : OwnN w base e k (.slice none 0 0) [] := World.ownsRow_nil w base e 1

theorem bm_mix (fw : FuncId) (op : Nat → Nat → Nat) (hfw : fw = 44 ∨ fw = 46) (hop : WordFn fw op) (s t : Int) (a b : Option Addr) (ca cb : Nat) (xs ys : List Nat) (w : World) (hx64 : Words xs) (hy64 : Words ys)
    (hx : NatsAt w .u64 a xs) (hy : NatsAt w .u64 b ys) :
    Calls Tryd.prog 43 #[mapV s a xs.length ca, mapV t b ys.length cb, .func (.func fw) #[] #[]] w (MadeMap w (mixS s t xs ys) (mixW op s t xs ys)) := by
  cases hok : mapOK s xs && mapOK t ys
  · have h : mapOK s xs = false ∨ mapOK t ys = false := by
      cases h1 : mapOK s xs
      · exact .inl rfl
      · exact .inr (by rw [h1] at hok; exact hok)
    refine (bm_mix_bad fw s t a b ca cb xs ys w h hx hy).mono fun e w' r => ?_
    have e1 : mixS s t xs ys = 0 := by simp [mixS, hok]
    have e2 : mixW op s t xs ys = [] := by simp [mixW, hok]
    rw [e1, e2]
    exact ⟨none, 0, r.1, ownN_nil _ _ _ _, r.2⟩
  · have h1 : mapOK s xs = true := by rw [Bool.and_eq_true] at hok; exact hok.1
    have h2 : mapOK t ys = true := by rw [Bool.and_eq_true] at hok; exact hok.2
    have p1 := mapOK_pos h1
    have p2 := mapOK_pos h2
    obtain ⟨S, rfl⟩ := Int.eq_ofNat_of_zero_le p1.1
    obtain ⟨T, rfl⟩ := Int.eq_ofNat_of_zero_le p2.1
    obtain ⟨m, hm⟩ := Int.eq_ofNat_of_zero_le (show 0 ≤ max (S : Int) T by omega)
    have hm' : max (S : Int) (T : Int) = (m : Int) := hm
    refine (bm_mix_ok fw op hfw hop S T m a b ca cb xs ys w hx64 hy64 h1 h2 hm' (by omega) hx hy).mono fun e w' r => ?_
    obtain ⟨g, r1, r2, r3⟩ := r
    have e1 : mixS S T xs ys = m := by simp only [mixS, hok, if_true]; exact hm'
    have e2 : mixW op S T xs ys = mixK op xs ys ((m + 63) / 64) ((m + 63) / 64) := by simp only [mixW, hok, if_true, hm', Int.toNat_natCast]
    rw [e1, e2]
    refine ⟨some ⟨g, 0, none⟩, (m + 63) / 64, ?_, ?_, r3⟩
    · rw [mixK_len]; exact r1
    · rw [mixK_len]; exact r2

end Go.Proofs.YtmolmamfmboeoaaDoor
