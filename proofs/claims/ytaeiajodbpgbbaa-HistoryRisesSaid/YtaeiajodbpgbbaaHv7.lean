/- State, Snapshot, Overlap. -/
import Derived.Test.YtaeiajodbpgbbaaHv6
namespace Go.Proofs.Ytaeiajodbpgbbaa
open Go.RowKit Go.Sort Go.Shelf

theorem ovF_key : ∀ (l : List HEv) (g : SMap) (id : Int) (k : List UInt8), (ovF g l id k).isSome = true → (g k).isSome = true ∨ ∃ e ∈ l, e.key = k
  | [], g, id, k, h => .inl h
  | x :: l, g, id, k, h => by
    have h' : (ovF (ovE id g x) l id k).isSome = true := h
    rcases ovF_key l (ovE id g x) id k h' with h1 | ⟨e, he, h1⟩
    · unfold ovE at h1
      by_cases q : x.k = 2 ∧ x.x = id
      · rw [if_pos q] at h1
        by_cases qk : k = x.key
        · exact .inr ⟨x, by simp, qk.symm⟩
        · rw [if_neg qk] at h1; exact .inl h1
      · rw [if_neg q] at h1; exact .inl h1
    · exact .inr ⟨e, List.mem_cons_of_mem _ he, h1⟩
theorem fold_key (l : List HEv) : ∀ (S : List HEv) (g : SMap) (k : List UInt8), ((S.foldl (fun g e => ovF g l e.x) g) k).isSome = true → (g k).isSome = true ∨ ∃ e ∈ l, e.key = k
  | [], g, k, h => .inl h
  | x :: S, g, k, h => by
    rcases fold_key l S (ovF g l x.x) k h with h1 | h1
    · exact ovF_key l g x.x k h1
    · exact .inr h1
theorem stF_key {l : List HEv} {at_ : Int} {k : List UInt8} (h : (stF l at_ k).isSome = true) : ∃ e ∈ l, e.key = k := by
  rcases fold_key l _ _ k h with h | h
  · cases h
  · exact h
/-- What a transaction sees. -/
def snF (l : List HEv) (txn : Int) : SMap := ovF (stF l (fstE l 0 txn).t) l txn
theorem snF_key {l : List HEv} {txn : Int} {k : List UInt8} (h : (snF l txn k).isSome = true) : ∃ e ∈ l, e.key = k := by
  rcases ovF_key l _ _ k h with h | h
  · exact stF_key h
  · exact h
theorem PrsPost.back {w w1 w2 : World} {g : SMap} {e : Ending} (h : PrsPost w1 g e w2) (k : Same w w1) : PrsPost w g e w2 := by
  obtain ⟨⟨v, L, h1, h2, h3, h4⟩, h5⟩ := h
  exact ⟨⟨v, L, h1, h2, h3, h4.rebase k.size⟩, k.trans h5⟩
/-- Keys short enough for a statement. -/
def KeysB (l : List HEv) : Prop := ∀ e ∈ l, e.key.length ≤ 100
theorem hv_pairsL {l : List HEv} (hl : l.length ≤ 1000) (hkb : KeysB l) (m : Nat) (g : SMap) (w : World) (hm : MapT w m g) (hg : ∀ k, (g k).isSome = true → ∃ e ∈ l, e.key = k) : Calls Try.prog 18 #[.map (some m)] w (PrsPost w g) :=
  hv_pairs m g w hm (l.map (·.key)) (fun k hk => by obtain ⟨e, he, h⟩ := hg k hk; exact List.mem_map.2 ⟨e, he, h⟩) (by simpa using hl) (fun k hk => by obtain ⟨e, he, h⟩ := hg k hk; have := hkb e he; rw [h] at this; unfold maxLen; omega)
set_option maxRecDepth 100000 in
theorem hv_State (a : Option Addr) (n c : Nat) (l : List HEv) (hn : n = l.length) (hl : n ≤ 40) (hkb : KeysB l) (at_ : Int) (w : World) (hat : ElsAt evE w a l) :
    Calls Try.prog 11 #[.slice a n c, .int .i64 at_] w (PrsPost w (stF l at_)) := by
  have ST := Lib.hid (hv_state a n c l hn hl at_ w hat)
  have PR := Lib.hid (fun m g w' => hv_pairsL (l := l) (by omega) hkb m g w')
  clear hn hat hkb
  go_enter Try.func11, Try.ntmps11
  go_wp2_with fail
  with_reducible refine ST.out.mono ?_
  rintro e w1 ⟨⟨m, rfl, hm, hmw⟩, k1⟩
  have K1 := Lib.hid k1
  have PM := Lib.hid (PR.out m _ w1 hm (fun k hk => stF_key hk))
  clear hm k1 PR ST
  go_wp2_with fail
  with_reducible refine PM.out.mono ?_
  rintro e w2 ⟨⟨v, L, rfl, h2, h3, h4⟩, k2⟩
  have HB := Lib.hid (PrsPost.back ⟨⟨v, L, rfl, h2, h3, h4⟩, k2⟩ K1.out)
  clear h2 h3 h4 k2
  go_wp2_with fail
  go_ret
  exact HB.out
set_option maxRecDepth 100000 in
theorem hv_Snapshot (a : Option Addr) (n c : Nat) (l : List HEv) (hn : n = l.length) (hl : n ≤ 40) (hkb : KeysB l) (txn : Int) (w : World) (hat : ElsAt evE w a l) (hav : ∀ x, a = some x → x.block < w.heap.size) :
    Calls Try.prog 13 #[.slice a n c, .int .i64 txn] w (PrsPost w (snF l txn)) := by
  have FS := Lib.hid (hv_first a n c l hn (by omega) 0 txn w hat)
  have ST := Lib.hid (fun at_ w' (k : Same w w') => hv_state a n c l hn hl at_ w' (hat.same k))
  have OV := Lib.hid (fun m g w' (k : Same w w') hne hm => hv_over a n c l hn (by omega) txn m g w' (hat.same k) hne hm)
  have PR := Lib.hid (fun m g w' => hv_pairsL (l := l) (by omega) hkb m g w')
  have AV := Lib.hid hav
  clear hn hat hkb hav
  go_enter Try.func13, Try.ntmps13
  go_wp2_with fail
  refine FS.out.mono ?_
  rintro e w1 ⟨rfl, k1⟩
  have K1 := Lib.hid k1
  obtain ⟨x, hx⟩ : ∃ x, fstE l 0 txn = x := ⟨_, rfl⟩
  rw [hx]
  have HX := Lib.hid hx
  clear k1 hx FS
  generalize fstB l 0 txn = o at *
  unfold encH
  go_upto_region 2 with fail
  refine cutWl (fun wn => Fr wn [(w1.heap.size, #[.int .u8 (x.k : Nat), .int .i64 x.x, .int .i64 x.t, encStr x.key, encStr x.val, .bool x.is], 42)] ∧ Same w1 wn) ⟨⟨Blk.new _ _ _, trivial⟩, (Kept.refl _ _).alloc _⟩ ?_
  rintro w2 ⟨hf2, k2⟩
  have F2 := Lib.hid hf2
  have K2 := Lib.hid (K1.out.trans k2)
  obtain ⟨p0, f0, -⟩ := F2.out.rules
  have z0 := F2.out.1.lt
  clear hf2 k2 K1
  go_wp2_with fail
  with_reducible refine (ST.out x.t w2 K2.out).mono ?_
  rintro e w3 ⟨⟨m, rfl, hm, hmw⟩, k3⟩
  have K3 := Lib.hid (K2.out.trans k3)
  have HM := Lib.hid hm
  have hsz := K2.out.size
  clear hm k3 ST
  go_wp2_with fail
  with_reducible refine (OV.out m _ w3 K3.out (fun y hy => by have := AV.out y hy; omega) HM.out).mono ?_
  rintro e w4 ⟨rfl, hm4, k4⟩
  have K4 := Lib.hid (K3.out.step k4 (fun j hj q => by omega))
  have PM := Lib.hid (PR.out m _ w4 hm4 (fun k hk => by
    rcases ovF_key l _ _ k hk with h | h
    · exact stF_key h
    · exact h))
  have HF := Lib.hid (show ovF (stF l x.t) l txn = snF l txn from by unfold snF; rw [HX.out])
  rw [HF.out] at PM
  clear hm4 k4 PR OV HM
  go_wp2_with fail
  with_reducible refine PM.out.mono ?_
  rintro e w5 ⟨⟨v, L, rfl, h2, h3, h4⟩, k5⟩
  have HB := Lib.hid (PrsPost.back ⟨⟨v, L, rfl, h2, h3, h4⟩, k5⟩ K4.out)
  clear h2 h3 h4 k5
  go_wp2_with fail
  go_ret
  exact HB.out
/-- Do two transactions overlap? -/
def ovlB (l : List HEv) (a b : Int) : Bool := decide (a ≠ b) && (fstB l 0 a && (fstB l 0 b && (fstB l 3 a && (fstB l 3 b && (decide ((fstE l 0 a).t < (fstE l 3 b).t) && decide ((fstE l 0 b).t < (fstE l 3 a).t))))))
set_option maxRecDepth 100000 in
set_option maxHeartbeats 1600000 in
theorem hv_Overlap (a : Option Addr) (n c : Nat) (l : List HEv) (hn : n = l.length) (hl : n ≤ 1000) (ta tb : Int) (w : World) (hat : ElsAt evE w a l) :
    Calls Try.prog 15 #[.slice a n c, .int .i64 ta, .int .i64 tb] w fun e w' => e = .returned (.bool (ovlB l ta tb)) ∧ Same w w' := by
  have FS := Lib.hid (fun kind id w' (k : Same w w') => hv_first a n c l hn hl kind id w' (hat.same k))
  unfold ovlB
  clear hn hat
  go_enter Try.func15, Try.ntmps15
  go_wp2_with fail
  have K0 := Lib.hid (Kept.refl (fun _ => False) w)
  refine (FS.out 0 ta _ K0.out).mono ?_
  rintro e u1 ⟨rfl, k1⟩
  obtain ⟨x1, hx1⟩ : ∃ x, fstE l 0 ta = x := ⟨_, rfl⟩
  obtain ⟨o1, ho1⟩ : ∃ o, fstB l 0 ta = o := ⟨_, rfl⟩
  rw [hx1, ho1]
  have E1 := Lib.hid hx1
  have O1 := Lib.hid ho1
  have KU1 := Lib.hid k1
  clear hx1 ho1 k1
  unfold encH
  go_upto_region 2 with fail
  obtain ⟨y1, hy1⟩ : ∃ y, u1.heap.size = y := ⟨_, rfl⟩
  rw [hy1]
  refine cutWl (fun wn => Fr wn [(y1, #[.int .u8 (x1.k : Nat), .int .i64 x1.x, .int .i64 x1.t, encStr x1.key, encStr x1.val, .bool x1.is], 42)] ∧ Same u1 wn) ⟨⟨Blk.new' _ _ _ hy1.symm, trivial⟩, (Kept.refl _ _).alloc _⟩ ?_
  rintro v1 ⟨hf1, kv1⟩
  have F1 := Lib.hid hf1
  have K1 := Lib.hid (K0.out.trans (KU1.out.trans kv1))
  clear hf1 kv1 hy1 KU1 K0
  go_wp2_with fail
  refine (FS.out 0 tb _ K1.out).mono ?_
  rintro e u2 ⟨rfl, k2⟩
  obtain ⟨x2, hx2⟩ : ∃ x, fstE l 0 tb = x := ⟨_, rfl⟩
  obtain ⟨o2, ho2⟩ : ∃ o, fstB l 0 tb = o := ⟨_, rfl⟩
  rw [hx2, ho2]
  have E2 := Lib.hid hx2
  have O2 := Lib.hid ho2
  have KU2 := Lib.hid k2
  have FU2 := Lib.hid (F1.out.same k2)
  clear F1
  clear hx2 ho2 k2
  unfold encH
  go_upto_region 3 with fail
  obtain ⟨y2, hy2⟩ : ∃ y, u2.heap.size = y := ⟨_, rfl⟩
  rw [hy2]
  refine cutWl (fun wn => Fr wn [(y2, #[.int .u8 (x2.k : Nat), .int .i64 x2.x, .int .i64 x2.t, encStr x2.key, encStr x2.val, .bool x2.is], 42), (y1, #[.int .u8 (x1.k : Nat), .int .i64 x1.x, .int .i64 x1.t, encStr x1.key, encStr x1.val, .bool x1.is], 42)] ∧ Same u2 wn) ⟨⟨Blk.new' _ _ _ hy2.symm, FU2.out.same ((Kept.refl _ _).alloc _)⟩, (Kept.refl _ _).alloc _⟩ ?_
  rintro v2 ⟨hf2, kv2⟩
  have F2 := Lib.hid hf2
  have K2 := Lib.hid (K1.out.trans (KU2.out.trans kv2))
  clear hf2 kv2 hy2 KU2 K1 FU2
  go_wp2_with fail
  refine (FS.out 3 ta _ K2.out).mono ?_
  rintro e u3 ⟨rfl, k3⟩
  obtain ⟨x3, hx3⟩ : ∃ x, fstE l 3 ta = x := ⟨_, rfl⟩
  obtain ⟨o3, ho3⟩ : ∃ o, fstB l 3 ta = o := ⟨_, rfl⟩
  rw [hx3, ho3]
  have E3 := Lib.hid hx3
  have O3 := Lib.hid ho3
  have KU3 := Lib.hid k3
  have FU3 := Lib.hid (F2.out.same k3)
  clear F2
  clear hx3 ho3 k3
  unfold encH
  go_upto_region 4 with fail
  obtain ⟨y3, hy3⟩ : ∃ y, u3.heap.size = y := ⟨_, rfl⟩
  rw [hy3]
  refine cutWl (fun wn => Fr wn [(y3, #[.int .u8 (x3.k : Nat), .int .i64 x3.x, .int .i64 x3.t, encStr x3.key, encStr x3.val, .bool x3.is], 42), (y2, #[.int .u8 (x2.k : Nat), .int .i64 x2.x, .int .i64 x2.t, encStr x2.key, encStr x2.val, .bool x2.is], 42), (y1, #[.int .u8 (x1.k : Nat), .int .i64 x1.x, .int .i64 x1.t, encStr x1.key, encStr x1.val, .bool x1.is], 42)] ∧ Same u3 wn) ⟨⟨Blk.new' _ _ _ hy3.symm, FU3.out.same ((Kept.refl _ _).alloc _)⟩, (Kept.refl _ _).alloc _⟩ ?_
  rintro v3 ⟨hf3, kv3⟩
  have F3 := Lib.hid hf3
  have K3 := Lib.hid (K2.out.trans (KU3.out.trans kv3))
  clear hf3 kv3 hy3 KU3 K2 FU3
  go_wp2_with fail
  refine (FS.out 3 tb _ K3.out).mono ?_
  rintro e u4 ⟨rfl, k4⟩
  obtain ⟨x4, hx4⟩ : ∃ x, fstE l 3 tb = x := ⟨_, rfl⟩
  obtain ⟨o4, ho4⟩ : ∃ o, fstB l 3 tb = o := ⟨_, rfl⟩
  rw [hx4, ho4]
  have E4 := Lib.hid hx4
  have O4 := Lib.hid ho4
  have KU4 := Lib.hid k4
  have FU4 := Lib.hid (F3.out.same k4)
  clear F3
  clear hx4 ho4 k4
  unfold encH
  go_upto_region 5 with fail
  obtain ⟨y4, hy4⟩ : ∃ y, u4.heap.size = y := ⟨_, rfl⟩
  rw [hy4]
  refine cutWl (fun wn => Fr wn [(y4, #[.int .u8 (x4.k : Nat), .int .i64 x4.x, .int .i64 x4.t, encStr x4.key, encStr x4.val, .bool x4.is], 42), (y3, #[.int .u8 (x3.k : Nat), .int .i64 x3.x, .int .i64 x3.t, encStr x3.key, encStr x3.val, .bool x3.is], 42), (y2, #[.int .u8 (x2.k : Nat), .int .i64 x2.x, .int .i64 x2.t, encStr x2.key, encStr x2.val, .bool x2.is], 42), (y1, #[.int .u8 (x1.k : Nat), .int .i64 x1.x, .int .i64 x1.t, encStr x1.key, encStr x1.val, .bool x1.is], 42)] ∧ Same u4 wn) ⟨⟨Blk.new' _ _ _ hy4.symm, FU4.out.same ((Kept.refl _ _).alloc _)⟩, (Kept.refl _ _).alloc _⟩ ?_
  rintro v4 ⟨hf4, kv4⟩
  have F4 := Lib.hid hf4
  have K4 := Lib.hid (K3.out.trans (KU4.out.trans kv4))
  clear hf4 kv4 hy4 KU4 K3 FU4
  obtain ⟨p3, f3, p2, f2, p1, f1, p0, f0, -⟩ := F4.out.rules
  have FSH := FS
  clear FS
  by_cases q0 : ta = tb
  · subst q0
    clear FSH
    go_wp2_with fail
    go_ret
    exact ⟨by simp, K4.out⟩
  · have g0 : (ta != tb) = true := by simp [q0]
    cases o1
    · clear FSH
      go_wp2_with fail
      go_ret
      exact ⟨by rw [E1.out, E2.out, E3.out, E4.out, O1.out, O2.out, O3.out, O4.out]; first | (simp [*]; done) | (simp [*]; omega), K4.out⟩
    · cases o2
      · clear FSH
        go_wp2_with fail
        go_ret
        exact ⟨by rw [E1.out, E2.out, E3.out, E4.out, O1.out, O2.out, O3.out, O4.out]; first | (simp [*]; done) | (simp [*]; omega), K4.out⟩
      · cases o3
        · clear FSH
          go_wp2_with fail
          go_ret
          exact ⟨by rw [E1.out, E2.out, E3.out, E4.out, O1.out, O2.out, O3.out, O4.out]; first | (simp [*]; done) | (simp [*]; omega), K4.out⟩
        · cases o4
          · clear FSH
            go_wp2_with fail
            go_ret
            exact ⟨by rw [E1.out, E2.out, E3.out, E4.out, O1.out, O2.out, O3.out, O4.out]; first | (simp [*]; done) | (simp [*]; omega), K4.out⟩
          · by_cases q1 : x1.t < x4.t
            · by_cases q2 : x2.t < x3.t
              · clear FSH
                go_wp2_with fail
                go_ret
                exact ⟨by rw [E1.out, E2.out, E3.out, E4.out, O1.out, O2.out, O3.out, O4.out]; first | (simp [*]; done) | (simp [*]; omega), K4.out⟩
              · clear FSH
                go_wp2_with fail
                go_ret
                exact ⟨by rw [E1.out, E2.out, E3.out, E4.out, O1.out, O2.out, O3.out, O4.out]; first | (simp [*]; done) | (simp [*]; omega), K4.out⟩
            · clear FSH
              go_wp2_with fail
              go_ret
              exact ⟨by rw [E1.out, E2.out, E3.out, E4.out, O1.out, O2.out, O3.out, O4.out]; first | (simp [*]; done) | (simp [*]; omega), K4.out⟩
end Go.Proofs.Ytaeiajodbpgbbaa
