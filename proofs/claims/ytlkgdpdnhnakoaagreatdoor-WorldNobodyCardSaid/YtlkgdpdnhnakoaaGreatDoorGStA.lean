/- GStA: StP, St1, St2, St3, St4, St7, St10, St13, St9, St14, OrdN, StG, St5, St6. -/
import Derived.Test.YtlkgdpdnhnakoaaGreatDoorGSn
import Derived.Test.YtlkgdpdnhnakoaaGreatDoorGNo
import Derived.Test.YtlkgdpdnhnakoaaGreatDoorBm1
import Derived.Test.YtlkgdpdnhnakoaaGreatDoorGSecA
import Derived.Test.YtlkgdpdnhnakoaaGreatDoorGBmA
import Derived.Test.YtlkgdpdnhnakoaaGreatDoorGCpy
namespace Go.Proofs.YtlkgdpdnhnakoaaGreatDoor
open Go.RowKit

/-- What a slot says. -/
structure Rt where
  gen : Nat
  slot : Nat
  ring : Nat
  size : Nat
  words : List Nat
  body : List Nat
def rt0 : Rt := ⟨0, 0, 0, 0, [], []⟩
/-- A store. -/
structure Sto where
  D : Dsk
  r : Rt
  nsize : Nat
  nwords : List Nat
  bad : Bool
def putW (ws : List Nat) : List Nat := ws.flatMap (be 8)
def putR (r : Rt) : List Nat := putSmall r.ring ++ putSmall r.size ++ putW r.words ++ r.body
def roomN (N ring : Nat) : Nat := min 512 ((N - 8 - ring) / 4)
def secsS (D : Dsk) (n : Nat) : List (List Nat) := (List.range 4).map fun i => (readD D ((n * 4 + i : Nat) : Int)).1
def seenD (D : Dsk) : Nat := max (seenSl (secsS D 0)) (seenSl (secsS D 1))
/-- A slot's sectors are written, as far as there is no error. -/
def wrAll : Dsk → Nat → List (List Nat) → Dsk × Nat
  | D, _, [] => (D, 0)
  | D, i, b :: l => if (writeD D ((i : Nat) : Int) b).2 = 0 then wrAll (writeD D ((i : Nat) : Int) b).1 (i + 1) l else writeD D ((i : Nat) : Int) b
def Sto.did (s : Sto) (q : Dsk × Nat) : Sto := { s with D := q.1, bad := s.bad || decide (q.2 ≠ 0) }
def Sto.write (s : Sto) (r : Rt) : Sto × Nat :=
  if putSlE (r.gen : Int) (putR r).length ≠ 0 then (s, putSlE (r.gen : Int) (putR r).length)
  else if (wrAll s.D (r.slot * 4) (putSl r.gen (putR r))).2 ≠ 0 then (s.did (wrAll s.D (r.slot * 4) (putSl r.gen (putR r))), (wrAll s.D (r.slot * 4) (putSl r.gen (putR r))).2)
  else if (syncD (wrAll s.D (r.slot * 4) (putSl r.gen (putR r))).1).2 ≠ 0 then (s.did (syncD (wrAll s.D (r.slot * 4) (putSl r.gen (putR r))).1), (syncD (wrAll s.D (r.slot * 4) (putSl r.gen (putR r))).1).2)
  else ({ D := (syncD (wrAll s.D (r.slot * 4) (putSl r.gen (putR r))).1).1, r := r, nsize := r.size, nwords := r.words, bad := s.bad }, 0)
end Go.Proofs.YtlkgdpdnhnakoaaGreatDoor

namespace Go.Proofs.YtlkgdpdnhnakoaaGreatDoor
open Go.RowKit Go.Sort Go.Shelf

theorem room_int (N ring : Nat) (hN : N ≤ 4096) (hr : ring ≤ 1099511627776) : max (0 : Int) (min 512 (((N : Int) - 8 - (ring : Int)).tdiv 4)) = ((roomN N ring : Nat) : Int) := by
  unfold roomN
  rcases Nat.lt_or_ge N (8 + ring) with h | h
  · have h1 : ((N : Int) - 8 - (ring : Int)).tdiv 4 ≤ 0 := by
      rw [show (N : Int) - 8 - (ring : Int) = -((8 + ring - N : Nat) : Int) from by omega, Int.neg_tdiv]
      have : (0 : Int) ≤ ((8 + ring - N : Nat) : Int).tdiv 4 := Int.tdiv_nonneg (by omega) (by decide)
      omega
    rw [show N - 8 - ring = 0 from by omega]
    simp
    omega
  · rw [show (N : Int) - 8 - (ring : Int) = ((N - 8 - ring : Nat) : Int) from by omega, Int.tdiv_eq_ediv_of_nonneg (by omega)]
    omega
set_option maxRecDepth 100000 in
theorem st_room {w : World} {d bs cap m : Nat} {D : Dsk} (h : DiskIn w d bs cap m D) (ring : Nat) (hr : ring ≤ 1099511627776) :
    Calls Tryz.prog 87 #[.pointer (some ⟨d, 0, none⟩), .int .i64 (ring : Nat)] w fun e w' => e = .returned (.int .i64 ((roomN D.s.length ring : Nat) : Int)) ∧ w' = w := by
  have SZ := Lib.hid (sd_size h)
  have RI := Lib.hid (room_int D.s.length ring h.ok.few hr)
  have hN := h.ok.few
  clear h
  go_enter Tryz.func87, Tryz.ntmps87
  go_wp2_with fail
  with_reducible refine SZ.out.mono ?_
  rintro e w1 ⟨rfl, rfl⟩
  clear SZ
  go_wp2_with fail
  go_ret
  refine ⟨?_, rfl⟩
  rw [← RI.out]

  rfl
theorem readD_lenS {D : Dsk} (h : D.OK) (n : Int) : (readD D n).1.length = 256 ∧ (readD D n).2 = 0 ∨ (readD D n).1 = [] := by
  unfold readD
  split
  · exact .inl ⟨(getD_ok h.secs _).hasL, rfl⟩
  · exact .inr rfl
theorem readD_bts {D : Dsk} (h : D.OK) (n : Int) : Bts (readD D n).1 := by
  unfold readD
  split
  · exact (getD_ok h.secs _).hasB
  · intro x hx; cases hx
theorem secsS_bts {D : Dsk} (h : D.OK) (n : Nat) : ∀ b ∈ secsS D n, Bts b := by
  intro b hb
  unfold secsS at hb
  obtain ⟨i, _, rfl⟩ := List.mem_map.1 hb
  exact readD_bts h _
theorem secsS_len (D : Dsk) (n : Nat) : (secsS D n).length = 4 := by simp [secsS]
section
attribute [local go_sem ↓] exec_app semAt_app
attribute [local go_sem] isApp_lit appA appX
set_option maxRecDepth 100000 in
set_option maxHeartbeats 1600000 in
theorem st_secs {w : World} {d bs cap m : Nat} {D : Dsk} (h : DiskIn w d bs cap m D) (n : Nat) (hn : n ≤ 10) :
    Calls Tryz.prog 179 #[.pointer (some ⟨d, 0, none⟩), .int .i64 (n : Nat)] w fun e w' => (∃ v, e = .returned v ∧ RowsOwn w' w.heap.size v (secsS D n)) ∧ Same w w' := by
  have H := Lib.hid h
  have HN := Lib.hid hn
  have OK := Lib.hid h.ok
  clear h
  go_enter Tryz.func179, Tryz.ntmps179
  go_wp2_with fail
  go_loopw [5, 9] (fun v t wr => ∃ (i : Nat), t = .int .i64 i ∧ i ≤ 4 ∧ RowsOwn wr w.heap.size v ((List.range i).map fun i => (readD D ((n * 4 + i : Nat) : Int)).1) ∧ Same w wr) (fun _ t _ => 4 - (intOf t).toNat)
  case atStart => exact ⟨0, rfl, by omega, RowsOwn.nil _ _, Kept.refl _ _⟩
  case round =>
    obtain ⟨i, rfl, hi, hr, hk⟩ := hrel
    have K := Lib.hid hk
    have R := Lib.hid hr
    clear hk hr
    by_cases hgo : i < 4
    · have RD := Lib.hid (sd_readF (H.out.same K.out) ((n : Int) * 4 + (i : Int)))
      have RL := Lib.hid (readD_lenS OK.out ((n : Int) * 4 + (i : Int)))
      have RE := Lib.hid (show readD D ((n * 4 + i : Nat) : Int) = readD D ((n : Int) * 4 + (i : Int)) from by congr 1)
      have hn10 := HN.out
      generalize readD D ((n : Int) * 4 + (i : Int)) = q at RD RL RE
      obtain ⟨b, er⟩ := q
      dsimp only at RD RL
      go_wp2_with fail
      with_reducible refine RD.out.mono ?_
      rintro e w1 ⟨a1, c1, rfl, n1, hnone, hsome, k1⟩
      have hc1 : b.length ≤ c1 := by
        rcases RL.out with h | h
        · cases a1 with
          | none => rw [(hnone rfl).1]; simp
          | some y => rw [(hsome y rfl).2.1]; omega
        · simp [h]
      have kw : Same w w1 := K.out.trans k1
      obtain ⟨v', w', hr4, ho4, hk4⟩ := rows_appendA (R.out.same k1) kw.size (by simp; omega) a1 b.length c1 b rfl hc1 (fun y hy => by
        obtain ⟨h1, h2, h3⟩ := hsome y hy
        subst h1
        exact ⟨K.out.size, h3, R.out.below (Nat.le_refl _)⟩) n1
      obtain ⟨aok, aV, aW⟩ := app_of hr4
      have KF := Lib.hid (show Same w w' from kw.step hk4 (fun j hj q => by omega))
      have RF := Lib.hid (show RowsOwn w' w.heap.size v' ((List.range (i + 1)).map fun i => (readD D ((n * 4 + i : Nat) : Int)).1) from by rw [List.range_succ, List.map_append, List.map_cons, List.map_nil, RE.out]; exact ho4)
      clear hr4 ho4 hk4 n1 hnone hsome k1 kw RD RL RE hc1
      go_wp2_with fail
      exact ⟨⟨i + 1, by go_num, by omega, RF.out, KF.out⟩, by simp [intOf]; omega⟩
    · have hi4 : i = 4 := by omega
      subst hi4
      clear hi hgo
      go_wp2_with fail
      go_ret
      exact ⟨⟨_, rfl, R.out⟩, K.out⟩
end
set_option maxRecDepth 100000 in
set_option maxHeartbeats 1600000 in
theorem st_seen {w : World} {d bs cap m : Nat} {D : Dsk} (h : DiskIn w d bs cap m D) :
    Calls Tryz.prog 90 #[.pointer (some ⟨d, 0, none⟩)] w fun e w' => e = .returned (.int .i64 ((seenD D : Nat) : Int)) ∧ Same w w' := by
  have SC0 := Lib.hid (fun w' (k : Same w w') => show Calls Tryz.prog 179 #[.pointer (some ⟨d, 0, none⟩), .int .i64 0] w' fun e w'' => (∃ v, e = .returned v ∧ RowsOwn w'' w'.heap.size v (secsS D 0)) ∧ Same w' w'' from st_secs (h.same k) 0 (by decide))
  have SC1 := Lib.hid (fun w' (k : Same w w') => show Calls Tryz.prog 179 #[.pointer (some ⟨d, 0, none⟩), .int .i64 1] w' fun e w'' => (∃ v, e = .returned v ∧ RowsOwn w'' w'.heap.size v (secsS D 1)) ∧ Same w' w'' from st_secs (h.same k) 1 (by decide))
  have OK := Lib.hid h.ok
  clear h
  go_enter Tryz.func90, Tryz.ntmps90
  go_wp2_with fail
  with_reducible refine (SC0.out w (Kept.refl _ _)).mono ?_
  rintro e w1 ⟨⟨v1, rfl, hr1⟩, k1⟩
  obtain ⟨a1, c1, rfl, hra1⟩ := hr1.rowsAt
  have S1 := Lib.hid (sn_seen a1 (secsS D 0).length c1 (secsS D 0) rfl (by rw [secsS_len]; decide) (secsS_bts OK.out 0) w1 hra1)
  rw [secsS_len] at S1 ⊢
  have K1 := Lib.hid k1
  clear k1 hr1 hra1
  go_wp2_with fail
  with_reducible refine S1.out.mono ?_
  rintro e w2 ⟨rfl, k2⟩
  have K2 := Lib.hid (K1.out.trans k2)
  clear k2 S1 K1
  obtain ⟨A, hA⟩ : ∃ A, seenSl (secsS D 0) = A := ⟨_, rfl⟩
  rw [hA]
  have HA := Lib.hid hA
  clear hA
  go_wp2_with fail
  with_reducible refine (SC1.out w2 K2.out).mono ?_
  rintro e w3 ⟨⟨v3, rfl, hr3⟩, k3⟩
  obtain ⟨a3, c3, rfl, hra3⟩ := hr3.rowsAt
  have S3 := Lib.hid (sn_seen a3 (secsS D 1).length c3 (secsS D 1) rfl (by rw [secsS_len]; decide) (secsS_bts OK.out 1) w3 hra3)
  rw [secsS_len] at S3 ⊢
  have K3 := Lib.hid (K2.out.trans k3)
  clear k3 hr3 hra3 K2
  go_wp2_with fail
  with_reducible refine S3.out.mono ?_
  rintro e w4 ⟨rfl, k4⟩
  have K4 := Lib.hid (K3.out.trans k4)
  clear k4 S3 K3
  obtain ⟨B, hB⟩ : ∃ B, seenSl (secsS D 1) = B := ⟨_, rfl⟩
  rw [hB]
  have HB := Lib.hid hB
  clear hB
  go_wp2_with fail
  go_ret
  refine ⟨?_, K4.out⟩
  unfold seenD
  rw [HA.out, HB.out]
  exact ret_int (by omega)
set_option maxRecDepth 100000 in
theorem st_asked {w : World} {d bs cap m : Nat} {D : Dsk} (h : DiskIn w d bs cap m D) :
    Calls Tryz.prog 86 #[.pointer (some ⟨d, 0, none⟩)] w fun e w' => e = .returned (.int .i64 ((if D.off then 8 else 0 : Nat) : Int)) ∧ w' = w := by
  have OF := Lib.hid (sd_off h)
  obtain ⟨o, ho⟩ : ∃ o, D.off = o := ⟨_, rfl⟩
  rw [ho] at OF ⊢
  clear h ho
  cases o
  all_goals
   go_enter Tryz.func86, Tryz.ntmps86
   go_wp2_with fail
   with_reducible refine OF.out.mono ?_
   rintro e w1 ⟨rfl, rfl⟩
   clear OF
   go_wp2_with fail
   go_ret
   exact ⟨rfl, rfl⟩
end Go.Proofs.YtlkgdpdnhnakoaaGreatDoor

namespace Go.Proofs.YtlkgdpdnhnakoaaGreatDoor
open Go.RowKit Go.Sort Go.Shelf

/-- A root's six cells. -/
def rtC (r : Rt) (wa : Option Addr) (wc : Nat) (ba : Option Addr) (bc : Nat) : Array Value := #[.int .i64 (r.gen : Nat), .int .i64 (r.slot : Nat), .int .i64 (r.ring : Nat), .int .i64 (r.size : Nat), .slice wa r.words.length wc, .slice ba r.body.length bc]
/-- What a root points to; it is as it may be. -/
structure RtAt (w : World) (r : Rt) (wa : Option Addr) (wc : Nat) (ba : Option Addr) (bc : Nat) : Prop where
  ws : NatsAt w .u64 wa r.words
  bs : NatsAt w .u8 ba r.body
  wcap : r.words.length ≤ wc
  bcap : r.body.length ≤ bc
  bnil : ba = none → bc = 0
  w64 : Words r.words
  bts : Bts r.body
  few : r.gen ≤ 1099511627777 ∧ r.slot ≤ 1 ∧ r.ring ≤ 256 ∧ r.size ≤ 512 ∧ r.words.length ≤ 8 ∧ r.body.length ≤ 700
theorem RtAt.same {w w' : World} {r : Rt} {wa ba : Option Addr} {wc bc : Nat} (h : RtAt w r wa wc ba bc) (k : Same w w') : RtAt w' r wa wc ba bc := ⟨h.ws.same k, h.bs.same k, h.wcap, h.bcap, h.bnil, h.w64, h.bts, h.few⟩
/-- One byte more. -/
theorem nat_push {w : World} {base : Nat} {v : Value} {xs : List Nat} (h : OwnN w base 5 .u8 v xs) (hb : base ≤ w.heap.size) (hl : xs.length ≤ 100000) (x : Nat) (U : Int) (hU : U = (x : Int)) :
    ∃ v' w', (Builtin.append_ #[56, 56] 56 #[v, .slice (some ⟨w.heap.size, 0, none⟩) 1 1]).run Tryz.prog (w.alloc (.cells #[.int .u8 U] 5)) = .ok v' w' ∧ OwnN w' base 5 .u8 v' (xs ++ [x]) ∧ Kept (fun j => base ≤ j) w w' := by
  subst hU
  have kA : Same w (w.alloc (.cells #[.int .u8 (x : Int)] 5)) := (Kept.refl _ w).alloc _
  have hone : NatsAt (w.alloc (.cells #[.int .u8 (x : Int)] 5)) .u8 (some ⟨w.heap.size, 0, none⟩) [x] := .inr ⟨w.heap.size, 0, rfl, by simp, fun j y hy => by
    have hj : j = 0 := by
      rcases Nat.eq_zero_or_pos j with q | q
      · exact q
      · rw [List.getElem?_eq_none (by simp; omega)] at hy; cases hy
    subst hj
    simp at hy
    subst hy
    exact cell_blk (Blk.new w _ _) 0⟩
  obtain ⟨v', w', hrun, ho, hgr, -⟩ := run_appendN (P := Tryz.prog) (w.alloc (.cells #[.int .u8 (x : Int)] 5)) 56 56 base 5 .u8 1 Tryz.underlying56 u8Info (by decide) v xs (h.same kA) (some ⟨w.heap.size, 0, none⟩) 1 1 [x] rfl hone (fun h => by cases h) (by simp; omega) (Nat.le_trans hb kA.size)
  have kg : Kept (fun j => v.ownBlock = some j) (w.alloc (.cells #[.int .u8 (x : Int)] 5)) w' := (Kept.refl _ _).grown hgr (fun k hk _ => hk)
  exact ⟨v', w', hrun, ho, (kA.mono (fun _ _ q => q.elim)).trans (kg.mono (fun j _ hj => (World.ownsRow.lt h j hj).1))⟩
theorem be8_all (x : Nat) : be 8 x = [x / 72057594037927936 % 256, x / 281474976710656 % 256, x / 1099511627776 % 256, x / 4294967296 % 256, x / 16777216 % 256, x / 65536 % 256, x / 256 % 256, x % 256] := stmp_all x
theorem putW_take {ws : List Nat} {i : Nat} (hi : i < ws.length) : putW (ws.take (i + 1)) = putW (ws.take i) ++ be 8 ws[i] := by
  have h : ws.take (i + 1) = ws.take i ++ [ws[i]] := (List.take_append_getElem hi).symm
  unfold putW
  rw [h, List.flatMap_append]
  simp
theorem putW_len (ws : List Nat) : (putW ws).length = 8 * ws.length := by
  unfold putW
  induction ws with
  | nil => rfl
  | cons x l ih => rw [List.flatMap_cons, List.length_append, be_length, ih, List.length_cons]; omega
theorem putSmall_len (n : Nat) : (putSmall n).length ≤ 9 := by
  unfold putSmall
  rw [List.length_cons, be_length]
  have := wid_le n
  omega
section
attribute [local go_sem ↓] exec_app semAt_app
attribute [local go_sem] isApp_lit appA appX
set_option maxRecDepth 100000 in
set_option maxHeartbeats 3200000 in
theorem st_put (r : Rt) (wa : Option Addr) (wc : Nat) (ba : Option Addr) (bc : Nat) (w : World) (h : RtAt w r wa wc ba bc) :
    Calls Tryz.prog 174 #[.agg (rtC r wa wc ba bc)] w fun e w' => (∃ v, e = .returned v ∧ OwnN w' w.heap.size 5 .u8 v (putR r)) ∧ Same w w' := by
  have H := Lib.hid h
  have HF := Lib.hid h.few
  clear h
  obtain ⟨gen, slot, ring, size, words, body⟩ := r
  dsimp only at HF
  have SM := Lib.hid (fun n (hn : n ≤ 1024) w' => ord_putSmall n w' (by omega))
  have hb1 : ring ≤ 256 := HF.out.2.2.1
  have hb2 : size ≤ 512 := HF.out.2.2.2.1
  have gw1 := u64_wrap (ring : Int) (by omega) (by omega)
  have gw2 := u64_wrap (size : Int) (by omega) (by omega)
  obtain ⟨nw, hnw⟩ : ∃ nw, words.length = nw := ⟨_, rfl⟩
  obtain ⟨nb, hnb⟩ : ∃ nb, body.length = nb := ⟨_, rfl⟩
  unfold rtC
  dsimp only
  rw [hnw, hnb]
  have HNW := Lib.hid hnw; have HNB := Lib.hid hnb
  clear hnw hnb
  go_enter Tryz.func174, Tryz.ntmps174
  go_upto_region 1 with fail
  obtain ⟨y, hy⟩ : ∃ y, w.heap.size = y := ⟨_, rfl⟩
  rw [hy]
  refine cutWl (fun wn => Blk wn y #[.int .i64 (gen : Nat), .int .i64 (slot : Nat), .int .i64 (ring : Nat), .int .i64 (size : Nat), .slice wa nw wc, .slice ba nb bc] 167 ∧ Same w wn) ⟨Blk.new' _ _ _ hy.symm, (Kept.refl _ _).alloc _⟩ ?_
  rintro w4 ⟨hb4, k4⟩
  have B4 := Lib.hid hb4
  have K4 := Lib.hid k4
  have HY := Lib.hid hy
  have YL := Lib.hid hb4.lt
  clear hb4 k4 hy
  have QX := Lib.hid (show ∀ w', Same w4 w' → (∀ i, w'.cell? ⟨y, i, none⟩ = (#[.int .i64 (gen : Nat), .int .i64 (slot : Nat), .int .i64 (ring : Nat), .int .i64 (size : Nat), .slice wa nw wc, .slice ba nb bc] : Array Value)[i]?) from fun w' k => cell_blk (B4.out.kept k (fun h => h)))
  go_wp2_with fail
  refine wp_region_T (S := fun w' => Same w4 w') 9 (by kernel_rfl) (Kept.refl _ _).drew (fun hHeld hDn => ?_)
  refine wpT_z 0 7 QX hHeld hDn fun hDn => ?_
  refine wpT_z 1 8 QX hHeld hDn fun hDn => ?_
  refine wpT_z 2 9 QX hHeld hDn fun hDn => ?_
  refine wpT_z 4 11 QX hHeld hDn fun hDn => ?_
  refine wpT_z 5 12 QX hHeld hDn fun hDn => ?_
  refine wpT_z 6 13 QX hHeld hDn fun hDn => ?_
  refine wpT_z 7 14 QX hHeld hDn fun hDn => ?_
  refine wpT_one (i := 3) rfl (by kernel_rfl) hDn (fun K' hK => ?_)
  go_simp
  with_reducible refine (SM.out ring (by omega) _).mono ?_
  rintro e w5 ⟨v5, rfl, o5, k5⟩
  have K5 := Lib.hid (show Same w4 w5 from ((Kept.refl _ _).drew).trans k5)
  have O5 := Lib.hid (o5.base (show w4.heap.size ≤ w4.drew.heap.size from Nat.le_refl _))
  refine hK.out _ _ K5.out (fun hHeld2 hDn2 => ?_)
  clear hK K' hHeld hDn o5 k5
  have hHeld := hHeld2; have hDn := hDn2
  clear hHeld2 hDn2
  refine wpT_one (i := 8) rfl (by kernel_rfl) hDn (fun K' hK => ?_)
  go_simp
  with_reducible refine (SM.out size (by omega) _).mono ?_
  rintro e w6 ⟨v6, rfl, o6, k6⟩
  have K6 := Lib.hid (K5.out.trans k6)
  have O56 := Lib.hid (O5.out.same k6)
  obtain ⟨g6, c6, rfl, hg6, hg6l, hc6, hn6⟩ := o6.begins (by unfold putSmall; simp)
  refine hK.out _ _ K6.out (fun hHeld2 hDn2 => ?_)
  clear hK K' hHeld hDn o6 k6
  have hHeld := hHeld2; have hDn := hDn2
  clear hHeld2 hDn2
  obtain ⟨v7, w7, hr7, o7, g7, -⟩ := run_appendN (P := Tryz.prog) w6 56 56 w4.heap.size 5 .u8 1 Tryz.underlying56 u8Info (by decide) v5 (putSmall ring) O56.out (some ⟨g6, 0, none⟩) (putSmall size).length c6 (putSmall size) rfl hn6 (fun h => by cases h) (by have := putSmall_len ring; have := putSmall_len size; omega) K6.out.size
  have K7 := Lib.hid (K6.out.grown g7 (fun k hk hlt => by have := (World.ownsRow.lt O56.out k hk).1; omega))
  have O7 := Lib.hid o7
  obtain ⟨aok, aV, aW⟩ := app_of hr7
  clear hr7 o7 g7
  refine wpT_last rfl (by kernel_rfl) hDn (fun K hK => ?_)
  go_simp
  refine hK.out _ _ (fun hDn' => ?_)
  clear hK K hDn hHeld; have hDn := hDn'; clear hDn'
  refine wpT_ze 10 3 hDn fun hDn => ?_
  refine wpT_done (by kernel_rfl) ?_ _
  clear hDn aok aV aW QX gw1 gw2
  have B7 := Lib.hid (B4.out.kept K7.out (fun h => h))
  have p0 := cell_blk B7.out
  have z0 := B7.out.lt
  have hb3 : nw ≤ 8 := by have := HF.out; have := HNW.out; omega
  go_wp2_with fail
  go_loopw [3, 21] (fun v t wr => ∃ (i : Nat), t = .int .i64 i ∧ i ≤ nw ∧ OwnN wr w4.heap.size 5 .u8 v (putSmall ring ++ putSmall size ++ putW (words.take i)) ∧ Same w4 wr) (fun _ t _ => nw - (intOf t).toNat)
  case atStart => exact ⟨0, rfl, by omega, by rw [show putSmall ring ++ putSmall size ++ putW (words.take 0) = putSmall ring ++ putSmall size from by simp [putW]]; exact O7.out, K7.out⟩
  case round =>
    obtain ⟨i, rfl, hi, ho, hk⟩ := hrel
    have K := Lib.hid hk
    have O := Lib.hid ho
    clear hk ho p0 z0 B7 O7 K7
    by_cases hgo : i < nw
    · have hil : i < words.length := by rw [HNW.out]; exact hgo
      have PT := Lib.hid (putW_take hil)
      have X64 := Lib.hid (H.out.w64 words[i] (List.getElem_mem _))
      have hat := H.out.ws.same (K4.out.trans K.out)
      obtain ⟨bk, off, x, rfl, hbk, hx, hcl⟩ := hat.at hil
      obtain rfl : words[i] = x := by rw [List.getElem?_eq_getElem hil] at hx; exact Option.some.inj hx
      generalize words[i] = x at hcl PT X64
      have g1 : (i : Int) < (nw : Int) := by omega
      have g0 : (0 : Int) ≤ (i : Int) := by omega
      clear hx hat
      obtain ⟨P, hP⟩ : ∃ P, putSmall ring ++ putSmall size ++ putW (words.take i) = P := ⟨_, rfl⟩
      rw [hP] at O
      have HP := Lib.hid hP
      have PL := Lib.hid (show P.length ≤ 100 from by rw [← hP]; have := putSmall_len ring; have := putSmall_len size; simp [putW_len]; omega)
      clear hP
      generalize wr = wd at *
      go_wp2_with fail
      go_loopw [3, 25] (fun v t wr => ∃ (j : Nat), t = .int .i64 j ∧ j ≤ 8 ∧ OwnN wr w4.heap.size 5 .u8 v (P ++ (be 8 x).take j) ∧ Same w4 wr) (fun _ t _ => 8 - (intOf t).toNat)
      case atStart => exact ⟨0, rfl, by omega, by simpa using O.out, K.out⟩
      case round =>
        obtain ⟨j, rfl, hj, ho, hk⟩ := hrel
        have K := Lib.hid hk
        have O := Lib.hid ho
        clear hk ho
        by_cases hgj : j < 8
        · have hcase : j = 0 ∨ j = 1 ∨ j = 2 ∨ j = 3 ∨ j = 4 ∨ j = 5 ∨ j = 6 ∨ j = 7 := by omega
          have hxx := X64.out
          have hpl := PL.out
          clear hj hgj
          rcases hcase with rfl | rfl | rfl | rfl | rfl | rfl | rfl | rfl
          · obtain ⟨v', w', hr, ho', hk'⟩ := nat_push O.out K.out.size (by simp; omega) (x / 72057594037927936 % 256) ((x : Int) / 72057594037927936) (by omega)
            have KF := Lib.hid (K.out.step hk' (fun a ha z => by omega))
            have OF := Lib.hid (show OwnN w' w4.heap.size 5 .u8 v' (P ++ (be 8 x).take 1) from by rw [be8_all] at ho' ⊢; rw [List.append_assoc] at ho'; exact ho')
            obtain ⟨aok, aV, aW⟩ := app_of hr
            clear hr ho' hk' hpl
            go_wp2_with fail
            exact ⟨⟨1, rfl, by omega, OF.out, KF.out⟩, by simp [intOf]⟩
          · obtain ⟨v', w', hr, ho', hk'⟩ := nat_push O.out K.out.size (by simp; omega) (x / 281474976710656 % 256) ((x : Int) / 281474976710656 % 256) (by omega)
            have KF := Lib.hid (K.out.step hk' (fun a ha z => by omega))
            have OF := Lib.hid (show OwnN w' w4.heap.size 5 .u8 v' (P ++ (be 8 x).take 2) from by rw [be8_all] at ho' ⊢; rw [List.append_assoc] at ho'; exact ho')
            obtain ⟨aok, aV, aW⟩ := app_of hr
            clear hr ho' hk' hpl
            go_wp2_with fail
            exact ⟨⟨2, rfl, by omega, OF.out, KF.out⟩, by simp [intOf]⟩
          · obtain ⟨v', w', hr, ho', hk'⟩ := nat_push O.out K.out.size (by simp; omega) (x / 1099511627776 % 256) ((x : Int) / 1099511627776 % 256) (by omega)
            have KF := Lib.hid (K.out.step hk' (fun a ha z => by omega))
            have OF := Lib.hid (show OwnN w' w4.heap.size 5 .u8 v' (P ++ (be 8 x).take 3) from by rw [be8_all] at ho' ⊢; rw [List.append_assoc] at ho'; exact ho')
            obtain ⟨aok, aV, aW⟩ := app_of hr
            clear hr ho' hk' hpl
            go_wp2_with fail
            exact ⟨⟨3, rfl, by omega, OF.out, KF.out⟩, by simp [intOf]⟩
          · obtain ⟨v', w', hr, ho', hk'⟩ := nat_push O.out K.out.size (by simp; omega) (x / 4294967296 % 256) ((x : Int) / 4294967296 % 256) (by omega)
            have KF := Lib.hid (K.out.step hk' (fun a ha z => by omega))
            have OF := Lib.hid (show OwnN w' w4.heap.size 5 .u8 v' (P ++ (be 8 x).take 4) from by rw [be8_all] at ho' ⊢; rw [List.append_assoc] at ho'; exact ho')
            obtain ⟨aok, aV, aW⟩ := app_of hr
            clear hr ho' hk' hpl
            go_wp2_with fail
            exact ⟨⟨4, rfl, by omega, OF.out, KF.out⟩, by simp [intOf]⟩
          · obtain ⟨v', w', hr, ho', hk'⟩ := nat_push O.out K.out.size (by simp; omega) (x / 16777216 % 256) ((x : Int) / 16777216 % 256) (by omega)
            have KF := Lib.hid (K.out.step hk' (fun a ha z => by omega))
            have OF := Lib.hid (show OwnN w' w4.heap.size 5 .u8 v' (P ++ (be 8 x).take 5) from by rw [be8_all] at ho' ⊢; rw [List.append_assoc] at ho'; exact ho')
            obtain ⟨aok, aV, aW⟩ := app_of hr
            clear hr ho' hk' hpl
            go_wp2_with fail
            exact ⟨⟨5, rfl, by omega, OF.out, KF.out⟩, by simp [intOf]⟩
          · obtain ⟨v', w', hr, ho', hk'⟩ := nat_push O.out K.out.size (by simp; omega) (x / 65536 % 256) ((x : Int) / 65536 % 256) (by omega)
            have KF := Lib.hid (K.out.step hk' (fun a ha z => by omega))
            have OF := Lib.hid (show OwnN w' w4.heap.size 5 .u8 v' (P ++ (be 8 x).take 6) from by rw [be8_all] at ho' ⊢; rw [List.append_assoc] at ho'; exact ho')
            obtain ⟨aok, aV, aW⟩ := app_of hr
            clear hr ho' hk' hpl
            go_wp2_with fail
            exact ⟨⟨6, rfl, by omega, OF.out, KF.out⟩, by simp [intOf]⟩
          · obtain ⟨v', w', hr, ho', hk'⟩ := nat_push O.out K.out.size (by simp; omega) (x / 256 % 256) ((x : Int) / 256 % 256) (by omega)
            have KF := Lib.hid (K.out.step hk' (fun a ha z => by omega))
            have OF := Lib.hid (show OwnN w' w4.heap.size 5 .u8 v' (P ++ (be 8 x).take 7) from by rw [be8_all] at ho' ⊢; rw [List.append_assoc] at ho'; exact ho')
            obtain ⟨aok, aV, aW⟩ := app_of hr
            clear hr ho' hk' hpl
            go_wp2_with fail
            exact ⟨⟨7, rfl, by omega, OF.out, KF.out⟩, by simp [intOf]⟩
          · obtain ⟨v', w', hr, ho', hk'⟩ := nat_push O.out K.out.size (by simp; omega) (x % 256) ((x : Int) % 256) (by omega)
            have KF := Lib.hid (K.out.step hk' (fun a ha z => by omega))
            have OF := Lib.hid (show OwnN w' w4.heap.size 5 .u8 v' (P ++ (be 8 x).take 8) from by rw [be8_all] at ho' ⊢; rw [List.append_assoc] at ho'; exact ho')
            obtain ⟨aok, aV, aW⟩ := app_of hr
            clear hr ho' hk' hpl
            go_wp2_with fail
            exact ⟨⟨8, rfl, by omega, OF.out, KF.out⟩, by simp [intOf]⟩
        · have h8 : j = 8 := by omega
          subst h8
          rw [List.take_of_length_le (by rw [be_length]; exact Nat.le_refl _)] at O
          have O2 := Lib.hid (show OwnN wr w4.heap.size 5 .u8 _ (putSmall ring ++ putSmall size ++ putW (words.take (i + 1))) from by rw [PT.out, ← List.append_assoc, HP.out]; exact O.out)
          clear hj hgj O
          go_wp2_with fail
          exact ⟨⟨i + 1, by go_num, by omega, O2.out, K.out⟩, by simp [intOf]; omega⟩
    · have hin : i = nw := by omega
      rw [hin, List.take_of_length_le (by rw [HNW.out]; exact Nat.le_refl _)] at O
      obtain ⟨v', w', hr, ho', hgr, -⟩ := run_appendN (P := Tryz.prog) wr 56 56 w4.heap.size 5 .u8 1 Tryz.underlying56 u8Info (by decide) _ _ O.out ba nb bc body HNB.out.symm (H.out.bs.same (K4.out.trans K.out)) H.out.bnil (by have := HF.out; have := HNW.out; have := putSmall_len ring; have := putSmall_len size; simp [putW_len]; omega) K.out.size
      have KF := Lib.hid (show Same w w' from K4.out.trans (K.out.grown hgr (fun k hk hlt => by have := (World.ownsRow.lt O.out k hk).1; omega)))
      have OF := Lib.hid (show OwnN w' w.heap.size 5 .u8 v' (putR ⟨gen, slot, ring, size, words, body⟩) from OwnN.base ho' K4.out.size)
      obtain ⟨aok, aV, aW⟩ := app_of hr
      have g1 : ¬ (i : Int) < (nw : Int) := by omega
      have p0 := cell_blk (B4.out.kept K.out (fun h => h))
      clear hr ho' hgr
      go_wp2_with fail
      go_ret
      exact ⟨⟨_, rfl, OF.out⟩, KF.out⟩
end
end Go.Proofs.YtlkgdpdnhnakoaaGreatDoor

namespace Go.Proofs.YtlkgdpdnhnakoaaGreatDoor
open Go.RowKit Go.Sort Go.Shelf

/-- A store's ten cells. -/
def stC (d : Nat) (r : Rt) (wa : Option Addr) (wc : Nat) (ba : Option Addr) (bc : Nat) (ns : Nat) (na : Option Addr) (nl nc : Nat) (bad : Bool) : Array Value :=
  #[.pointer (some ⟨d, 0, none⟩), .int .i64 (r.gen : Nat), .int .i64 (r.slot : Nat), .int .i64 (r.ring : Nat), .int .i64 (r.size : Nat), .slice wa r.words.length wc, .slice ba r.body.length bc, .int .i64 (ns : Nat), .slice na nl nc, .bool bad]
/-- What calls of a store turn. -/
def FS (p d bs m : Nat) (g : Nat) : Prop := g = p ∨ dod d bs m g
/-- A slice lies apart. -/
def Apt (a : Option Addr) (fp : Nat → Prop) : Prop := ∀ x, a = some x → ¬ fp x.block
/-- A store lies in block p, its disk in d, bs, m. -/
def StoIn (w : World) (p d bs m : Nat) (S : Sto) : Prop := ∃ cap wa wc ba bc na nc, Blk w p (stC d S.r wa wc ba bc S.nsize na S.nwords.length nc S.bad) 169 ∧ DiskIn w d bs cap m S.D ∧ RtAt w S.r wa wc ba bc ∧ NatsAt w .u64 na S.nwords ∧ S.nwords.length ≤ nc ∧ Words S.nwords ∧ S.nsize ≤ 512 ∧ S.nwords.length ≤ 8 ∧ Apt wa (FS p d bs m) ∧ Apt ba (FS p d bs m) ∧ Apt na (FS p d bs m) ∧ ¬ dod d bs m p
theorem StoIn.same {w w' : World} {p d bs m : Nat} {S : Sto} (h : StoIn w p d bs m S) (k : Same w w') : StoIn w' p d bs m S := by
  obtain ⟨cap, wa, wc, ba, bc, na, nc, h1, h2, h3, h4, h5⟩ := h
  exact ⟨cap, wa, wc, ba, bc, na, nc, h1.kept k (fun h => h), h2.same k, h3.same k, h4.same k, h5⟩
theorem RtAt.kept {w w' : World} {fp : Nat → Prop} {r : Rt} {wa ba : Option Addr} {wc bc : Nat} (h : RtAt w r wa wc ba bc) (k : Kept fp w w') (h1 : Apt wa fp) (h2 : Apt ba fp) : RtAt w' r wa wc ba bc := ⟨h.ws.kept k h1, h.bs.kept k h2, h.wcap, h.bcap, h.bnil, h.w64, h.bts, h.few⟩
theorem Apt.mono {a : Option Addr} {fp fq : Nat → Prop} (h : Apt a fp) (hf : ∀ g, fq g → fp g) : Apt a fq := fun x hx q => h x hx (hf _ q)
set_option maxRecDepth 100000 in
theorem st_alive {w : World} {p : Nat} {d : Nat} {r : Rt} {wa ba na : Option Addr} {wc bc ns nl nc : Nat} {bad : Bool} (h : Blk w p (stC d r wa wc ba bc ns na nl nc bad) 169) :
    Calls Tryz.prog 183 #[.pointer (some ⟨p, 0, none⟩)] w fun e w' => e = .returned (.int .i64 ((if bad = true then 11 else 0 : Nat) : Int)) ∧ w' = w := by
  have p9 : w.cell? ⟨p, 9, none⟩ = some (.bool bad) := cell_blk h 9
  clear h
  cases bad
  all_goals
   go_enter Tryz.func183, Tryz.ntmps183
   go_wp2_with fail
   go_ret
   exact ⟨rfl, rfl⟩
set_option maxRecDepth 100000 in
theorem st_done {w : World} {p : Nat} {d : Nat} {r : Rt} {wa ba na : Option Addr} {wc bc ns nl nc : Nat} {bad : Bool} (h : Blk w p (stC d r wa wc ba bc ns na nl nc bad) 169) (e : Nat) :
    Calls Tryz.prog 175 #[.pointer (some ⟨p, 0, none⟩), .int .i64 (e : Nat)] w fun q w' => q = .returned (.int .i64 (e : Nat)) ∧ Blk w' p (stC d r wa wc ba bc ns na nl nc (bad || decide (e ≠ 0))) 169 ∧ Kept (fun g => g = p) w w' := by
  have p9 : w.cell? ⟨p, 9, none⟩ = some (.bool bad) := cell_blk h 9
  have f9 := fun i => Blk.free h i
  have z9 := h.lt
  have FIN := Lib.hid (fun (b : Bool) (hb : (bad || decide (e ≠ 0)) = b) => show Blk (w.setCell ⟨p, 9, none⟩ (.bool b)) p (stC d r wa wc ba bc ns na nl nc (bad || decide (e ≠ 0))) 169 ∧ Kept (fun g => g = p) w (w.setCell ⟨p, 9, none⟩ (.bool b)) from ⟨by rw [hb]; exact h.set 9 _, (Kept.refl _ _).setG 9 _⟩)
  clear h
  obtain ⟨R, hR⟩ : ∃ R : World → Prop, (fun w' => Blk w' p (stC d r wa wc ba bc ns na nl nc (bad || decide (e ≠ 0))) 169 ∧ Kept (fun g => g = p) w w') = R := ⟨_, rfl⟩
  have HR := Lib.hid hR
  show Calls Tryz.prog 175 #[.pointer (some ⟨p, 0, none⟩), .int .i64 (e : Nat)] w fun q w' => q = .returned (.int .i64 (e : Nat)) ∧ (fun w' => Blk w' p (stC d r wa wc ba bc ns na nl nc (bad || decide (e ≠ 0))) 169 ∧ Kept (fun g => g = p) w w') w'
  rw [hR]
  clear hR
  cases bad with
  | true =>
    have F2 := Lib.hid (FIN.out true rfl)
    clear FIN
    go_enter Tryz.func175, Tryz.ntmps175
    go_wp2_with fail
    go_ret
    exact ⟨rfl, by rw [← HR.out]; exact F2.out⟩
  | false =>
    by_cases he : e = 0
    · subst he
      have F2 := Lib.hid (FIN.out false rfl)
      clear FIN
      go_enter Tryz.func175, Tryz.ntmps175
      go_wp2_with fail
      go_ret
      exact ⟨rfl, by rw [← HR.out]; exact F2.out⟩
    · have F2 := Lib.hid (FIN.out true (by simp [he]))
      have g1 : ((e : Int) != 0) = true := by simp; omega
      have g2 : ((e : Int) == 0) = false := by simp; omega
      clear FIN he
      go_enter Tryz.func175, Tryz.ntmps175
      go_wp2_with fail
      go_ret
      exact ⟨rfl, by rw [← HR.out]; exact F2.out⟩
end Go.Proofs.YtlkgdpdnhnakoaaGreatDoor

namespace Go.Proofs.YtlkgdpdnhnakoaaGreatDoor
open Go.RowKit Go.Sort Go.Shelf

theorem DiskIn.lt3 {w : World} {d bs cap m : Nat} {D : Dsk} (h : DiskIn w d bs cap m D) : ∀ g, dod d bs m g → g < w.heap.size := by
  rintro g (rfl | rfl | rfl)
  · exact h.box.lt
  · exact h.safe.lt
  · exact h.map.lt
theorem RowsOwn.at' {w : World} {base : Nat} {a : Option Addr} {n c : Nat} {bs : List (List Nat)} (h : RowsOwn w base (.slice a n c) bs) : RowsAt w a bs := by
  obtain ⟨a', c', e, hr⟩ := h.rowsAt
  injection e with e
  subst e
  exact hr
theorem Blk.setRoot {w : World} {b : Nat} {v0 v1 v2 v3 v4 v5 v6 v7 v8 v9 u1 u2 u3 u4 u5 u6 : Value} {t : TypeId} (h : Blk w b #[v0, v1, v2, v3, v4, v5, v6, v7, v8, v9] t) :
    Blk ((((((w.setCell ⟨b, 1, none⟩ u1).setCell ⟨b, 2, none⟩ u2).setCell ⟨b, 3, none⟩ u3).setCell ⟨b, 4, none⟩ u4).setCell ⟨b, 5, none⟩ u5).setCell ⟨b, 6, none⟩ u6) b #[v0, u1, u2, u3, u4, u5, u6, v7, v8, v9] t := by
  have h0 : Blk _ b #[v0, u1, v2, v3, v4, v5, v6, v7, v8, v9] t := h.set 1 u1
  have h1 : Blk _ b #[v0, u1, u2, v3, v4, v5, v6, v7, v8, v9] t := h0.set 2 u2
  have h2 : Blk _ b #[v0, u1, u2, u3, v4, v5, v6, v7, v8, v9] t := h1.set 3 u3
  have h3 : Blk _ b #[v0, u1, u2, u3, u4, v5, v6, v7, v8, v9] t := h2.set 4 u4
  have h4 : Blk _ b #[v0, u1, u2, u3, u4, u5, v6, v7, v8, v9] t := h3.set 5 u5
  have h5 : Blk _ b #[v0, u1, u2, u3, u4, u5, u6, v7, v8, v9] t := h4.set 6 u6
  exact h5
theorem Blk.setNow {w : World} {b : Nat} {v0 v1 v2 v3 v4 v5 v6 v7 v8 v9 u7 u8 : Value} {t : TypeId} (h : Blk w b #[v0, v1, v2, v3, v4, v5, v6, v7, v8, v9] t) :
    Blk ((w.setCell ⟨b, 7, none⟩ u7).setCell ⟨b, 8, none⟩ u8) b #[v0, v1, v2, v3, v4, v5, v6, u7, u8, v9] t := by
  have h0 : Blk _ b #[v0, v1, v2, v3, v4, v5, v6, u7, v8, v9] t := h.set 7 u7
  have h1 : Blk _ b #[v0, v1, v2, v3, v4, v5, v6, u7, u8, v9] t := h0.set 8 u8
  exact h1
theorem putSmall_bts (n : Nat) : Bts (putSmall n) := by
  intro x hx
  unfold putSmall at hx
  rcases List.mem_cons.1 hx with rfl | hx
  · have := wid_le n; omega
  · exact be_byte _ _ x hx
theorem putW_bts (ws : List Nat) : Bts (putW ws) := by
  intro x hx
  unfold putW at hx
  obtain ⟨y, _, hx⟩ := List.mem_flatMap.1 hx
  exact be_byte _ _ x hx
theorem putR_bts {r : Rt} (h : Bts r.body) : Bts (putR r) := (((putSmall_bts _).app (putSmall_bts _)).app (putW_bts _)).app h
set_option maxRecDepth 100000 in
set_option maxHeartbeats 3200000 in
theorem st_write {w : World} {p d bs m : Nat} {S : Sto} (h : StoIn w p d bs m S) (r : Rt) (wa : Option Addr) (wc : Nat) (ba : Option Addr) (bc : Nat) (hr : RtAt w r wa wc ba bc) (h1 : Apt wa (FS p d bs m)) (h2 : Apt ba (FS p d bs m)) :
    Calls Tryz.prog 89 #[.pointer (some ⟨p, 0, none⟩), .agg (rtC r wa wc ba bc)] w fun e w' => e = .returned (.int .i64 (((S.write r).2 : Nat) : Int)) ∧ StoIn w' p d bs m (S.write r).1 ∧ Kept (FS p d bs m) w w' := by
  obtain ⟨cap, wa0, wc0, ba0, bc0, na0, nc0, g1, g2, g3, g4, g5, g6, g7, g8, g9, g10, g11, g12⟩ := h
  have HR := Lib.hid hr
  have GB := Lib.hid g1; have GD := Lib.hid g2; have G3 := Lib.hid g3; have G4 := Lib.hid g4
  have GP := Lib.hid (show ¬ dod d bs m p from g12)
  have FL := Lib.hid (show ∀ g, FS p d bs m g → g < w.heap.size from fun g hg => hg.elim (fun q => q ▸ g1.lt) (fun q => g2.lt3 g q))
  have HA := Lib.hid (show Apt wa (FS p d bs m) ∧ Apt ba (FS p d bs m) from ⟨h1, h2⟩)
  -- what is left, by its disk and its flag
  have MK := Lib.hid (fun W (D' : Dsk) (bad : Bool) (hb : Blk W p (stC d S.r wa0 wc0 ba0 bc0 S.nsize na0 S.nwords.length nc0 bad) 169) (hd : ∃ c', DiskIn W d bs c' m D') (k : Kept (FS p d bs m) w W) => show StoIn W p d bs m { S with D := D', bad := bad } from by
    obtain ⟨c', hd⟩ := hd
    exact ⟨c', wa0, wc0, ba0, bc0, na0, nc0, hb, hd, g3.kept k g9 g10, g4.kept k g11, g5, g6, g7, g8, g9, g10, g11, g12⟩)
  have PU := Lib.hid (fun w' (k : Same w w') => show Calls Tryz.prog 174 #[.agg #[.int .i64 (r.gen : Nat), .int .i64 (r.slot : Nat), .int .i64 (r.ring : Nat), .int .i64 (r.size : Nat), .slice wa r.words.length wc, .slice ba r.body.length bc]] w' fun e w'' => (∃ v, e = .returned v ∧ OwnN w'' w'.heap.size 5 .u8 v (putR r)) ∧ Same w' w'' from st_put r wa wc ba bc w' (hr.same k))
  have BT := Lib.hid (putR_bts hr.bts)
  have FEW := Lib.hid hr.few
  obtain ⟨B, hB⟩ : ∃ B, putR r = B := ⟨_, rfl⟩
  rw [hB] at PU BT
  have HB := Lib.hid hB
  obtain ⟨Q, hQ⟩ : ∃ Q, S.write r = Q := ⟨_, rfl⟩
  rw [hQ]
  have HQ := Lib.hid hQ
  clear hr g1 g2 g3 g4 g5 g6 g7 g8 g9 g10 g11 g12 h1 h2 hB hQ
  go_enter Tryz.func89, Tryz.ntmps89
  go_upto_region 1 with fail
  obtain ⟨y, hy⟩ : ∃ y, w.heap.size = y := ⟨_, rfl⟩
  rw [hy]
  refine cutWl (fun wn => Blk wn y (rtC r wa wc ba bc) 167 ∧ Same w wn) ⟨Blk.new' _ _ _ hy.symm, (Kept.refl _ _).alloc _⟩ ?_
  rintro w4 ⟨hb4, k4⟩
  have B4 := Lib.hid hb4
  have K4 := Lib.hid k4
  have HY := Lib.hid hy
  have Y4 := Lib.hid hb4.lt
  clear hb4 k4 hy
  have QX := Lib.hid (show ∀ w', Same w4 w' → (∀ i, w'.cell? ⟨y, i, none⟩ = (#[.int .i64 (r.gen : Nat), .int .i64 (r.slot : Nat), .int .i64 (r.ring : Nat), .int .i64 (r.size : Nat), .slice wa r.words.length wc, .slice ba r.body.length bc] : Array Value)[i]?) from fun w' k => cell_blk (B4.out.kept k (fun h => h)))
  go_wp2_with fail
  refine wp_region_T (S := fun w' => Same w4 w') 9 (by kernel_rfl) (Kept.refl _ _).drew (fun hHeld hDn => ?_)
  refine wpT_z 0 12 QX hHeld hDn fun hDn => ?_
  refine wpT_z 1 13 QX hHeld hDn fun hDn => ?_
  refine wpT_z 2 14 QX hHeld hDn fun hDn => ?_
  refine wpT_one (i := 3) rfl (by kernel_rfl) hDn (fun K' hK => ?_)
  go_simp
  with_reducible refine (PU.out _ (K4.out.drew)).mono ?_
  rintro e w5 ⟨⟨v5, rfl, o5⟩, k5⟩
  have K5 := Lib.hid (show Same w4 w5 from ((Kept.refl _ _).drew).trans k5)
  obtain ⟨g5, c5, rfl, hg5, hg5l, hc5, hn5⟩ := o5.begins (by rw [← HB.out]; unfold putR putSmall; simp)
  obtain ⟨nB, hnB⟩ : ∃ nB, B.length = nB := ⟨_, rfl⟩
  have SPU := Lib.hid (fun w' (k : Same w5 w') => sn_put (r.gen : Int) (some ⟨g5, 0, none⟩) B.length c5 B rfl BT.out w' (hn5.same k))
  unfold SputPost at SPU
  rw [hnB] at SPU ⊢
  have HNB := Lib.hid hnB
  refine hK.out _ _ K5.out (fun hHeld2 hDn2 => ?_)
  clear hK K' hHeld hDn o5 k5 hnB hn5
  have hHeld := hHeld2; have hDn := hDn2
  clear hHeld2 hDn2
  obtain ⟨er, her⟩ : ∃ er, putSlE (r.gen : Int) nB = er := ⟨_, rfl⟩
  rw [her] at SPU
  have HER := Lib.hid her
  clear her
  refine wpT_one (i := 4) rfl (by kernel_rfl) hDn (fun K' hK => ?_)
  go_simp
  with_reducible refine (SPU.out _ (Kept.refl _ _)).mono ?_
  rintro e w6 ⟨⟨v6, rfl, o6⟩, k6⟩
  have K6 := Lib.hid (K5.out.trans k6)
  have O6 := Lib.hid o6
  refine hK.out _ _ K6.out (fun hHeld2 hDn2 => ?_)
  clear hK K' hHeld hDn o6 k6
  have hHeld := hHeld2; have hDn := hDn2
  clear hHeld2 hDn2
  refine wpT_z 5 11 QX hHeld hDn fun hDn => ?_
  refine wpT_z 6 17 QX hHeld hDn fun hDn => ?_
  refine wpT_z 7 18 QX hHeld hDn fun hDn => ?_
  refine wpT_z 8 5 QX hHeld hDn fun hDn => ?_
  refine wpT_last rfl (by kernel_rfl) hDn (fun K hK => ?_)
  go_simp
  refine hK.out _ _ (fun hDn' => ?_)
  clear hK K hDn hHeld; have hDn := hDn'; clear hDn'
  refine wpT_done (by kernel_rfl) ?_ _
  clear hDn QX SPU PU
  by_cases he : er = 0
  · subst he
    rw [if_pos rfl] at O6
    rw [Int.toNat_natCast] at O6
    obtain ⟨a7, c7, rfl, -⟩ := O6.out.rowsAt
    rw [putSl_len] at O6 ⊢
    simp only [Int.natCast_zero]
    have K46 := Lib.hid (K4.out.trans K6.out)
    have F6 := Lib.hid (show ∀ j, w5.heap.size ≤ j → ¬ FS p d bs m j from fun j hj q => by have h1 := FL.out j q; have := K5.out.size; have := K4.out.size; omega)
    have G6 := Lib.hid (GB.out.kept K46.out (fun h => h))
    have D6 := Lib.hid (GD.out.same K46.out)
    have Y6 := Lib.hid (B4.out.kept K6.out (fun h => h))
    have FY := Lib.hid (show ¬ FS p d bs m y from fun q => by have := FL.out y q; have := HY.out; omega)
    obtain ⟨R, hR⟩ : ∃ R, putSl r.gen B = R := ⟨_, rfl⟩
    have HRR := Lib.hid hR
    have RL := Lib.hid (show R.length = 4 from by rw [← hR]; exact putSl_len _ _)
    have RB := Lib.hid (show ∀ b ∈ R, Bts b from by
      rw [← hR]
      refine putSl_bts ?_ BT.out
      rw [HNB.out]
      have h1 := HER.out
      unfold putSlE at h1
      split at h1
      · cases h1
      · split at h1
        · cases h1
        · omega)
    rw [hR] at O6
    have hsl : r.slot ≤ 1 := FEW.out.2.1
    clear hR GB GD B4 K4 K6
    go_wp2_with fail
    go_loopw [24] (fun t wr => ∃ (i : Nat) (D' : Dsk), t = .int .i64 i ∧ i ≤ 4 ∧ DiskIn wr d bs cap m D' ∧ Blk wr p (stC d S.r wa0 wc0 ba0 bc0 S.nsize na0 S.nwords.length nc0 S.bad) 169 ∧ wrAll S.D (r.slot * 4) R = wrAll D' (r.slot * 4 + i) (R.drop i) ∧ Kept (FS p d bs m) w6 wr) (fun t _ => 4 - (intOf t).toNat)
    case atStart => exact ⟨0, S.D, rfl, by omega, D6.out, G6.out, rfl, Kept.refl _ _⟩
    case round =>
      obtain ⟨i, D', rfl, hi, hd, hb, hw, hk⟩ := hrel
      have K := Lib.hid hk; have GD := Lib.hid hd; have GB := Lib.hid hb; have HW := Lib.hid hw
      have YR := Lib.hid (Y6.out.kept hk FY.out)
      have OR := Lib.hid (O6.out.kept hk F6.out)
      clear hk hd hb hw
      by_cases hgo : i < 4
      · have hil : i < R.length := by rw [RL.out]; exact hgo
        have hra := OR.out.at'
        obtain ⟨bk, off, xa, xn, xc, rfl, -, hxn, hxc, hcc⟩ := rows_at hra hil
        obtain ⟨c0, -⟩ := hcc wr (Kept.refl _ _)
        have HX := Lib.hid (fun w' (k : Same wr w') => (hcc w' k).2)
        have HC := Lib.hid (fun w' (k : Same wr w') => (hcc w' k).1)
        have HWS := Lib.hid (show wrAll S.D (r.slot * 4) R = if (writeD D' ((r.slot : Int) * 4 + (i : Int)) R[i]).2 = 0 then wrAll (writeD D' ((r.slot : Int) * 4 + (i : Int)) R[i]).1 (r.slot * 4 + (i + 1)) (R.drop (i + 1)) else writeD D' ((r.slot : Int) * 4 + (i : Int)) R[i] from by
          rw [HW.out, List.drop_eq_getElem_cons hil]
          show (if (writeD D' ((r.slot * 4 + i : Nat) : Int) R[i]).2 = 0 then _ else _) = _
          rw [show ((r.slot * 4 + i : Nat) : Int) = (r.slot : Int) * 4 + (i : Int) from by omega]
          rfl)
        have XB := Lib.hid (RB.out R[i] (List.getElem_mem _))
        generalize R[i] = X at HX hxn XB HWS
        have WR := Lib.hid (fun w' (k : Same wr w') => sd_write (GD.out.same k) ((r.slot : Int) * 4 + (i : Int)) xa xn xc X hxn XB.out (HX.out w' k))
        obtain ⟨q, hq⟩ : ∃ q, writeD D' ((r.slot : Int) * 4 + (i : Int)) X = q := ⟨_, rfl⟩
        rw [hq] at WR HWS
        obtain ⟨D2, er⟩ := q
        dsimp only at WR HWS
        have QX := Lib.hid (show ∀ w', Same wr w' → (∀ i, w'.cell? ⟨y, i, none⟩ = (#[.int .i64 (r.gen : Nat), .int .i64 (r.slot : Nat), .int .i64 (r.ring : Nat), .int .i64 (r.size : Nat), .slice wa r.words.length wc, .slice ba r.body.length bc] : Array Value)[i]?) ∧ w'.cell? ⟨p, 0, none⟩ = some (.pointer (some ⟨d, 0, none⟩)) ∧ True ∧ True from fun w' k => ⟨cell_blk (YR.out.kept k (fun h => h)), cell_blk (GB.out.kept k (fun h => h)) 0, trivial, trivial⟩)
        have g1 : (i : Int) < 4 := by omega
        have g0 : (0 : Int) ≤ (i : Int) := by omega
        have gw1 : IntKind.i64.wrap ((r.slot : Int) * 4) = (r.slot : Int) * 4 := by rw [IntKind.wrap_i64]; omega
        have gw2 : IntKind.i64.wrap ((r.slot : Int) * 4 + (i : Int)) = (r.slot : Int) * 4 + (i : Int) := by rw [IntKind.wrap_i64]; omega
        clear hcc hra hxc hxn hq
        go_wp2_with fail
        refine wp_region_T (S := fun w' => Same wr w') 11 (by kernel_rfl) (Kept.refl _ _).drew (fun hHeld hDn => ?_)
        refine wpT_zw 0 29 hHeld hDn fun hDn => ?_
        refine wpT_z 1 30 QX hHeld hDn fun hDn => ?_
        refine wpT_z 2 31 QX hHeld hDn fun hDn => ?_
        refine wpT_z 3 32 QX hHeld hDn fun hDn => ?_
        refine wpT_z 4 33 QX hHeld hDn fun hDn => ?_
        refine wpT_z 5 34 QX hHeld hDn fun hDn => ?_
        refine wpT_z 6 35 QX hHeld hDn fun hDn => ?_
        refine wpT_z 7 36 QX hHeld hDn fun hDn => ?_
        refine wpT_z 8 37 QX hHeld hDn fun hDn => ?_
        refine wpT_z 9 38 QX hHeld hDn fun hDn => ?_
        refine wpT_z 10 39 QX hHeld hDn fun hDn => ?_
        refine wpT_last rfl (by kernel_rfl) hDn (fun K' hK => ?_)
        go_simp
        with_reducible refine (WR.out _ (Kept.refl _ _).drew).mono ?_
        rintro e w8 ⟨rfl, hd8, k8⟩
        refine hK.out _ _ (fun hDn2 => ?_)
        clear hK K' hHeld hDn QX WR
        have hDn := hDn2
        clear hDn2
        have K8 := Lib.hid (show Kept (FS p d bs m) wr w8 from ((Kept.refl _ _).drew).trans (k8.mono (fun _ _ q => .inr q)))
        have GB8 := Lib.hid (GB.out.kept (((Kept.refl _ wr).drew).trans k8) GP.out)
        have D8 := Lib.hid hd8
        clear k8 hd8
        have DO := Lib.hid (st_done GB8.out er)
        refine wpT_oneE (i := 12) rfl (by kernel_rfl) rfl (by kernel_rfl) hDn (fun K' hK => ?_)
        go_simp
        with_reducible refine DO.out.mono ?_
        rintro e w9 ⟨rfl, hb9, k9⟩
        refine hK.out _ _ (fun hDn2 => ?_)
        clear hK K' hDn DO
        have hDn := hDn2
        clear hDn2
        have K9 := Lib.hid (K8.out.trans (k9.mono (fun _ _ q => .inl q)))
        have B9 := Lib.hid hb9
        have D9 := Lib.hid (D8.out.kept k9 (fun q => GP.out (.inl q.symm)) (fun q => GP.out (.inr (.inl q.symm))) (fun q => GP.out (.inr (.inr q.symm))))
        clear k9 hb9 D8 GB8
        refine wpT_ze 13 9 hDn fun hDn => ?_
        refine wpT_done (by kernel_rfl) ?_ _
        clear hDn gw1 gw2
        by_cases he : er = 0
        · subst he
          rw [if_pos rfl] at HWS
          have B9b := Lib.hid (show Blk w9 p (stC d S.r wa0 wc0 ba0 bc0 S.nsize na0 S.nwords.length nc0 S.bad) 169 from by have := B9.out; simpa using this)
          go_wp2_with fail
          refine ⟨⟨i + 1, D2, by go_num, by omega, D9.out, B9b.out, HWS.out, K.out.trans K9.out⟩, by simp [intOf]; omega⟩
        · rw [if_neg he] at HWS
          have g3 : ((er : Int) != 0) = true := by simp; omega
          have g4 : ((er : Int) == 0) = false := by simp; omega
          have FIN := Lib.hid (show Q.2 = er ∧ Q.1 = { S with D := D2, bad := S.bad || decide (er ≠ 0) } from by
            rw [← HQ.out]
            unfold Sto.write
            rw [HB.out, HNB.out, HER.out, HRR.out, HWS.out]
            simp [he, Sto.did])
          have KK := Lib.hid ((K46.out.mono (fun _ _ q => q.elim)).trans (K.out.trans K9.out))
          have SI := Lib.hid (MK.out w9 D2 _ B9.out ⟨cap, D9.out⟩ KK.out)
          clear he
          go_wp2_with fail
          go_ret
          exact ⟨by rw [FIN.out.1]; rfl, by rw [FIN.out.2]; exact SI.out, KK.out⟩
      · have h4 : i = 4 := by omega
        subst h4
        have HWZ := Lib.hid (show wrAll S.D (r.slot * 4) R = (D', 0) from by rw [HW.out, List.drop_of_length_le (by rw [RL.out]; exact Nat.le_refl _)]; rfl)
        have SY := Lib.hid (sd_sync GD.out)
        obtain ⟨q, hq⟩ : ∃ q, syncD D' = q := ⟨_, rfl⟩
        rw [hq] at SY
        have HSY := Lib.hid hq
        obtain ⟨D2, er⟩ := q
        dsimp only at SY
        have p0 : wr.cell? ⟨p, 0, none⟩ = some (.pointer (some ⟨d, 0, none⟩)) := cell_blk GB.out 0
        clear hq hi hgo HW
        go_wp2_with fail
        with_reducible refine SY.out.mono ?_
        rintro e w8 ⟨rfl, hd8, k8⟩
        have GB8 := Lib.hid (GB.out.kept k8 GP.out)
        have D8 := Lib.hid hd8
        have Y8 := Lib.hid (YR.out.kept (k8.mono (fp' := FS p d bs m) (fun _ _ q => .inr q)) FY.out)
        have K8 := Lib.hid (k8.mono (fp' := FS p d bs m) (fun _ _ q => .inr q))
        clear k8 hd8 SY p0
        have DO := Lib.hid (st_done GB8.out er)
        go_wp2_with fail
        with_reducible refine DO.out.mono ?_
        rintro e w9 ⟨rfl, hb9, k9⟩
        have K9 := Lib.hid (K8.out.trans (k9.mono (fun _ _ q => .inl q)))
        have B9 := Lib.hid hb9
        have D9 := Lib.hid (D8.out.kept k9 (fun q => GP.out (.inl q.symm)) (fun q => GP.out (.inr (.inl q.symm))) (fun q => GP.out (.inr (.inr q.symm))))
        have Y9 := Lib.hid (Y8.out.kept k9 (fun q => FY.out (.inl q)))
        clear k9 hb9 D8 GB8 DO Y8 K8
        by_cases he : er = 0
        · subst he
          have B9b := Lib.hid (show Blk w9 p (stC d S.r wa0 wc0 ba0 bc0 S.nsize na0 S.nwords.length nc0 S.bad) 169 from by have := B9.out; simpa using this)
          have FIN := Lib.hid (show Q.2 = 0 ∧ Q.1 = { D := D2, r := r, nsize := r.size, nwords := r.words, bad := S.bad } from by
            rw [← HQ.out]
            unfold Sto.write
            rw [HB.out, HNB.out, HER.out, HRR.out, HWZ.out, HSY.out]
            simp)
          have QX := Lib.hid (show ∀ w', Kept (fun g => g = p) w9 w' → (∀ i, w'.cell? ⟨y, i, none⟩ = (#[.int .i64 (r.gen : Nat), .int .i64 (r.slot : Nat), .int .i64 (r.ring : Nat), .int .i64 (r.size : Nat), .slice wa r.words.length wc, .slice ba r.body.length bc] : Array Value)[i]?) from fun w' k => cell_blk (Y9.out.kept k (fun q => FY.out (.inl q))))
          go_wp2_with fail
          refine wp_region_T (S := fun w' => Kept (fun g => g = p) w9 w') 10 (by kernel_rfl) (Kept.refl _ _).drew (fun hHeld hDn => ?_)
          refine wpT_z 0 56 QX hHeld hDn fun hDn => ?_
          refine wpT_z 1 57 QX hHeld hDn fun hDn => ?_
          refine wpT_z 2 58 QX hHeld hDn fun hDn => ?_
          refine wpT_z 3 59 QX hHeld hDn fun hDn => ?_
          refine wpT_z 4 60 QX hHeld hDn fun hDn => ?_
          refine wpT_z 5 61 QX hHeld hDn fun hDn => ?_
          refine wpT_z 6 62 QX hHeld hDn fun hDn => ?_
          have p9 := cell_blk B9b.out
          have f9 := fun i => Blk.free B9b.out i
          have z9 := B9b.out.lt
          unfold stC at p9
          refine wpT_one (i := 7) rfl (by kernel_rfl) hDn (fun K' hK => ?_)
          go_simp
          have kp : Kept (fun g => g = p) w9 (((((((w9.setCell ⟨p, 1, none⟩ (.int .i64 (r.gen : Nat))).setCell ⟨p, 2, none⟩ (.int .i64 (r.slot : Nat))).setCell ⟨p, 3, none⟩ (.int .i64 (r.ring : Nat))).setCell ⟨p, 4, none⟩ (.int .i64 (r.size : Nat))).setCell ⟨p, 5, none⟩ (.slice wa r.words.length wc)).setCell ⟨p, 6, none⟩ (.slice ba r.body.length bc)).drew) := by
            refine Kept.drew ?_
            have K0 := Kept.refl (fun g => g = p) w9
            repeat (first | with_reducible exact K0 | refine Kept.setG ?_ _ _)
          refine hK.out _ _ kp (fun hHeld2 hDn2 => ?_)
          clear hK K' hHeld hDn
          have hHeld := hHeld2; have hDn := hDn2
          clear hHeld2 hDn2
          refine cutT (fun wn => Kept (fun g => g = p) w9 wn ∧ Blk wn p #[.pointer (some ⟨d, 0, none⟩), .int .i64 (r.gen : Nat), .int .i64 (r.slot : Nat), .int .i64 (r.ring : Nat), .int .i64 (r.size : Nat), .slice wa r.words.length wc, .slice ba r.body.length bc, .int .i64 (S.nsize : Nat), .slice na0 S.nwords.length nc0, .bool S.bad] 169) ⟨kp, by
            have hB := B9b.out
            unfold stC at hB
            have hb := Blk.setRoot (u1 := .int .i64 (r.gen : Nat)) (u2 := .int .i64 (r.slot : Nat)) (u3 := .int .i64 (r.ring : Nat)) (u4 := .int .i64 (r.size : Nat)) (u5 := .slice wa r.words.length wc) (u6 := .slice ba r.body.length bc) hB
            exact hb.drew⟩ ?_
          rintro w10 ⟨kx, bx⟩
          have KX := Lib.hid kx; have BX := Lib.hid bx
          have hHeld : Kept (fun g => g = p) w9 w10 := kx
          clear kx bx kp p9 f9 z9 B9b
          refine wpT_z 8 63 QX hHeld hDn fun hDn => ?_
          refine wpT_z 9 64 QX hHeld hDn fun hDn => ?_
          have p9 := cell_blk BX.out
          have f9 := fun i => Blk.free BX.out i
          have z9 := BX.out.lt
          refine wpT_last rfl (by kernel_rfl) hDn (fun K hK => ?_)
          go_simp
          refine hK.out _ _ (fun hDn' => ?_)
          clear hK K hDn hHeld; have hDn := hDn'; clear hDn'
          refine wpT_done (by kernel_rfl) ?_ _
          clear hDn QX
          have kq : Kept (fun g => g = p) w10 ((w10.setCell ⟨p, 7, none⟩ (.int .i64 (r.size : Nat))).setCell ⟨p, 8, none⟩ (.slice wa r.words.length wc)) := ((Kept.refl _ _).setG _ _).setG _ _
          have BF := Lib.hid (show Blk ((w10.setCell ⟨p, 7, none⟩ (.int .i64 (r.size : Nat))).setCell ⟨p, 8, none⟩ (.slice wa r.words.length wc)) p (stC d r wa wc ba bc r.size wa r.words.length wc S.bad) 169 from Blk.setNow BX.out)
          have KP := Lib.hid (KX.out.trans kq)
          have KK := Lib.hid ((K46.out.mono (fp' := FS p d bs m) (fun _ _ q => q.elim)).trans (K.out.trans (K9.out.trans (KP.out.mono (fun _ _ q => .inl q)))))
          have DF := Lib.hid (D9.out.kept KP.out (fun q => GP.out (.inl q.symm)) (fun q => GP.out (.inr (.inl q.symm))) (fun q => GP.out (.inr (.inr q.symm))))
          have SI := Lib.hid (show StoIn ((w10.setCell ⟨p, 7, none⟩ (.int .i64 (r.size : Nat))).setCell ⟨p, 8, none⟩ (.slice wa r.words.length wc)) p d bs m { D := D2, r := r, nsize := r.size, nwords := r.words, bad := S.bad } from
            ⟨cap, wa, wc, ba, bc, wa, wc, BF.out, DF.out, HR.out.kept KK.out HA.out.1 HA.out.2, HR.out.ws.kept KK.out HA.out.1, HR.out.wcap, HR.out.w64, FEW.out.2.2.2.1, FEW.out.2.2.2.2.1, HA.out.1, HA.out.2, HA.out.1, GP.out⟩)
          clear kq
          go_wp2_with fail
          go_ret
          exact ⟨by rw [FIN.out.1]; rfl, by rw [FIN.out.2]; exact SI.out, KK.out⟩
        · have g3 : ((er : Int) != 0) = true := by simp; omega
          have g4 : ((er : Int) == 0) = false := by simp; omega
          have FIN := Lib.hid (show Q.2 = er ∧ Q.1 = { S with D := D2, bad := S.bad || decide (er ≠ 0) } from by
            rw [← HQ.out]
            unfold Sto.write
            rw [HB.out, HNB.out, HER.out, HRR.out, HWZ.out, HSY.out]
            simp [he, Sto.did])
          have KK := Lib.hid ((K46.out.mono (fun _ _ q => q.elim)).trans (K.out.trans K9.out))
          have SI := Lib.hid (MK.out w9 D2 _ B9.out ⟨cap, D9.out⟩ KK.out)
          clear he
          go_wp2_with fail
          go_ret
          exact ⟨by rw [FIN.out.1]; rfl, by rw [FIN.out.2]; exact SI.out, KK.out⟩
  · have FIN := Lib.hid (show Q.2 = er ∧ Q.1 = S from by
      rw [← HQ.out]
      unfold Sto.write
      rw [HB.out, HNB.out, HER.out, if_pos he]
      exact ⟨rfl, rfl⟩)
    have g1 : ((er : Int) != 0) = true := by simp; omega
    have g2 : ((er : Int) == 0) = false := by simp; omega
    have SI := Lib.hid (MK.out w6 S.D S.bad (GB.out.kept (K4.out.trans K6.out) (fun h => h)) ⟨cap, GD.out.same (K4.out.trans K6.out)⟩ ((K4.out.trans K6.out).mono (fun _ _ q => q.elim)))
    clear he
    go_wp2_with fail
    go_ret
    exact ⟨by rw [FIN.out.1]; rfl, by rw [FIN.out.2]; exact SI.out, (K4.out.trans K6.out).mono (fun _ _ q => q.elim)⟩
end Go.Proofs.YtlkgdpdnhnakoaaGreatDoor

namespace Go.Proofs.YtlkgdpdnhnakoaaGreatDoor
open Go.RowKit Go.Sort Go.Shelf

def Sto.hasE (S : Sto) (n : Int) : Nat := if S.bad = true then 11 else if hasM (S.nsize : Nat) S.nwords n = true then 0 else 6
set_option maxRecDepth 100000 in
theorem st_has {w : World} {p d bs m : Nat} {S : Sto} (h : StoIn w p d bs m S) (n : Int) :
    Calls Tryz.prog 276 #[.pointer (some ⟨p, 0, none⟩), .int .i64 n] w fun e w' => e = .returned (.int .i64 ((S.hasE n : Nat) : Int)) ∧ Same w w' := by
  obtain ⟨cap, wa, wc, ba, bc, na, nc, h1, h2, h3, h4, h5, h6, -⟩ := h
  have AL := Lib.hid (st_alive h1)
  have HS := Lib.hid (bm_has (S.nsize : Nat) na nc S.nwords n w h6 h4)
  have p7 : w.cell? ⟨p, 7, none⟩ = some (.int .i64 (S.nsize : Nat)) := cell_blk h1 7
  have p8 : w.cell? ⟨p, 8, none⟩ = some (.slice na S.nwords.length nc) := cell_blk h1 8
  obtain ⟨N, hN⟩ : ∃ N, S.hasE n = N := ⟨_, rfl⟩
  have HN := Lib.hid hN
  rw [hN]
  unfold Sto.hasE at HN
  unfold mapV at HS
  generalize S.bad = bad at AL HN
  generalize hasM (S.nsize : Nat) S.nwords n = hm at HS HN
  clear h1 h2 h3 h4 h5 h6 hN
  cases bad with
  | true =>
    have HN2 : N = 11 := by rw [← HN.out]; rfl
    subst HN2
    clear HN
    go_enter Tryz.func276, Tryz.ntmps276
    go_wp2_with fail
    with_reducible refine AL.out.mono ?_
    rintro e w1 ⟨rfl, rfl⟩
    clear AL
    go_wp2_with fail
    go_ret
    exact ⟨rfl, Kept.refl _ _⟩
  | false =>
    cases hm with
    | true =>
      have HN2 : N = 0 := by rw [← HN.out]; rfl
      subst HN2
      clear HN
      go_enter Tryz.func276, Tryz.ntmps276
      go_wp2_with fail
      with_reducible refine AL.out.mono ?_
      rintro e w1 ⟨rfl, rfl⟩
      clear AL
      go_wp2_with fail
      with_reducible refine HS.out.mono ?_
      rintro e w2 ⟨rfl, k2⟩
      have K2 := Lib.hid k2
      clear k2 HS
      go_wp2_with fail
      go_ret
      exact ⟨rfl, K2.out⟩
    | false =>
      have HN2 : N = 6 := by rw [← HN.out]; rfl
      subst HN2
      clear HN
      go_enter Tryz.func276, Tryz.ntmps276
      go_wp2_with fail
      with_reducible refine AL.out.mono ?_
      rintro e w1 ⟨rfl, rfl⟩
      clear AL
      go_wp2_with fail
      with_reducible refine HS.out.mono ?_
      rintro e w2 ⟨rfl, k2⟩
      have K2 := Lib.hid k2
      clear k2 HS
      go_wp2_with fail
      go_ret
      exact ⟨rfl, K2.out⟩
set_option maxRecDepth 100000 in
theorem st_Gen {w : World} {p d bs m : Nat} {S : Sto} (h : StoIn w p d bs m S) :
    Calls Tryz.prog 38 #[.pointer (some ⟨p, 0, none⟩)] w fun e w' => e = .returned (.int .i64 ((S.r.gen : Nat) : Int)) ∧ w' = w := by
  obtain ⟨cap, wa, wc, ba, bc, na, nc, h1, -⟩ := h
  have p1 : w.cell? ⟨p, 1, none⟩ = some (.int .i64 (S.r.gen : Nat)) := cell_blk h1 1
  clear h1
  go_enter Tryz.func38, Tryz.ntmps38
  go_wp2_with fail
  go_ret
  exact ⟨rfl, rfl⟩
set_option maxRecDepth 100000 in
theorem st_Bad {w : World} {p d bs m : Nat} {S : Sto} (h : StoIn w p d bs m S) :
    Calls Tryz.prog 115 #[.pointer (some ⟨p, 0, none⟩)] w fun e w' => e = .returned (.bool S.bad) ∧ w' = w := by
  obtain ⟨cap, wa, wc, ba, bc, na, nc, h1, -⟩ := h
  have p9 : w.cell? ⟨p, 9, none⟩ = some (.bool S.bad) := cell_blk h1 9
  clear h1
  go_enter Tryz.func115, Tryz.ntmps115
  go_wp2_with fail
  go_ret
  exact ⟨rfl, rfl⟩
end Go.Proofs.YtlkgdpdnhnakoaaGreatDoor

namespace Go.Proofs.YtlkgdpdnhnakoaaGreatDoor
open Go.RowKit Go.Sort Go.Shelf

set_option maxRecDepth 100000 in
theorem st_area {w : World} {p d bs m : Nat} {S : Sto} (h : StoIn w p d bs m S) :
    Calls Tryz.prog 278 #[.pointer (some ⟨p, 0, none⟩)] w fun e w' => e = .returned (.agg #[.int .i64 ((8 + S.r.ring : Nat) : Int), .int .i64 (S.nsize : Nat)]) ∧ Same w w' := by
  obtain ⟨cap, wa, wc, ba, bc, na, nc, h1, h2, h3, h4, h5, h6, -⟩ := h
  have B := Lib.hid h1
  have hr := h3.few.2.2.1
  unfold stC at B
  obtain ⟨ring, hring⟩ : ∃ ring, S.r.ring = ring := ⟨_, rfl⟩
  obtain ⟨ns, hns⟩ : ∃ ns, S.nsize = ns := ⟨_, rfl⟩
  rw [hring] at B hr ⊢
  rw [hns] at B ⊢
  have gw : IntKind.i64.wrap (8 + (ring : Int)) = 8 + (ring : Int) := by rw [IntKind.wrap_i64]; omega
  clear h1 h2 h3 h4 h5 h6 hring hns
  go_enter Tryz.func278, Tryz.ntmps278
  go_upto_region 1 with fail
  obtain ⟨y, hy⟩ : ∃ y, w.heap.size = y := ⟨_, rfl⟩
  rw [hy]
  refine cutWl (fun wn => Blk wn y #[.int .i64 0, .int .i64 0] 407 ∧ Same w wn) ⟨Blk.new' _ _ _ hy.symm, (Kept.refl _ _).alloc _⟩ ?_
  rintro w4 ⟨hb4, k4⟩
  have B4 := Lib.hid hb4
  have K4 := Lib.hid k4
  have HY := Lib.hid (Nat.le_of_eq hy)
  have QX := Lib.hid (show ∀ w', Same w4 w' → w'.cell? ⟨p, 3, none⟩ = some (.int .i64 (ring : Nat)) ∧ w'.cell? ⟨p, 7, none⟩ = some (.int .i64 (ns : Nat)) ∧ True ∧ True from fun w' k => ⟨cell_blk (B.out.kept (k4.trans k) (fun h => h)) 3, cell_blk (B.out.kept (k4.trans k) (fun h => h)) 7, trivial, trivial⟩)
  have BD := Lib.hid (B4.out.kept (show Same w4 w4.drew from (Kept.refl _ w4).drew) (fun h => h))
  have yc : ∀ i, w4.drew.cell? ⟨y, i, none⟩ = (#[.int .i64 0, .int .i64 0] : Array Value)[i]? := cell_blk BD.out
  have yf : ∀ i, w4.drew.frozen? ⟨y, i, none⟩ = false := fun i => BD.out.free i
  have yc4 : ∀ i, w4.cell? ⟨y, i, none⟩ = (#[.int .i64 0, .int .i64 0] : Array Value)[i]? := cell_blk B4.out
  have yf4 : ∀ i, w4.frozen? ⟨y, i, none⟩ = false := fun i => B4.out.free i
  have yz := hb4.lt
  clear hb4 k4 hy
  go_wp2_with fail
  refine wp_region_T (S := fun w' => Same w4 w') 12 (by kernel_rfl) (Kept.refl _ _).drew (fun hHeld hDn => ?_)
  refine wpT_z 0 3 QX hHeld hDn fun hDn => ?_
  refine wpT_z 1 4 QX hHeld hDn fun hDn => ?_
  refine wpT_z 2 5 QX hHeld hDn fun hDn => ?_
  refine wpT_z 3 6 QX hHeld hDn fun hDn => ?_
  refine wpT_z 4 7 QX hHeld hDn fun hDn => ?_
  refine wpT_z 5 8 QX hHeld hDn fun hDn => ?_
  refine wpT_z 6 9 QX hHeld hDn fun hDn => ?_
  refine wpT_z 7 10 QX hHeld hDn fun hDn => ?_
  refine wpT_z 8 11 QX hHeld hDn fun hDn => ?_
  refine wpT_z 9 12 QX hHeld hDn fun hDn => ?_
  refine wpT_z 10 13 QX hHeld hDn fun hDn => ?_
  refine wpT_z 11 14 QX hHeld hDn fun hDn => ?_
  refine wpT_last rfl (by kernel_rfl) hDn (fun K hK => ?_)
  go_simp
  refine hK.out _ _ (fun hDn' => ?_)
  clear hK K hDn hHeld; have hDn := hDn'; clear hDn'
  refine wpT_done (by kernel_rfl) ?_ _
  clear hDn QX
  go_wp2_with fail
  (try simp only [Exit.inBlock, Exit.then])
  refine cutE (fun W => Blk W y #[.int .i64 (8 + (ring : Int)), .int .i64 (ns : Nat)] 407 ∧ Same w W) ⟨((B4.out.set 0 _).set 1 _).kept (show Same _ _ from (Kept.refl _ _).drew) (fun h => h), ((K4.out.setNew HY.out _).setNew HY.out _).drew⟩ ?_
  rintro wz ⟨bz, kz⟩
  refine bodyPost_ret (results_two rfl _ _ _ _ _ _ rfl bz Tryz.underlying407 rfl (by kernel_rfl)) rfl ?_
  exact ⟨by rw [show ((8 + ring : Nat) : Int) = 8 + (ring : Int) from by omega], kz⟩
end Go.Proofs.YtlkgdpdnhnakoaaGreatDoor

namespace Go.Proofs.YtlkgdpdnhnakoaaGreatDoor
open Go.RowKit Go.Sort Go.Shelf

/-- What a call of a store leaves. -/
def StPost (w : World) (p d bs m : Nat) (S : Sto) (v : Value) (fp : Nat → Prop) (e : Ending) (w' : World) : Prop := e = .returned v ∧ StoIn w' p d bs m S ∧ Kept fp w w'
def Sto.wq (S : Sto) (n : Int) (body : List Nat) : Dsk × Nat := writeB S.D ((8 + S.r.ring : Nat) : Int) (S.nsize : Nat) n body
def Sto.rq (S : Sto) (n : Int) : List Nat × Nat := readB S.D ((8 + S.r.ring : Nat) : Int) (S.nsize : Nat) n
def Sto.wr (S : Sto) (n : Int) (body : List Nat) : Sto × Nat :=
  if S.hasE n ≠ 0 then (S, S.hasE n) else if hasM (S.r.size : Nat) S.r.words n = true then (S, 11)
  else if (S.wq n body).2 = 5 then ({ S with D := (S.wq n body).1 }, 5) else (S.did (S.wq n body), (S.wq n body).2)
def Sto.rd (S : Sto) (n : Int) : Sto × List Nat × Nat :=
  if S.hasE n ≠ 0 then (S, [], S.hasE n) else ({ S with bad := S.bad || decide ((S.rq n).2 = 8) }, (S.rq n).1, (S.rq n).2)
set_option maxRecDepth 100000 in
set_option maxHeartbeats 1600000 in
theorem st_Write {w : World} {p d bs m : Nat} {S : Sto} (h : StoIn w p d bs m S) (n : Int) (a : Option Addr) (l c : Nat) (body : List Nat) (hl : l = body.length) (hb : Bts body) (hc : l ≤ c) (hat : NatsAt w .u8 a body) :
    Calls Tryz.prog 310 #[.pointer (some ⟨p, 0, none⟩), .int .i64 n, .slice a l c] w (StPost w p d bs m (S.wr n body).1 (.int .i64 (((S.wr n body).2 : Nat) : Int)) (FS p d bs m)) := by
  obtain ⟨R, hR⟩ : ∃ R, StPost w p d bs m (S.wr n body).1 (.int .i64 (((S.wr n body).2 : Nat) : Int)) (FS p d bs m) = R := ⟨_, rfl⟩
  rw [hR]
  have HR := Lib.hid hR
  clear hR
  have H := Lib.hid h
  have HS := Lib.hid (st_has h n)
  have AR := Lib.hid (fun w' (k : Same w w') => st_area (h.same k))
  obtain ⟨cap, wa, wc, ba, bc, na, nc, h1, h2, h3, h4, h5, h6, h7, h8, h9, h10, h11, h12⟩ := h
  have HU := Lib.hid (fun w' (k : Same w w') => bm_has (S.r.size : Nat) wa wc S.r.words n w' h3.w64 (h3.ws.same k))
  unfold mapV at HU
  have WQ := Lib.hid (fun w' (k : Same w w') => show Calls Tryz.prog 392 #[.pointer (some ⟨d, 0, none⟩), .agg #[.int .i64 ((8 + S.r.ring : Nat) : Int), .int .i64 (S.nsize : Nat)], .int .i64 n, .slice a l c] w' fun e w'' => e = .returned (.int .i64 ((S.wq n body).2 : Nat)) ∧ DiskIn w'' d bs cap m (S.wq n body).1 ∧ Kept (dod d bs m) w' w'' from bl_write (h2.same k) ((8 + S.r.ring : Nat) : Int) (S.nsize : Nat) n a l c body hl hb hc (hat.same k))
  have PC := Lib.hid (fun w' (k : Same w w') => cell_blk (h1.kept k (fun h => h)))
  have GB := Lib.hid h1
  have GP := Lib.hid (show ¬ dod d bs m p from h12)
  have MK := Lib.hid (fun W (D' : Dsk) (bad : Bool) (hb : Blk W p (stC d S.r wa wc ba bc S.nsize na S.nwords.length nc bad) 169) (hd : DiskIn W d bs cap m D') (k : Kept (FS p d bs m) w W) => show StoIn W p d bs m { S with D := D', bad := bad } from
    ⟨cap, wa, wc, ba, bc, na, nc, hb, hd, h3.kept k h9 h10, h4.kept k h11, h5, h6, h7, h8, h9, h10, h11, h12⟩)
  unfold stC at PC
  by_cases he : S.hasE n = 0
  rotate_left
  · have e : S.wr n body = (S, S.hasE n) := by unfold Sto.wr; rw [if_pos he]
    rw [e] at HR
    have FIN := Lib.hid (fun W (k : Same w W) => show R (.returned (.int .i64 ((S.hasE n : Nat) : Int))) W from by rw [← HR.out]; exact ⟨rfl, H.out.same k, k.mono (fun _ _ q => q.elim)⟩)
    generalize S.hasE n = N at HS he FIN
    have g1 : ((N : Int) != 0) = true := by simp; omega
    clear h1 h2 h3 h4 h5 h6 h7 h8 h9 h10 h11 h12 e hb hat hl
    go_enter Tryz.func310, Tryz.ntmps310
    go_wp2_with fail
    with_reducible refine HS.out.mono ?_
    rintro e w1 ⟨rfl, k1⟩
    have K1 := Lib.hid k1
    clear k1 HS
    go_wp2_with fail
    exact FIN.out _ K1.out
  rw [he] at HS
  have HE : Hid (S.wr n body = if hasM (S.r.size : Nat) S.r.words n = true then (S, 11) else if (S.wq n body).2 = 5 then ({ S with D := (S.wq n body).1 }, 5) else (S.did (S.wq n body), (S.wq n body).2)) := by show _ = _; unfold Sto.wr; rw [if_neg (fun q => q he)]
  clear h1 h2 h3 h4 h5 h6 h7 h8 h9 h10 h11 h12 hb hat he hl
  simp only [Int.natCast_zero] at HS
  generalize hasM (S.r.size : Nat) S.r.words n = hm at HU HE
  cases hm with
  | true =>
    have FIN := Lib.hid (fun W (k : Same w W) => show R (.returned (.int .i64 11)) W from by rw [← HR.out, HE.out, if_pos rfl]; exact ⟨rfl, H.out.same k, k.mono (fun _ _ q => q.elim)⟩)
    go_enter Tryz.func310, Tryz.ntmps310
    go_wp2_with fail
    with_reducible refine HS.out.mono ?_
    rintro e w1 ⟨rfl, k1⟩
    have K1 := Lib.hid k1
    have pc := PC.out w1 k1
    clear k1 HS
    go_wp2_with fail
    with_reducible refine (HU.out w1 K1.out).mono ?_
    rintro e w2 ⟨rfl, k2⟩
    have K2 := Lib.hid (K1.out.trans k2)
    clear k2 HU pc
    go_wp2_with fail
    exact FIN.out _ K2.out
  | false =>
    have HE2 := Lib.hid (show S.wr n body = if (S.wq n body).2 = 5 then ({ S with D := (S.wq n body).1 }, 5) else (S.did (S.wq n body), (S.wq n body).2) from by rw [HE.out, if_neg (by decide)])
    clear HE
    obtain ⟨q, hq⟩ : ∃ q, S.wq n body = q := ⟨_, rfl⟩
    rw [hq] at WQ HE2
    obtain ⟨D2, er⟩ := q
    dsimp only at WQ HE2
    have Q5 := Lib.hid (fun (he : er = 5) W (k : Kept (dod d bs m) w W) (hd : DiskIn W d bs cap m D2) => show R (.returned (.int .i64 5)) W from by
      have kk : Kept (FS p d bs m) w W := k.mono (fun _ _ q => .inr q)
      rw [← HR.out, HE2.out, if_pos he]
      exact ⟨rfl, MK.out W D2 S.bad (GB.out.kept k GP.out) hd kk, kk⟩)
    have QN := Lib.hid (fun (he : er ≠ 5) W (k : Kept (FS p d bs m) w W) (hs : StoIn W p d bs m { S with D := D2, bad := S.bad || decide (er ≠ 0) }) => show R (.returned (.int .i64 (er : Nat))) W from by
      rw [← HR.out, HE2.out, if_neg he]
      exact ⟨rfl, hs, k⟩)
    obtain ⟨A1, hA1⟩ : ∃ A1 : Int, ((8 + S.r.ring : Nat) : Int) = A1 := ⟨_, rfl⟩
    obtain ⟨ns, hns⟩ : ∃ ns, S.nsize = ns := ⟨_, rfl⟩
    rw [hA1, hns] at AR WQ
    clear hA1 hns hq
    go_enter Tryz.func310, Tryz.ntmps310
    go_wp2_with fail
    with_reducible refine HS.out.mono ?_
    rintro e w1 ⟨rfl, k1⟩
    have K1 := Lib.hid k1
    have pc := PC.out w1 k1
    clear k1 HS
    go_wp2_with fail
    with_reducible refine (HU.out w1 K1.out).mono ?_
    rintro e w2 ⟨rfl, k2⟩
    have K2 := Lib.hid (K1.out.trans k2)
    clear k2 HU pc
    have QX := Lib.hid (fun w' (k : Same w2 w') => PC.out w' (K2.out.trans k))
    go_wp2_with fail
    refine wp_region_T (S := fun w' => Same w2 w') 8 (by kernel_rfl) (Kept.refl _ _).drew (fun hHeld hDn => ?_)
    refine wpT_z 0 22 QX hHeld hDn fun hDn => ?_
    refine wpT_z 1 23 QX hHeld hDn fun hDn => ?_
    refine wpT_z 2 24 QX hHeld hDn fun hDn => ?_
    refine wpT_z 3 25 QX hHeld hDn fun hDn => ?_
    refine wpT_z 4 26 QX hHeld hDn fun hDn => ?_
    refine wpT_z 6 28 QX hHeld hDn fun hDn => ?_
    refine wpT_z 7 29 QX hHeld hDn fun hDn => ?_
    refine wpT_one (i := 5) rfl (by kernel_rfl) hDn (fun K' hK => ?_)
    go_simp
    with_reducible refine (AR.out _ (K2.out.trans ((Kept.refl _ _).drew))).mono ?_
    rintro e w5 ⟨rfl, k5⟩
    have K5 := Lib.hid (show Same w2 w5 from ((Kept.refl _ _).drew).trans k5)
    refine hK.out _ _ K5.out (fun hHeld2 hDn2 => ?_)
    clear hK K' hHeld hDn k5
    have hHeld := hHeld2; have hDn := hDn2
    clear hHeld2 hDn2
    refine wpT_last rfl (by kernel_rfl) hDn (fun K' hK => ?_)
    go_simp
    with_reducible refine (WQ.out _ (K2.out.trans K5.out)).mono ?_
    rintro e w6 ⟨rfl, hd6, k6⟩
    have D6 := Lib.hid hd6
    have K6 := Lib.hid (show Kept (dod d bs m) w w6 from ((K2.out.trans K5.out).mono (fun _ _ q => q.elim)).trans k6)
    refine hK.out _ _ (fun hDn2 => ?_)
    clear hK K' hHeld hDn k6 hd6 WQ AR
    have hDn := hDn2
    clear hDn2
    refine wpT_ze 9 8 hDn fun hDn => ?_
    refine wpT_done (by kernel_rfl) ?_ _
    clear hDn QX
    by_cases h5 : er = 5
    · have FI := Lib.hid (Q5.out h5 w6 K6.out D6.out)
      subst h5
      clear Q5 QN
      go_wp2_with fail
      exact FI.out
    · have g5 : ((er : Int) == 5) = false := by simp; omega
      have g6 : ((er : Int) != 5) = true := by simp; omega
      have B6 := Lib.hid (GB.out.kept K6.out GP.out)
      have FI := Lib.hid (QN.out h5)
      have DO := Lib.hid (st_done B6.out er)
      clear h5 Q5 QN
      go_wp2_with fail
      with_reducible refine DO.out.mono ?_
      rintro e w7 ⟨rfl, hb7, k7⟩
      have K7 := Lib.hid (show Kept (FS p d bs m) w w7 from (K6.out.mono (fun _ _ q => .inr q)).trans (k7.mono (fun _ _ q => .inl q)))
      have D7 := Lib.hid (D6.out.kept k7 (fun q => GP.out (.inl q.symm)) (fun q => GP.out (.inr (.inl q.symm))) (fun q => GP.out (.inr (.inr q.symm))))
      have B7 := Lib.hid hb7
      clear k7 hb7 DO
      go_wp2_with fail
      exact FI.out w7 K7.out (MK.out w7 D2 _ B7.out D7.out K7.out)
end Go.Proofs.YtlkgdpdnhnakoaaGreatDoor

namespace Go.Proofs.YtlkgdpdnhnakoaaGreatDoor
open Go.RowKit Go.Sort Go.Shelf

set_option maxRecDepth 100000 in
theorem st_Log {w : World} {p d bs m : Nat} {S : Sto} (h : StoIn w p d bs m S) :
    Calls Tryz.prog 36 #[.pointer (some ⟨p, 0, none⟩)] w fun e w' => e = .returned (.tuple #[.int .i64 8, .int .i64 (S.r.ring : Nat)]) ∧ Same w w' := by
  obtain ⟨cap, wa, wc, ba, bc, na, nc, h1, -⟩ := h
  have p3 : w.cell? ⟨p, 3, none⟩ = some (.int .i64 (S.r.ring : Nat)) := cell_blk h1 3
  have q3 := fun dq os => cell_regrown (w := w) p3 dq os
  clear h1
  go_enter Tryz.func36, Tryz.ntmps36
  go_wp2_with fail
  refine wp_region_quiet_below (by kernel_rfl) (by kernel_rfl) ?_
  repeat (first | go_big_quiet_step (fail) | quiet_step (fail))
  refine wpQuiet_nil ?_
  intro _ hw'
  obtain ⟨⟨dq, osq⟩, hw''⟩ := hw'
  subst hw''
  have kq := Lib.hid (show Same w _ from Kept.of_below (below_regrown w dq osq))
  go_wp2_with fail
  (try simp only [Exit.inBlock, Exit.then])
  exact ⟨rfl, _, results_tmp2 rfl _ _ _, rfl, kq.out⟩
end Go.Proofs.YtlkgdpdnhnakoaaGreatDoor

namespace Go.Proofs.YtlkgdpdnhnakoaaGreatDoor
open Go.RowKit Go.Sort Go.Shelf

end Go.Proofs.YtlkgdpdnhnakoaaGreatDoor

namespace Go.Proofs.YtlkgdpdnhnakoaaGreatDoor
open Go.RowKit
end Go.Proofs.YtlkgdpdnhnakoaaGreatDoor

namespace Go.Proofs.YtlkgdpdnhnakoaaGreatDoor
open Go.RowKit

theorem roomN_le (N r : Nat) : roomN N r ≤ 512 := by unfold roomN; omega
end Go.Proofs.YtlkgdpdnhnakoaaGreatDoor

namespace Go.Proofs.YtlkgdpdnhnakoaaGreatDoor
open Go.RowKit Go.Sort Go.Shelf

theorem Rdr.kept {w w' : World} {g : Nat} {a : Option Addr} {cap : Nat} {xs : List Nat} {er : Nat} {fp : Nat → Prop} (h : Rdr w g a cap xs er) (k : Kept fp w w') (h1 : ¬ fp g) (h2 : ∀ x, a = some x → ¬ fp x.block) : Rdr w' g a cap xs er :=
  ⟨h.1.kept k h1, h.2.1.kept k h2, h.2.2⟩
end Go.Proofs.YtlkgdpdnhnakoaaGreatDoor

namespace Go.Proofs.YtlkgdpdnhnakoaaGreatDoor
open Go.RowKit Go.Sort Go.Shelf

end Go.Proofs.YtlkgdpdnhnakoaaGreatDoor
