/- A call on both disks (Do). -/
import Derived.Test.YtlmpkonfclnceaaRef3h
import Derived.Test.YtlmpkonfclnceaaSecRd
namespace Go.Proofs.Ytlmpkonfclnceaa
open Go.RowKit

def bytesF (c : Nat) : List Nat := (fullL c).set 9 ((c + 1) % 256)
def bytesA (c u : Nat) : List Nat := if 0 < u then (bytesF c).take u else bytesF c
/-- What a call leaves, and what it tells. -/
def doD (D : Dsk) (k : Nat) (n : Int) (c u : Nat) (dn : Bool) (fs : List Nat) : Dsk × Nat :=
  if k % 8 = 5 then syncD D else if k % 8 = 6 then breakD D n dn else if k % 8 = 7 then (powerD D fs, 0) else writeD D n (bytesA c u)
theorem bytesF_len (c : Nat) : (bytesF c).length = 256 := by unfold bytesF; rw [List.length_set]; exact fullL_len c
theorem bytesF_bts {c : Nat} (h : c < 256) : Bts (bytesF c) := by
  intro x hx
  rcases List.mem_or_eq_of_mem_set hx with q | rfl
  · exact fullL_bts h x q
  · omega
theorem bytesA_bts {c : Nat} (h : c < 256) (u : Nat) : Bts (bytesA c u) := by
  unfold bytesA
  split
  · exact (bytesF_bts h).take u
  · exact bytesF_bts h
theorem doD_ok {D : Dsk} (h : D.OK) (k : Nat) {n : Int} (hn : n < 9223372036854775808) {c : Nat} (hc : c < 256) (u : Nat) (dn : Bool) {fs : List Nat} (hf : Bts fs) : (doD D k n c u dn fs).1.OK := by
  unfold doD
  split
  · exact syncD_ok h
  · split
    · exact breakD_ok h hn dn
    · split
      · exact powerD_ok h hf
      · exact writeD_ok h n (bytesA_bts hc u)
theorem callD_len (D : Dsk) {s : List Sec} (h : s.length = D.s.length) : (callD D s).1.s.length = D.s.length := by
  unfold callD; dsimp only; split
  · rfl
  · exact h
theorem writeD_len (D : Dsk) (n : Int) (b : List Nat) : (writeD D n b).1.s.length = D.s.length := by
  unfold writeD; split
  · split
    · exact callD_len D (putS_len _ _ _)
    · rfl
  · rfl
theorem syncD_len (D : Dsk) : (syncD D).1.s.length = D.s.length := by
  unfold syncD; split
  · rfl
  · exact callD_len D (settle_len _)
theorem breakD_len (D : Dsk) (a : Int) (o : Bool) : (breakD D a o).1.s = D.s := by
  unfold breakD; split
  · rfl
  · split <;> rfl
theorem doD_len (D : Dsk) (k : Nat) (n : Int) (c u : Nat) (dn : Bool) (fs : List Nat) : (doD D k n c u dn fs).1.s.length = D.s.length := by
  unfold doD
  split
  · exact syncD_len D
  · split
    · rw [breakD_len]
    · split
      · exact powS_len _ _
      · exact writeD_len D n _

theorem secsAt_lt {w : World} {a : Option Addr} {s : List Sec} (h : SecsAt w a s) : s = [] ∨ ∀ x, a = some x → x.block < w.heap.size := by
  rcases h with h | ⟨b, o, rfl, hlt, _⟩
  · exact .inl h
  · exact .inr (fun x hx => by cases hx; exact hlt)
theorem SecsAt.kept {w w' : World} {fp : Nat → Prop} {a : Option Addr} {s : List Sec} (h : SecsAt w a s) (k : Kept fp w w') (hn : s = [] ∨ ∀ x, a = some x → ¬ fp x.block) : SecsAt w' a s := by
  rcases hn with h0 | hn
  · exact .inl h0
  · rcases h with h | ⟨b, off, rfl, hb, hc⟩
    · exact .inl h
    · have e : ∀ j, w'.cell? ⟨b, j, none⟩ = w.cell? ⟨b, j, none⟩ := fun j => k.cell (p := ⟨b, j, none⟩) hb (hn ⟨b, off, none⟩ rfl)
      exact .inr ⟨b, off, rfl, Nat.lt_of_lt_of_le hb k.size, fun i x hx => by rw [e, e, e]; exact hc i x hx⟩
theorem SecsAt.apart2 {w w' : World} {a : Option Addr} {s : List Sec} {g1 g2 : Nat} {cs1 cs2 : Array Value} {t1 t2 : TypeId} (h : SecsAt w a s) (hb1 : Blk w g1 cs1 t1) (hb2 : Blk w g2 cs2 t2) (hk : Kept (fun j => j = g1 ∨ j = g2) w w')
    (hn1 : ∀ (i : Nat) (x : ByteArray), cs1[i]? ≠ some (.string x)) (hn2 : ∀ (i : Nat) (x : ByteArray), cs2[i]? ≠ some (.string x)) : SecsAt w' a s := by
  cases s with
  | nil => exact .inl rfl
  | cons x s =>
    have h' := h
    rcases h with h | ⟨b, o, rfl, hlt, hc⟩
    · cases h
    · have h0 := (hc 0 x rfl).1
      refine h'.kept hk (.inr (fun y hy => ?_))
      cases hy
      rintro (q | q)
      · dsimp only at q
        subst q
        rw [cell_blk hb1] at h0
        exact hn1 _ _ h0
      · dsimp only at q
        subst q
        rw [cell_blk hb2] at h0
        exact hn2 _ _ h0
theorem tmod8_n (q : Nat) : (q : Int).tmod 8 = ((q % 8 : Nat) : Int) := by rw [Int.tmod_eq_emod_of_nonneg (by omega)]; omega
theorem u8_succ (x : Nat) : IntKind.u8.wrap ((x : Int) + 1) = (((x + 1) % 256 : Nat) : Int) := by
  rw [IntKind.wrap_u8]; omega

/-- What Do leaves. -/
def DoPost (w : World) (d bs cap m : Nat) (a : Option Addr) (D : Dsk) (e : Ending) (w' : World) : Prop :=
  ∃ a' c', e = .returned (.tuple #[refV a' D.s.length c' D, .int .i64 0]) ∧ (SecsAt w' a' D.s ∧ (a' = a ∨ Far w a')) ∧ DiskIn w' d bs cap m D ∧ Kept (dod d bs m) w w'

set_option maxRecDepth 100000 in
set_option maxHeartbeats 4000000 in
theorem do_any {w : World} {d bs cap m : Nat} {D : Dsk} (h : DiskIn w d bs cap m D) (a : Option Addr) (c0 : Nat) (hs : SecsAt w a D.s) (ho : ∀ x, a = some x → ¬ dod d bs m x.block)
    (k : Nat) (n : Int) (c u : Nat) (dn : Bool) (fa : Option Addr) (fl fc : Nat) (fs : List Nat) (_hk : k < 256) (hn : -9223372036854775808 ≤ n ∧ n ≤ 9223372036854775807) (hc : c < 256) (hu : u < 256) (hfl : fl = fs.length) (hfc : fl ≤ fc) (hfb : Bts fs) (hfa : NatsAt w .u8 fa fs)
    (hfo : fs = [] ∨ ∀ x, fa = some x → ¬ dod d bs m x.block) :
    Calls Try.prog 21 #[.pointer (some ⟨d, 0, none⟩), refV a D.s.length c0 D, .agg #[.int .u8 (k : Nat), .int .i64 n, .int .u8 (c : Nat), .int .u8 (u : Nat), .bool dn, .slice fa fl fc]] w
      (DoPost w d bs cap m a (doD D k n c u dn fs).1) := by
  have H := Lib.hid h; have HS := Lib.hid hs; have HO := Lib.hid ho; have HFL := Lib.hid hfl; have HFB := Lib.hid hfb; have HFA := Lib.hid hfa; have HFO := Lib.hid hfo
  have l1 := h.box.lt; have l2 := h.safe.lt; have l3 := h.map.lt
  have hok := h.ok
  have ht := tmod8_n k
  obtain ⟨r, hr⟩ : ∃ r, k % 8 = r := ⟨_, rfl⟩
  have hdo : doD D k n c u dn fs = if r = 5 then syncD D else if r = 6 then breakD D n dn else if r = 7 then (powerD D fs, 0) else writeD D n (bytesA c u) := by unfold doD; rw [hr]
  rw [hr] at ht
  rw [hdo]
  have OK := Lib.hid hok
  clear h hs ho hfl hfb hfa hfo hok hdo hr
  simp only [refV]
  by_cases h5 : r = 5
  · subst h5
    rw [if_pos rfl]
    obtain ⟨R, hR⟩ : ∃ R, syncD D = R := ⟨_, rfl⟩
    rw [hR]
    have HR := Lib.hid hR
    clear hR
    go_enter Try.func21, Try.ntmps21
    go_wp2_with fail
    refine Calls.fr3 ?_
    intro W F' K' hz'
    have F := Lib.hid F'
    have K := Lib.hid (show Kept (dod d bs m) w W from K'.mono (fun _ _ h => h.elim))
    have HW := Lib.hid hz'
    have HH := Lib.hid (H.out.same K')
    have HSE := Lib.hid (HS.out.same K')
    clear F' K' hz'
    obtain ⟨p0, f0, p1, f1, p2, f2, -⟩ := F.out.rules
    have z0 := F.out.1.lt
    have z1 := F.out.2.1.lt
    have z2 := F.out.2.2.1.lt
    refine (sd_sync HH.out).mono ?_
    rintro e w3 ⟨rfl, h3, k3⟩
    have RC := Lib.hid (rs_sync a D.s.length c0 D rfl OK.out.few OK.out.aft w3 (HSE.out.kept k3 (.inr HO.out)))
    have KN := Lib.hid (K.out.trans k3)
    have FN := Lib.hid (F.out.kept k3 (by intro x hx; simp at hx; rcases hx with rfl | rfl | rfl <;> (intro q; rcases q with q | q | q <;> (dsimp only at q; omega))))
    have HSN := Lib.hid (HSE.out.kept k3 (.inr HO.out))
    have HHN := Lib.hid h3
    clear K F HSE HH k3 h3
    have K := KN
    have F := FN
    have HSE := HSN
    have HH := HHN
    clear KN FN HSN HHN
    clear p0 f0 z0 p1 f1 z1 p2 f2 z2
    obtain ⟨p0, f0, p1, f1, p2, f2, -⟩ := F.out.rules
    have z0 := F.out.1.lt
    have z1 := F.out.2.1.lt
    have z2 := F.out.2.2.1.lt
    rw [HR.out] at HH RC ⊢
    simp only [refV] at RC
    go_wp2_with fail
    refine RC.out.mono ?_
    rintro e w4 ⟨a4, c4, rfl, ⟨hs4, hf4⟩, k4⟩
    have HS4 := Lib.hid hs4
    have HF4 := Lib.hid (show a4 = a ∨ Far w a4 from hf4.imp id (fun q => q.mono K.out.size))
    clear hs4 hf4 RC
    have KN := Lib.hid (K.out.trans (k4.mono (fun _ _ h => h.elim)))
    have FN := Lib.hid (F.out.same k4)
    have HHN := Lib.hid (HH.out.same k4)
    clear K F HH HSE k4
    have K := KN
    have F := FN
    have HH := HHN
    clear KN FN HHN
    clear p0 f0 z0 p1 f1 z1 p2 f2 z2
    obtain ⟨p0, f0, p1, f1, p2, f2, -⟩ := F.out.rules
    have z0 := F.out.1.lt
    have z1 := F.out.2.1.lt
    have z2 := F.out.2.2.1.lt
    simp only [refV]
    go_wp2_with fail
    refine bodyPost_ret (results_two_tmp rfl _ _ (w.heap.size + 1 + 1) 43 #[.slice a4 R.1.s.length c4, .bool R.1.off, .int .i64 R.1.calls, .int .i64 R.1.after, .bool R.1.done] _ rfl (Blk.set5 (v0 := .slice none 0 0) (v1 := .bool false) (v2 := .int .i64 0) (v3 := .int .i64 0) (v4 := .bool false) ?_) Try.underlying43 rfl (by kernel_rfl)) rfl ?_
    · have hb2 : Blk _ (w.heap.size + 1 + 1) #[.slice none 0 0, .bool false, .int .i64 0, .int .i64 0, .bool false] 43 := F.out.2.2.1
      repeat (first | with_reducible exact hb2 | with_reducible refine Blk.other ?_ (by dsimp only; omega) _)
    · refine ⟨a4, c4, rfl, ⟨?_, HF4.out⟩, ?_, ?_⟩
      · refine SecsAt.apart2 HS4.out F.out.1 F.out.2.2.1 ?_ (nostr5 _ _ _ _ _ _ _) (nostr5 _ _ _ _ _ _ _)
        repeat (first | with_reducible exact Kept.refl _ _ | with_reducible refine Kept.setCell ?_ (fun _ => by dsimp only; omega) _)
      · refine HH.out.kept (fp := fun j => w.heap.size ≤ j) ?_ (by omega) (by omega) (by omega)
        repeat (first | with_reducible exact Kept.refl _ _ | with_reducible refine Kept.setCell ?_ (fun _ => by dsimp only; omega) _)
      · repeat (first | with_reducible exact K.out | with_reducible refine Kept.setNew ?_ (by dsimp only; omega) _)
  rw [if_neg h5]
  have h5' : ¬ (r : Int) = 5 := by omega
  by_cases h6 : r = 6
  · subst h6
    rw [if_pos rfl]
    have hRs := breakD_len D n dn
    obtain ⟨R, hR⟩ : ∃ R, breakD D n dn = R := ⟨_, rfl⟩
    rw [hR] at hRs ⊢
    have HR := Lib.hid hR
    have HRS := Lib.hid hRs
    clear hR hRs
    go_enter Try.func21, Try.ntmps21
    go_wp2_with fail
    refine Calls.fr3 ?_
    intro W F' K' hz'
    have F := Lib.hid F'
    have K := Lib.hid (show Kept (dod d bs m) w W from K'.mono (fun _ _ h => h.elim))
    have HW := Lib.hid hz'
    have HH := Lib.hid (H.out.same K')
    have HSE := Lib.hid (HS.out.same K')
    clear F' K' hz'
    obtain ⟨p0, f0, p1, f1, p2, f2, -⟩ := F.out.rules
    have z0 := F.out.1.lt
    have z1 := F.out.2.1.lt
    have z2 := F.out.2.2.1.lt
    refine (sd_break HH.out n (by omega) dn).mono ?_
    rintro e w3 ⟨rfl, h3, k3'⟩
    have k3 : Kept (dod d bs m) W w3 := k3'.mono (fun _ _ q => .inl q)
    have RC := Lib.hid (rs_break a D.s.length c0 D n dn w3)
    clear k3'
    have KN := Lib.hid (K.out.trans k3)
    have FN := Lib.hid (F.out.kept k3 (by intro x hx; simp at hx; rcases hx with rfl | rfl | rfl <;> (intro q; rcases q with q | q | q <;> (dsimp only at q; omega))))
    have HSN := Lib.hid (HSE.out.kept k3 (.inr HO.out))
    have HHN := Lib.hid h3
    clear K F HSE HH k3 h3
    have K := KN
    have F := FN
    have HSE := HSN
    have HH := HHN
    clear KN FN HSN HHN
    clear p0 f0 z0 p1 f1 z1 p2 f2 z2
    obtain ⟨p0, f0, p1, f1, p2, f2, -⟩ := F.out.rules
    have z0 := F.out.1.lt
    have z1 := F.out.2.1.lt
    have z2 := F.out.2.2.1.lt
    rw [HR.out] at HH RC ⊢
    have HL : Hid (D.s.length = R.1.s.length) := by show _ = _; rw [HRS.out]
    have HSR : Hid (SecsAt w3 a R.1.s) := by show SecsAt w3 a R.1.s; rw [HRS.out]; exact HSE.out
    simp only [refV] at RC
    go_wp2_with fail
    refine RC.out.mono ?_
    rintro e w4 ⟨rfl, k4⟩
    obtain ⟨a4, ha4⟩ : ∃ a4, a = a4 := ⟨_, rfl⟩
    obtain ⟨c4, hc4⟩ : ∃ c4, c0 = c4 := ⟨_, rfl⟩
    have HS4 : Hid (SecsAt w4 a4 R.1.s) := ha4 ▸ HSR.out.same k4
    have HF4 : Hid (a4 = a ∨ Far w a4) := .inl ha4.symm
    rw [ha4, hc4]
    have HA4 := Lib.hid ha4; have HC4 := Lib.hid hc4
    clear RC HSR ha4 hc4
    have KN := Lib.hid (K.out.trans (k4.mono (fun _ _ h => h.elim)))
    have FN := Lib.hid (F.out.same k4)
    have HHN := Lib.hid (HH.out.same k4)
    clear K F HH HSE k4
    have K := KN
    have F := FN
    have HH := HHN
    clear KN FN HHN
    clear p0 f0 z0 p1 f1 z1 p2 f2 z2
    obtain ⟨p0, f0, p1, f1, p2, f2, -⟩ := F.out.rules
    have z0 := F.out.1.lt
    have z1 := F.out.2.1.lt
    have z2 := F.out.2.2.1.lt
    go_wp2_with fail
    refine bodyPost_ret (results_two_tmp rfl _ _ (w.heap.size + 1 + 1) 43 #[.slice a4 D.s.length c4, .bool R.1.off, .int .i64 R.1.calls, .int .i64 R.1.after, .bool R.1.done] _ rfl (Blk.set5 (v0 := .slice none 0 0) (v1 := .bool false) (v2 := .int .i64 0) (v3 := .int .i64 0) (v4 := .bool false) ?_) Try.underlying43 rfl (by kernel_rfl)) rfl ?_
    · have hb2 : Blk _ (w.heap.size + 1 + 1) #[.slice none 0 0, .bool false, .int .i64 0, .int .i64 0, .bool false] 43 := F.out.2.2.1
      repeat (first | with_reducible exact hb2 | with_reducible refine Blk.other ?_ (by dsimp only; omega) _)
    · refine ⟨a4, c4, (by rw [HL.out]; rfl), ⟨?_, HF4.out⟩, ?_, ?_⟩
      · refine SecsAt.apart2 HS4.out F.out.1 F.out.2.2.1 ?_ (nostr5 _ _ _ _ _ _ _) (nostr5 _ _ _ _ _ _ _)
        repeat (first | with_reducible exact Kept.refl _ _ | with_reducible refine Kept.setCell ?_ (fun _ => by dsimp only; omega) _)
      · refine HH.out.kept (fp := fun j => w.heap.size ≤ j) ?_ (by omega) (by omega) (by omega)
        repeat (first | with_reducible exact Kept.refl _ _ | with_reducible refine Kept.setCell ?_ (fun _ => by dsimp only; omega) _)
      · repeat (first | with_reducible exact K.out | with_reducible refine Kept.setNew ?_ (by dsimp only; omega) _)
  rw [if_neg h6]
  have h6' : ¬ (r : Int) = 6 := by omega
  by_cases h7 : r = 7
  · subst h7
    rw [if_pos rfl]
    obtain ⟨R, hR⟩ : ∃ R, powerD D fs = R := ⟨_, rfl⟩
    have hR1 : ((powerD D fs, 0) : Dsk × Nat).1 = R := hR
    rw [hR1]
    have HR := Lib.hid hR
    clear hR hR1
    go_enter Try.func21, Try.ntmps21
    go_wp2_with fail
    refine Calls.fr3 ?_
    intro W F' K' hz'
    have F := Lib.hid F'
    have K := Lib.hid (show Kept (dod d bs m) w W from K'.mono (fun _ _ h => h.elim))
    have HW := Lib.hid hz'
    have HH := Lib.hid (H.out.same K')
    have HSE := Lib.hid (HS.out.same K')
    clear F' K' hz'
    obtain ⟨p0, f0, p1, f1, p2, f2, -⟩ := F.out.rules
    have z0 := F.out.1.lt
    have z1 := F.out.2.1.lt
    have z2 := F.out.2.2.1.lt
    have HFW := Lib.hid (HFA.out.kept' K.out HFO.out)
    refine (sd_power HH.out fa fl fc fs HFL.out hfc HFB.out HFW.out).mono ?_
    rintro e w3 ⟨rfl, h3, k3⟩
    have RC := Lib.hid (rs_power a D.s.length c0 D rfl OK.out (.slice fa fl fc) fs HFB.out w3 (HSE.out.kept k3 (.inr HO.out)) ⟨fa, fl, fc, rfl, HFL.out, hfc, HFW.out.kept' k3 HFO.out⟩)
    have KN := Lib.hid (K.out.trans k3)
    have FN := Lib.hid (F.out.kept k3 (by intro x hx; simp at hx; rcases hx with rfl | rfl | rfl <;> (intro q; rcases q with q | q | q <;> (dsimp only at q; omega))))
    have HSN := Lib.hid (HSE.out.kept k3 (.inr HO.out))
    have HHN := Lib.hid h3
    clear K F HSE HH k3 h3
    have K := KN
    have F := FN
    have HSE := HSN
    have HH := HHN
    clear KN FN HSN HHN
    clear p0 f0 z0 p1 f1 z1 p2 f2 z2
    obtain ⟨p0, f0, p1, f1, p2, f2, -⟩ := F.out.rules
    have z0 := F.out.1.lt
    have z1 := F.out.2.1.lt
    have z2 := F.out.2.2.1.lt
    rw [HR.out] at HH RC
    simp only [refV] at RC
    go_wp2_with fail
    refine RC.out.mono ?_
    rintro e w4 ⟨a4, c4, rfl, ⟨hs4, hf4⟩, k4⟩
    have HS4 := Lib.hid hs4
    have HF4 := Lib.hid (show a4 = a ∨ Far w a4 from .inr (hf4.mono K.out.size))
    clear hs4 hf4 RC
    have KN := Lib.hid (K.out.trans (k4.mono (fun _ _ h => h.elim)))
    have FN := Lib.hid (F.out.same k4)
    have HHN := Lib.hid (HH.out.same k4)
    clear K F HH HSE k4
    have K := KN
    have F := FN
    have HH := HHN
    clear KN FN HHN
    clear p0 f0 z0 p1 f1 z1 p2 f2 z2
    obtain ⟨p0, f0, p1, f1, p2, f2, -⟩ := F.out.rules
    have z0 := F.out.1.lt
    have z1 := F.out.2.1.lt
    have z2 := F.out.2.2.1.lt
    simp only [refV]
    go_wp2_with fail
    refine bodyPost_ret (results_two_tmp rfl _ _ (w.heap.size + 1 + 1) 43 #[.slice a4 R.s.length c4, .bool R.off, .int .i64 R.calls, .int .i64 R.after, .bool R.done] _ rfl (Blk.set5 (v0 := .slice none 0 0) (v1 := .bool false) (v2 := .int .i64 0) (v3 := .int .i64 0) (v4 := .bool false) ?_) Try.underlying43 rfl (by kernel_rfl)) rfl ?_
    · have hb2 : Blk _ (w.heap.size + 1 + 1) #[.slice none 0 0, .bool false, .int .i64 0, .int .i64 0, .bool false] 43 := F.out.2.2.1
      repeat (first | with_reducible exact hb2 | with_reducible refine Blk.other ?_ (by dsimp only; omega) _)
    · refine ⟨a4, c4, rfl, ⟨?_, HF4.out⟩, ?_, ?_⟩
      · refine SecsAt.apart2 HS4.out F.out.1 F.out.2.2.1 ?_ (nostr5 _ _ _ _ _ _ _) (nostr5 _ _ _ _ _ _ _)
        repeat (first | with_reducible exact Kept.refl _ _ | with_reducible refine Kept.setCell ?_ (fun _ => by dsimp only; omega) _)
      · refine HH.out.kept (fp := fun j => w.heap.size ≤ j) ?_ (by omega) (by omega) (by omega)
        repeat (first | with_reducible exact Kept.refl _ _ | with_reducible refine Kept.setCell ?_ (fun _ => by dsimp only; omega) _)
      · repeat (first | with_reducible exact K.out | with_reducible refine Kept.setNew ?_ (by dsimp only; omega) _)
  rw [if_neg h7]
  have h7' : ¬ (r : Int) = 7 := by omega
  obtain ⟨B, hB⟩ : ∃ B, bytesA c u = B := ⟨_, rfl⟩
  obtain ⟨R, hR⟩ : ∃ R, writeD D n B = R := ⟨_, rfl⟩
  rw [hB, hR]
  have HB := Lib.hid hB
  have HR := Lib.hid hR
  have HRL : Hid (R.1.s.length = D.s.length) := hR ▸ writeD_len D n B
  have HSL := Lib.hid (secsAt_lt HS.out)
  clear hB hR
  go_enter Try.func21, Try.ntmps21
  go_wp2_with fail
  refine Calls.fr3 ?_
  intro W F' K' hz'
  have F := Lib.hid F'
  have K := Lib.hid (show Kept (dod d bs m) w W from K'.mono (fun _ _ h => h.elim))
  have HW := Lib.hid hz'
  have HH := Lib.hid (H.out.same K')
  have HSE := Lib.hid (HS.out.same K')
  clear F' K' hz'
  obtain ⟨p0, f0, p1, f1, p2, f2, -⟩ := F.out.rules
  have z0 := F.out.1.lt
  have z1 := F.out.2.1.lt
  have z2 := F.out.2.2.1.lt
  refine (full_any c W).mono ?_
  rintro e w3 ⟨g, rfl, ho3, k3'⟩
  have hg := ho3.lt.1
  have k3 : Kept (dod d bs m) W w3 := k3'.mono (fun _ _ h => h.elim)
  have O3 := Lib.hid ho3
  have h3 := HH.out.same k3'
  clear ho3 k3'
  have KN := Lib.hid (K.out.trans k3)
  have FN := Lib.hid (F.out.kept k3 (by intro x hx; simp at hx; rcases hx with rfl | rfl | rfl <;> (intro q; rcases q with q | q | q <;> (dsimp only at q; omega))))
  have HSN := Lib.hid (HSE.out.kept k3 (.inr HO.out))
  have HHN := Lib.hid h3
  clear K F HSE HH k3 h3
  have K := KN
  have F := FN
  have HSE := HSN
  have HH := HHN
  clear KN FN HSN HHN
  clear p0 f0 z0 p1 f1 z1 p2 f2 z2
  obtain ⟨p0, f0, p1, f1, p2, f2, -⟩ := F.out.rules
  have z0 := F.out.1.lt
  have z1 := F.out.2.1.lt
  have z2 := F.out.2.2.1.lt
  have hgz := HW.out
  have hg3 : w.heap.size + 3 ≤ g := by omega
  have hc9 := O3.out.cell (j := 9) (x := c) rfl (by simp [fullL])
  have hf9 := fun i => O3.out.free rfl i
  have hlg := O3.out.lt.2
  have h256 : ((c : Int) + 1) % 256 = (((c + 1) % 256 : Nat) : Int) := by omega
  have O4 : Hid (OwnN (w3.setCell ⟨g, 9, none⟩ (.int .u8 (((c : Int) + 1) % 256))) W.heap.size 5 .u8 (.slice (some ⟨g, 0, none⟩) 256 256) (bytesF c)) := by
    rw [h256]
    exact O3.out.set (fullL_len c) 9 ((c + 1) % 256)
  have k4 : Kept (fun j => j = g) w3 (w3.setCell ⟨g, 9, none⟩ (.int .u8 (((c : Int) + 1) % 256))) := (Kept.refl _ _).setG _ _
  have K4 := Lib.hid k4
  have HSE4 := Lib.hid (HSE.out.kept k4 (HSL.out.imp id (fun q x hx => by have := q x hx; omega)))
  have HH4 := Lib.hid (HH.out.kept k4 (by omega) (by omega) (by omega))
  clear k4 hgz h256
  by_cases hu0 : u = 0
  · subst hu0
    have HLB : Hid (256 = B.length) := by show _ = _; rw [← HB.out]; exact (bytesF_len c).symm
    have hBe : bytesF c = B := HB.out
    have NB := Lib.hid (show NatsAt _ .u8 (some ⟨g, 0, none⟩) B from hBe ▸ O4.out.nats)
    clear hBe
    go_wp2_with fail
    refine (sd_write HH4.out n (some ⟨g, 0, none⟩) 256 256 B HLB.out (HB.out ▸ bytesA_bts hc _) NB.out).mono ?_
    rintro e w5 ⟨rfl, h5', k5⟩
    rw [HR.out] at h5' ⊢
    have hd5 : ¬ dod d bs m g := by rintro (q | q | q) <;> omega
    have RC := Lib.hid (rs_write a D.s.length c0 D rfl OK.out.few OK.out.aft n (some ⟨g, 0, none⟩) 256 256 B HLB.out w5 (HSE4.out.kept k5 (.inr HO.out)) (NB.out.kept k5 (fun x hx => by cases hx; exact hd5)))
    rw [HR.out] at RC
    simp only [refV] at RC
    have O5 := Lib.hid (O4.out.kept k5 (fun x hx => by cases hx; exact hd5))
    have KN := Lib.hid ((K.out.step K4.out (fun i hi q => by omega)).trans k5)
    have FN := Lib.hid ((F.out.kept K4.out (by intro x hx; simp at hx; rcases hx with rfl | rfl | rfl <;> (dsimp only; omega))).kept k5 (by intro x hx; simp at hx; rcases hx with rfl | rfl | rfl <;> (intro q; rcases q with q | q | q <;> (dsimp only at q; omega))))
    have HHN := Lib.hid h5'
    have hg5 : g < w5.heap.size := O5.out.lt.2
    clear K F HH HSE K4 HH4 HSE4 O3 O4 NB k5 h5' hc9 hf9 hlg
    have K := KN
    have F := FN
    have HH := HHN
    clear KN FN HHN
    clear p0 f0 z0 p1 f1 z1 p2 f2 z2
    obtain ⟨p0, f0, p1, f1, p2, f2, -⟩ := F.out.rules
    have z0 := F.out.1.lt
    have z1 := F.out.2.1.lt
    have z2 := F.out.2.2.1.lt
    go_wp2_with fail
    refine RC.out.mono ?_
    rintro e w6 ⟨a4, c4, rfl, ⟨hs4, hf4⟩, k6⟩
    have O6 := Lib.hid (O5.out.same k6)
    have HS4 := Lib.hid hs4
    have HF4 := Lib.hid (show a4 = a ∨ Far w a4 from hf4.imp id (fun q => q.mono K.out.size))
    have HG4 : Hid (R.1.s = [] ∨ ∀ x, a4 = some x → ¬ x.block = g) := by
      rcases hf4 with q | q
      · subst q
        exact HSL.out.imp (fun z => List.eq_nil_of_length_eq_zero (by rw [HRL.out, z]; rfl)) (fun z x hx => by have := z x hx; omega)
      · exact .inr (fun x hx => by have := q x hx; omega)
    have KN := Lib.hid (K.out.trans (k6.mono (fun _ _ h => h.elim)))
    have FN := Lib.hid (F.out.same k6)
    have HHN := Lib.hid (HH.out.same k6)
    clear K F HH hs4 hf4 RC O5 k6 hg5
    have K := KN
    have F := FN
    have HH := HHN
    clear KN FN HHN
    clear p0 f0 z0 p1 f1 z1 p2 f2 z2
    obtain ⟨p0, f0, p1, f1, p2, f2, -⟩ := F.out.rules
    have z0 := F.out.1.lt
    have z1 := F.out.2.1.lt
    have z2 := F.out.2.2.1.lt
    simp only [refV]
    go_wp2_with fail
    go_loopw [11] (fun iv wr => ∃ (i : Nat) (xs : List Nat), iv = .int .i64 i ∧ i ≤ 256 ∧ xs.length = 256 ∧ OwnN wr W.heap.size 5 .u8 (.slice (some ⟨g, 0, none⟩) 256 256) xs ∧ Fr wr [(w.heap.size, #[.slice a4 R.1.s.length c4, .bool R.1.off, .int .i64 R.1.calls, .int .i64 R.1.after, .bool R.1.done], 43), (w.heap.size + 1 + 1, #[.slice none 0 0, .bool false, .int .i64 0, .int .i64 0, .bool false], 43)] ∧ SecsAt wr a4 R.1.s ∧ DiskIn wr d bs cap m R.1 ∧ Kept (dod d bs m) w wr) (fun iv _ => 256 - (intOf iv).toNat)
    case atStart =>
      refine ⟨0, bytesF c, rfl, by omega, bytesF_len c, O6.out.kept (fp := fun j => j = w.heap.size) ?_ (fun x hx => by cases hx; dsimp only; omega), ⟨Blk.set5 F.out.1, ?_, trivial⟩, SecsAt.apart HS4.out F.out.1 ?_ (nostr5 _ _ _ _ _ _ _), HH.out.kept (fp := fun j => j = w.heap.size) ?_ (by omega) (by omega) (by omega), ?_⟩
      · repeat (first | with_reducible exact Kept.refl _ _ | with_reducible refine Kept.setG ?_ _ _)
      · have hb2 : Blk _ (w.heap.size + 1 + 1) #[.slice none 0 0, .bool false, .int .i64 0, .int .i64 0, .bool false] 43 := F.out.2.2.1
        repeat (first | with_reducible exact hb2 | with_reducible refine Blk.other ?_ (by dsimp only; omega) _)
      · repeat (first | with_reducible exact Kept.refl _ _ | with_reducible refine Kept.setG ?_ _ _)
      · repeat (first | with_reducible exact Kept.refl _ _ | with_reducible refine Kept.setG ?_ _ _)
      · repeat (first | with_reducible exact K.out | with_reducible refine Kept.setNew ?_ (by dsimp only; omega) _)
    case round =>
      clear K F HH HS4 O6
      clear p0 f0 z0 p1 f1 z1 p2 f2 z2
      obtain ⟨i, xs, rfl, hi, hxl, hown, hfr, hsa, hda, hka⟩ := hrel
      have O7 := Lib.hid hown; have F := Lib.hid hfr; have HS4 := Lib.hid hsa; have HH := Lib.hid hda; have K := Lib.hid hka
      have hlg := hown.lt.2
      clear hown hfr hsa hda hka
      obtain ⟨p0, f0, p2, f2, -⟩ := F.out.rules
      have z0 := F.out.1.lt
      have z2 := F.out.2.1.lt
      by_cases hgo : i < 256
      · obtain ⟨x, hx⟩ : ∃ x, xs[i]? = some x := ⟨_, List.getElem?_eq_getElem (by omega)⟩
        have c9 := O7.out.cell hxl hx
        have f9 := fun i => O7.out.free hxl i
        have h256 : ((x : Int) + 1) % 256 = (((x + 1) % 256 : Nat) : Int) := by omega
        have O8 : Hid (OwnN (wr.setCell ⟨g, i, none⟩ (.int .u8 (((x : Int) + 1) % 256))) W.heap.size 5 .u8 (.slice (some ⟨g, 0, none⟩) 256 256) (xs.set i ((x + 1) % 256))) := by
          rw [h256]
          exact O7.out.set hxl i ((x + 1) % 256)
        have hgo1 : (i : Int) < (256 : Int) := by omega
        have hgo2 : (0 : Int) ≤ (i : Int) := by omega
        have HXL := Lib.hid hxl
        have k9 : Kept (fun j => j = g) wr (wr.setCell ⟨g, i, none⟩ (.int .u8 (((x : Int) + 1) % 256))) := (Kept.refl _ _).setG _ _
        have K9 := Lib.hid k9
        clear h256 hx k9 hxl
        go_wp2_with fail
        go_roundw
        case rel => exact ⟨i + 1, _, by go_num, by omega, by rw [List.length_set]; exact HXL.out, O8.out, F.out.kept K9.out (by intro x hx; simp at hx; rcases hx with rfl | rfl <;> (dsimp only; omega)), HS4.out.kept K9.out HG4.out, HH.out.kept K9.out (by omega) (by omega) (by omega), K.out.step K9.out (fun i hi q => by omega)⟩
        case measure => simp [intOf]; omega
      · have hgo1 : ¬ (i : Int) < (256 : Int) := by omega
        clear hxl
        go_wp2_with fail
        refine bodyPost_ret (results_two_tmp rfl _ _ (w.heap.size + 1 + 1) 43 #[.slice a4 R.1.s.length c4, .bool R.1.off, .int .i64 R.1.calls, .int .i64 R.1.after, .bool R.1.done] _ rfl (Blk.set5 (v0 := .slice none 0 0) (v1 := .bool false) (v2 := .int .i64 0) (v3 := .int .i64 0) (v4 := .bool false) ?_) Try.underlying43 rfl (by kernel_rfl)) rfl ?_
        · have hb2 : Blk _ (w.heap.size + 1 + 1) #[.slice none 0 0, .bool false, .int .i64 0, .int .i64 0, .bool false] 43 := F.out.2.1
          repeat (first | with_reducible exact hb2 | with_reducible refine Blk.other ?_ (by dsimp only; omega) _)
        · refine ⟨a4, c4, rfl, ⟨?_, HF4.out⟩, ?_, ?_⟩
          · refine SecsAt.apart2 HS4.out F.out.1 F.out.2.1 ?_ (nostr5 _ _ _ _ _ _ _) (nostr5 _ _ _ _ _ _ _)
            repeat (first | with_reducible exact Kept.refl _ _ | with_reducible refine Kept.setCell ?_ (fun _ => by dsimp only; omega) _)
          · refine HH.out.kept (fp := fun j => w.heap.size ≤ j) ?_ (by omega) (by omega) (by omega)
            repeat (first | with_reducible exact Kept.refl _ _ | with_reducible refine Kept.setCell ?_ (fun _ => by dsimp only; omega) _)
          · repeat (first | with_reducible exact K.out | with_reducible refine Kept.setNew ?_ (by dsimp only; omega) _)
  · have hup : 0 < u := by omega
    have hup' : (0 : Int) < (u : Int) := by omega
    have hup2 : (0 : Int) ≤ (u : Int) := by omega
    have hup3 : (u : Int) ≤ 256 := by omega
    have hBe : (bytesF c).take u = B := by rw [← HB.out]; unfold bytesA; rw [if_pos hup]
    have HLB : Hid (u = B.length) := by show _ = _; rw [← hBe, List.length_take, bytesF_len]; omega
    have NB := Lib.hid (show NatsAt _ .u8 (some ⟨g, 0, none⟩) B from hBe ▸ O4.out.nats.take u)
    clear hBe
    go_wp2_with fail
    refine (sd_write HH4.out n (some ⟨g, 0, none⟩) u 256 B HLB.out (HB.out ▸ bytesA_bts hc _) NB.out).mono ?_
    rintro e w5 ⟨rfl, h5', k5⟩
    rw [HR.out] at h5' ⊢
    have hd5 : ¬ dod d bs m g := by rintro (q | q | q) <;> omega
    have RC := Lib.hid (rs_write a D.s.length c0 D rfl OK.out.few OK.out.aft n (some ⟨g, 0, none⟩) u 256 B HLB.out w5 (HSE4.out.kept k5 (.inr HO.out)) (NB.out.kept k5 (fun x hx => by cases hx; exact hd5)))
    rw [HR.out] at RC
    simp only [refV] at RC
    have O5 := Lib.hid (O4.out.kept k5 (fun x hx => by cases hx; exact hd5))
    have KN := Lib.hid ((K.out.step K4.out (fun i hi q => by omega)).trans k5)
    have FN := Lib.hid ((F.out.kept K4.out (by intro x hx; simp at hx; rcases hx with rfl | rfl | rfl <;> (dsimp only; omega))).kept k5 (by intro x hx; simp at hx; rcases hx with rfl | rfl | rfl <;> (intro q; rcases q with q | q | q <;> (dsimp only at q; omega))))
    have HHN := Lib.hid h5'
    have hg5 : g < w5.heap.size := O5.out.lt.2
    clear K F HH HSE K4 HH4 HSE4 O3 O4 NB k5 h5' hc9 hf9 hlg
    have K := KN
    have F := FN
    have HH := HHN
    clear KN FN HHN
    clear p0 f0 z0 p1 f1 z1 p2 f2 z2
    obtain ⟨p0, f0, p1, f1, p2, f2, -⟩ := F.out.rules
    have z0 := F.out.1.lt
    have z1 := F.out.2.1.lt
    have z2 := F.out.2.2.1.lt
    go_wp2_with fail
    refine RC.out.mono ?_
    rintro e w6 ⟨a4, c4, rfl, ⟨hs4, hf4⟩, k6⟩
    have O6 := Lib.hid (O5.out.same k6)
    have HS4 := Lib.hid hs4
    have HF4 := Lib.hid (show a4 = a ∨ Far w a4 from hf4.imp id (fun q => q.mono K.out.size))
    have HG4 : Hid (R.1.s = [] ∨ ∀ x, a4 = some x → ¬ x.block = g) := by
      rcases hf4 with q | q
      · subst q
        exact HSL.out.imp (fun z => List.eq_nil_of_length_eq_zero (by rw [HRL.out, z]; rfl)) (fun z x hx => by have := z x hx; omega)
      · exact .inr (fun x hx => by have := q x hx; omega)
    have KN := Lib.hid (K.out.trans (k6.mono (fun _ _ h => h.elim)))
    have FN := Lib.hid (F.out.same k6)
    have HHN := Lib.hid (HH.out.same k6)
    clear K F HH hs4 hf4 RC O5 k6 hg5
    have K := KN
    have F := FN
    have HH := HHN
    clear KN FN HHN
    clear p0 f0 z0 p1 f1 z1 p2 f2 z2
    obtain ⟨p0, f0, p1, f1, p2, f2, -⟩ := F.out.rules
    have z0 := F.out.1.lt
    have z1 := F.out.2.1.lt
    have z2 := F.out.2.2.1.lt
    simp only [refV]
    go_wp2_with fail
    go_loopw [11] (fun iv wr => ∃ (i : Nat) (xs : List Nat), iv = .int .i64 i ∧ i ≤ u ∧ xs.length = 256 ∧ OwnN wr W.heap.size 5 .u8 (.slice (some ⟨g, 0, none⟩) 256 256) xs ∧ Fr wr [(w.heap.size, #[.slice a4 R.1.s.length c4, .bool R.1.off, .int .i64 R.1.calls, .int .i64 R.1.after, .bool R.1.done], 43), (w.heap.size + 1 + 1, #[.slice none 0 0, .bool false, .int .i64 0, .int .i64 0, .bool false], 43)] ∧ SecsAt wr a4 R.1.s ∧ DiskIn wr d bs cap m R.1 ∧ Kept (dod d bs m) w wr) (fun iv _ => u - (intOf iv).toNat)
    case atStart =>
      refine ⟨0, bytesF c, rfl, by omega, bytesF_len c, O6.out.kept (fp := fun j => j = w.heap.size) ?_ (fun x hx => by cases hx; dsimp only; omega), ⟨Blk.set5 F.out.1, ?_, trivial⟩, SecsAt.apart HS4.out F.out.1 ?_ (nostr5 _ _ _ _ _ _ _), HH.out.kept (fp := fun j => j = w.heap.size) ?_ (by omega) (by omega) (by omega), ?_⟩
      · repeat (first | with_reducible exact Kept.refl _ _ | with_reducible refine Kept.setG ?_ _ _)
      · have hb2 : Blk _ (w.heap.size + 1 + 1) #[.slice none 0 0, .bool false, .int .i64 0, .int .i64 0, .bool false] 43 := F.out.2.2.1
        repeat (first | with_reducible exact hb2 | with_reducible refine Blk.other ?_ (by dsimp only; omega) _)
      · repeat (first | with_reducible exact Kept.refl _ _ | with_reducible refine Kept.setG ?_ _ _)
      · repeat (first | with_reducible exact Kept.refl _ _ | with_reducible refine Kept.setG ?_ _ _)
      · repeat (first | with_reducible exact K.out | with_reducible refine Kept.setNew ?_ (by dsimp only; omega) _)
    case round =>
      clear K F HH HS4 O6
      clear p0 f0 z0 p1 f1 z1 p2 f2 z2
      obtain ⟨i, xs, rfl, hi, hxl, hown, hfr, hsa, hda, hka⟩ := hrel
      have O7 := Lib.hid hown; have F := Lib.hid hfr; have HS4 := Lib.hid hsa; have HH := Lib.hid hda; have K := Lib.hid hka
      have hlg := hown.lt.2
      clear hown hfr hsa hda hka
      obtain ⟨p0, f0, p2, f2, -⟩ := F.out.rules
      have z0 := F.out.1.lt
      have z2 := F.out.2.1.lt
      by_cases hgo : i < u
      · obtain ⟨x, hx⟩ : ∃ x, xs[i]? = some x := ⟨_, List.getElem?_eq_getElem (by omega)⟩
        have c9 := O7.out.cell hxl hx
        have f9 := fun i => O7.out.free hxl i
        have h256 : ((x : Int) + 1) % 256 = (((x + 1) % 256 : Nat) : Int) := by omega
        have O8 : Hid (OwnN (wr.setCell ⟨g, i, none⟩ (.int .u8 (((x : Int) + 1) % 256))) W.heap.size 5 .u8 (.slice (some ⟨g, 0, none⟩) 256 256) (xs.set i ((x + 1) % 256))) := by
          rw [h256]
          exact O7.out.set hxl i ((x + 1) % 256)
        have hgo1 : (i : Int) < (u : Int) := by omega
        have hgo2 : (0 : Int) ≤ (i : Int) := by omega
        have HXL := Lib.hid hxl
        have k9 : Kept (fun j => j = g) wr (wr.setCell ⟨g, i, none⟩ (.int .u8 (((x : Int) + 1) % 256))) := (Kept.refl _ _).setG _ _
        have K9 := Lib.hid k9
        clear h256 hx k9 hxl
        go_wp2_with fail
        go_roundw
        case rel => exact ⟨i + 1, _, by go_num, by omega, by rw [List.length_set]; exact HXL.out, O8.out, F.out.kept K9.out (by intro x hx; simp at hx; rcases hx with rfl | rfl <;> (dsimp only; omega)), HS4.out.kept K9.out HG4.out, HH.out.kept K9.out (by omega) (by omega) (by omega), K.out.step K9.out (fun i hi q => by omega)⟩
        case measure => simp [intOf]; omega
      · have hgo1 : ¬ (i : Int) < (u : Int) := by omega
        clear hxl
        go_wp2_with fail
        refine bodyPost_ret (results_two_tmp rfl _ _ (w.heap.size + 1 + 1) 43 #[.slice a4 R.1.s.length c4, .bool R.1.off, .int .i64 R.1.calls, .int .i64 R.1.after, .bool R.1.done] _ rfl (Blk.set5 (v0 := .slice none 0 0) (v1 := .bool false) (v2 := .int .i64 0) (v3 := .int .i64 0) (v4 := .bool false) ?_) Try.underlying43 rfl (by kernel_rfl)) rfl ?_
        · have hb2 : Blk _ (w.heap.size + 1 + 1) #[.slice none 0 0, .bool false, .int .i64 0, .int .i64 0, .bool false] 43 := F.out.2.1
          repeat (first | with_reducible exact hb2 | with_reducible refine Blk.other ?_ (by dsimp only; omega) _)
        · refine ⟨a4, c4, rfl, ⟨?_, HF4.out⟩, ?_, ?_⟩
          · refine SecsAt.apart2 HS4.out F.out.1 F.out.2.1 ?_ (nostr5 _ _ _ _ _ _ _) (nostr5 _ _ _ _ _ _ _)
            repeat (first | with_reducible exact Kept.refl _ _ | with_reducible refine Kept.setCell ?_ (fun _ => by dsimp only; omega) _)
          · refine HH.out.kept (fp := fun j => w.heap.size ≤ j) ?_ (by omega) (by omega) (by omega)
            repeat (first | with_reducible exact Kept.refl _ _ | with_reducible refine Kept.setCell ?_ (fun _ => by dsimp only; omega) _)
          · repeat (first | with_reducible exact K.out | with_reducible refine Kept.setNew ?_ (by dsimp only; omega) _)
end Go.Proofs.Ytlmpkonfclnceaa
