/- A call of chapter 4 on both disks. -/
import Derived.Test.YtlmpkonfclnceaaGRBlk
import Derived.Test.YtlmpkonfclnceaaAct4
import Derived.Test.YtlmpkonfclnceaaGRef
namespace Go.Proofs.Ytlmpkonfclnceaa
open Go.RowKit Go.Sort

theorem tmod4_n (q : Nat) : (q : Int).tmod 4 = ((q % 4 : Nat) : Int) := by rw [Int.tmod_eq_emod_of_nonneg (by omega)]; omega
def doB (D : Dsk) (f q : Int) (k : Nat) (n : Int) (bs : List Nat) (k2 : Nat) (n2 : Int) (c u : Nat) (dn : Bool) (fs : List Nat) : Dsk :=
  if 1 < k % 4 then (doD D k2 n2 c u dn fs).1 else (writeB D f q n bs).1
theorem writeB_len (D : Dsk) (f k n : Int) (b : List Nat) : (writeB D f k n b).1.s.length = D.s.length := by
  unfold writeB
  split
  · split
    · exact wrs_len _ _ _
    · rfl
  · rfl
theorem doB_len (D : Dsk) (f q : Int) (k : Nat) (n : Int) (bs : List Nat) (k2 : Nat) (n2 : Int) (c u : Nat) (dn : Bool) (fs : List Nat) : (doB D f q k n bs k2 n2 c u dn fs).s.length = D.s.length := by
  unfold doB
  split
  · exact doD_len _ _ _ _ _ _ _
  · exact writeB_len _ _ _ _ _
/-- What do leaves. -/
def DoPost4 (w : World) (d bs cap m : Nat) (a : Option Addr) (D : Dsk) (e : Ending) (w' : World) : Prop :=
  ∃ a' c', e = .returned (.tuple #[refV a' D.s.length c' D, .bool true]) ∧ (SecsAt w' a' D.s ∧ (a' = a ∨ Far w a')) ∧ DiskIn w' d bs cap m D ∧ Kept (dod d bs m) w w'
set_option maxRecDepth 100000 in
set_option maxHeartbeats 4000000 in
theorem do4_any {w : World} {d bs cap m : Nat} {D : Dsk} (h : DiskIn w d bs cap m D) (a : Option Addr) (c0 : Nat) (hs : SecsAt w a D.s) (ho : ∀ x, a = some x → ¬ dod d bs m x.block) (f q : Int)
    (k : Nat) (n : Int) (ba : Option Addr) (bl bc : Nat) (body : List Nat) (hbl : bl = body.length) (hbc : bl ≤ bc) (hbb : Bts body) (hba : NatsAt w .u8 ba body) (hbo : body = [] ∨ ∀ x, ba = some x → ¬ dod d bs m x.block)
    (k2 : Nat) (n2 : Int) (c u : Nat) (dn : Bool) (fa : Option Addr) (fl fc : Nat) (fs : List Nat) (hk : k2 < 256) (hn : -9223372036854775808 ≤ n2 ∧ n2 ≤ 9223372036854775807) (hc : c < 256) (hu : u < 256) (hfl : fl = fs.length) (hfc : fl ≤ fc) (hfb : Bts fs) (hfa : NatsAt w .u8 fa fs)
    (hfo : fs = [] ∨ ∀ x, fa = some x → ¬ dod d bs m x.block) :
    Calls Try.prog 35 #[.pointer (some ⟨d, 0, none⟩), refV a D.s.length c0 D, areaV f q, .agg #[.int .u8 (k : Nat), .int .i64 n, .slice ba bl bc, .int .u8 (k2 : Nat), .int .i64 n2, .int .u8 (c : Nat), .int .u8 (u : Nat), .bool dn, .slice fa fl fc]] w
      (DoPost4 w d bs cap m a (doB D f q k n body k2 n2 c u dn fs)) := by
  have H := Lib.hid h; have HS := Lib.hid hs; have HO := Lib.hid ho; have HBA := Lib.hid hba; have HBB := Lib.hid hbb; have HBL := Lib.hid hbl; have HBO := Lib.hid hbo
  have l1 := h.box.lt; have l2 := h.safe.lt; have l3 := h.map.lt
  have OK := Lib.hid h.ok
  have ht := tmod4_n k
  obtain ⟨r, hr⟩ : ∃ r, k % 4 = r := ⟨_, rfl⟩
  unfold doB
  rw [hr] at ht ⊢
  by_cases hr1 : 1 < r
  · rw [if_pos hr1]
    have g1 : 1 < (r : Int) := by omega
    have DO := Lib.hid fun w' (kk : Same w w') => do_any (h.same kk) a c0 (hs.same kk) ho k2 n2 c u dn fa fl fc fs hk hn hc hu hfl hfc hfb (hfa.same kk) hfo
    obtain ⟨R, hR⟩ : ∃ R, (doD D k2 n2 c u dn fs).1 = R := ⟨_, rfl⟩
    simp only [hR] at DO
    rw [hR]
    simp only [refV] at DO ⊢
    unfold areaV
    clear hR h hs ho hba hbb hbl hbo hk hn hc hu hfl hfb hfa hfo hr hr1
    go_enter Try.func35, Try.ntmps35
    go_wp2_with fail
    refine Calls.fr4 ?_
    intro W F' K' hz'
    have F := Lib.hid F'
    have K := Lib.hid (show Kept (dod d bs m) w W from K'.mono (fun _ _ h => h.elim))
    have HW := Lib.hid hz'
    have HH := Lib.hid (H.out.same K')
    have HSE := Lib.hid (HS.out.same K')
    have KS := Lib.hid K'
    clear F' K' hz'
    obtain ⟨p0, f0, p1, f1, p2, f2, p3, f3, -⟩ := F.out.rules
    have z0 := F.out.1.lt
    have z1 := F.out.2.1.lt
    have z2 := F.out.2.2.1.lt
    have z3 := F.out.2.2.2.1.lt
    refine (DO.out _ KS.out).mono ?_
    rintro e w3 ⟨a4, c4, rfl, ⟨hs4, hf4⟩, h4, k4⟩
    have HS4 := Lib.hid hs4
    have HF4 := Lib.hid (show a4 = a ∨ Far w a4 from hf4.imp id (fun q => q.mono K.out.size))
    have KN := Lib.hid (K.out.trans k4)
    have FN := Lib.hid (F.out.kept k4 (by intro x hx; simp at hx; rcases hx with rfl | rfl | rfl | rfl <;> (intro q; rcases q with q | q | q <;> (dsimp only at q; omega))))
    clear K F HSE HH k4 hs4 hf4 DO
    have K := KN
    have F := FN
    have HH := Lib.hid h4
    clear KN FN h4
    clear p0 f0 z0 p1 f1 z1 p2 f2 z2 p3 f3 z3
    obtain ⟨p0, f0, p1, f1, p2, f2, p3, f3, -⟩ := F.out.rules
    have z0 := F.out.1.lt
    have z1 := F.out.2.1.lt
    have z2 := F.out.2.2.1.lt
    have z3 := F.out.2.2.2.1.lt
    simp only [refV]
    go_wp2_with fail
    refine bodyPost_ret (results_two_tmp rfl _ _ (w.heap.size + 1 + 1 + 1) 43 #[.slice a4 (R).s.length c4, .bool (R).off, .int .i64 (R).calls, .int .i64 (R).after, .bool (R).done] _ rfl ?_ Try.underlying43 rfl (by kernel_rfl)) rfl ?_
    · with_reducible refine Blk.alloc ?_ _
      with_reducible refine Blk.set5 (v0 := .slice none 0 0) (v1 := .bool false) (v2 := .int .i64 0) (v3 := .int .i64 0) (v4 := .bool false) ?_
      exact F.out.2.2.2.1
    · refine ⟨a4, c4, rfl, ⟨?_, HF4.out⟩, ?_, ?_⟩
      · refine SecsAt.apart HS4.out F.out.2.2.2.1 ?_ (nostr5 _ _ _ _ _ _ _)
        repeat (first | with_reducible exact Kept.refl _ _ | with_reducible refine Kept.alloc ?_ _ | with_reducible refine Kept.setG ?_ _ _)
      · refine HH.out.kept (fp := fun j => w.heap.size ≤ j) ?_ (by omega) (by omega) (by omega)
        repeat (first | with_reducible exact Kept.refl _ _ | with_reducible refine Kept.alloc ?_ _ | with_reducible refine Kept.setCell ?_ (fun _ => by dsimp only; omega) _)
      · repeat (first | with_reducible exact K.out | with_reducible refine Kept.alloc ?_ _ | with_reducible refine Kept.setNew ?_ (by dsimp only; omega) _)
  · rw [if_neg hr1]
    have g1 : ¬ 1 < (r : Int) := by omega
    have SW := Lib.hid fun w' (kk : Same w w') => bl_write (h.same kk) f q n ba bl bc body hbl hbb hbc (hba.same kk)
    have RW := Lib.hid fun w' (h1 : SecsAt w' a D.s) (h2 : NatsAt w' .u8 ba body) => rb_write a c0 D OK.out f q n ba bl bc body hbl hbb hbc w' h1 h2
    obtain ⟨T, hT⟩ : ∃ T, writeB D f q n body = T := ⟨_, rfl⟩
    simp only [hT] at SW RW
    rw [hT]
    obtain ⟨R, hR⟩ : ∃ R, T.1 = R := ⟨_, rfl⟩
    obtain ⟨E, hE⟩ : ∃ E, T.2 = E := ⟨_, rfl⟩
    simp only [hR, hE] at SW RW
    rw [hR]
    simp only [refV] at RW ⊢
    unfold areaV at SW RW ⊢
    clear hT hR hE h hs ho hba hbb hbl hbo hk hn hc hu hfl hfb hfa hfo hr hr1
    go_enter Try.func35, Try.ntmps35
    go_wp2_with fail
    refine Calls.fr4 ?_
    intro W F' K' hz'
    have F := Lib.hid F'
    have K := Lib.hid (show Kept (dod d bs m) w W from K'.mono (fun _ _ h => h.elim))
    have HW := Lib.hid hz'
    have HH := Lib.hid (H.out.same K')
    have HSE := Lib.hid (HS.out.same K')
    have KS := Lib.hid K'
    clear F' K' hz'
    obtain ⟨p0, f0, p1, f1, p2, f2, p3, f3, -⟩ := F.out.rules
    have z0 := F.out.1.lt
    have z1 := F.out.2.1.lt
    have z2 := F.out.2.2.1.lt
    have z3 := F.out.2.2.2.1.lt
    refine (SW.out _ KS.out).mono ?_
    rintro e w3 ⟨rfl, h3, k3⟩
    have KN := Lib.hid (K.out.trans k3)
    have FN := Lib.hid (F.out.kept k3 (by intro x hx; simp at hx; rcases hx with rfl | rfl | rfl | rfl <;> (intro q; rcases q with q | q | q <;> (dsimp only at q; omega))))
    have HS3 := Lib.hid (HSE.out.kept k3 (.inr HO.out))
    have HB3 := Lib.hid ((HBA.out.same KS.out).kept' k3 HBO.out)
    clear K F HSE HH k3 SW
    have K := KN
    have F := FN
    clear KN FN
    clear p0 f0 z0 p1 f1 z1 p2 f2 z2 p3 f3 z3
    obtain ⟨p0, f0, p1, f1, p2, f2, p3, f3, -⟩ := F.out.rules
    have z0 := F.out.1.lt
    have z1 := F.out.2.1.lt
    have z2 := F.out.2.2.1.lt
    have z3 := F.out.2.2.2.1.lt
    go_wp2_with fail
    refine (RW.out _ HS3.out HB3.out).mono ?_
    rintro e w4 ⟨a4, c4, rfl, ⟨hs4, hf4⟩, k4⟩
    have HS4 := Lib.hid hs4
    have HF4 := Lib.hid (show a4 = a ∨ Far w a4 from hf4.imp id (fun q => q.mono K.out.size))
    have KN := Lib.hid (K.out.trans (k4.mono (fun _ _ h => h.elim)))
    have FN := Lib.hid (F.out.same k4)
    have HH := Lib.hid (h3.same k4)
    clear K F k4 hs4 hf4 RW h3 HS3 HB3
    have K := KN
    have F := FN
    clear KN FN
    clear p0 f0 z0 p1 f1 z1 p2 f2 z2 p3 f3 z3
    obtain ⟨p0, f0, p1, f1, p2, f2, p3, f3, -⟩ := F.out.rules
    have z0 := F.out.1.lt
    have z1 := F.out.2.1.lt
    have z2 := F.out.2.2.1.lt
    have z3 := F.out.2.2.2.1.lt
    simp only [refV]
    go_wp2_with fail
    refine bodyPost_ret (results_two_tmp rfl _ _ (w.heap.size + 1 + 1 + 1) 43 #[.slice a4 (R).s.length c4, .bool (R).off, .int .i64 (R).calls, .int .i64 (R).after, .bool (R).done] _ rfl ?_ Try.underlying43 rfl (by kernel_rfl)) rfl ?_
    · with_reducible refine Blk.alloc ?_ _
      with_reducible refine Blk.set5 (v0 := .slice none 0 0) (v1 := .bool false) (v2 := .int .i64 0) (v3 := .int .i64 0) (v4 := .bool false) ?_
      exact F.out.2.2.2.1
    · refine ⟨a4, c4, rfl, ⟨?_, HF4.out⟩, ?_, ?_⟩
      · refine SecsAt.apart HS4.out F.out.2.2.2.1 ?_ (nostr5 _ _ _ _ _ _ _)
        repeat (first | with_reducible exact Kept.refl _ _ | with_reducible refine Kept.alloc ?_ _ | with_reducible refine Kept.setG ?_ _ _)
      · refine HH.out.kept (fp := fun j => w.heap.size ≤ j) ?_ (by omega) (by omega) (by omega)
        repeat (first | with_reducible exact Kept.refl _ _ | with_reducible refine Kept.alloc ?_ _ | with_reducible refine Kept.setCell ?_ (fun _ => by dsimp only; omega) _)
      · repeat (first | with_reducible exact K.out | with_reducible refine Kept.alloc ?_ _ | with_reducible refine Kept.setNew ?_ (by dsimp only; omega) _)
end Go.Proofs.Ytlmpkonfclnceaa
