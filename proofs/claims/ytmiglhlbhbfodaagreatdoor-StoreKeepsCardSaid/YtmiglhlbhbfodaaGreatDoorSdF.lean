/- Reading a sector: what is told is new. -/
import Derived.Test.YtmiglhlbhbfodaaGreatDoorGSecA
namespace Go.Proofs.YtmiglhlbhbfodaaGreatDoor
open Go.RowKit

set_option maxRecDepth 100000 in
set_option maxHeartbeats 800000 in
theorem sd_readF {w : World} {d bs cap m : Nat} {D : Dsk} (h : DiskIn w d bs cap m D) (n : Int) :
    Calls Tryz.prog 99 #[.pointer (some ⟨d, 0, none⟩), .int .i64 n] w fun e w' =>
      ∃ a c, e = .returned (.tuple #[.slice a (readD D n).1.length c, .int .i64 ((readD D n).2 : Nat)]) ∧ NatsAt w' .u8 a (readD D n).1 ∧ (a = none → (readD D n).1 = [] ∧ c = 0) ∧ (∀ y, a = some y → y = ⟨w.heap.size, 0, none⟩ ∧ c = 256 ∧ w.heap.size < w'.heap.size) ∧ Same w w' := by
  have hA := Lib.hid (sd_at h n)
  have p0 := h.ptr
  simp only [cellsD] at p0
  have H := Lib.hid h
  obtain ⟨E, hE⟩ : ∃ E, errD D n = E := ⟨_, rfl⟩
  rw [hE] at hA
  have HE := Lib.hid hE
  clear h hE
  by_cases h0 : E = 0
  · subst h0
    obtain ⟨ho, hn0, hn1⟩ := errD_zero HE.out
    obtain ⟨N, hN⟩ : ∃ N : Nat, n = (N : Int) := ⟨n.toNat, by omega⟩
    subst hN
    have hN : N < D.s.length := by omega
    obtain ⟨x, hx⟩ : ∃ x, D.s[N]? = some x := ⟨_, List.getElem?_eq_getElem hN⟩
    have hxd : D.s.getD N sec0 = x := by rw [List.getD_eq_getElem?_getD, hx]; rfl
    have xok := H.out.ok.secs x (List.mem_of_getElem? hx)
    have er : readD D (N : Nat) = (x.has, 0) := by unfold readD; rw [if_pos HE.out, Int.toNat_natCast, hxd]
    have wf := waitF_at hx
    go_enter Tryz.func99, Tryz.ntmps99
    go_wp2_with fail
    refine hA.out.mono ?_
    rintro e W' ⟨rfl, rfl⟩
    clear hA
    cases hw : x.waits
    · rw [hw] at wf
      have l1 : (waitF D.s N).getD (.agg (secC zeros)) = .agg (secC zeros) := by rw [wf]; rfl
      have l2 : (waitF D.s N).isSome = false := by rw [wf]; rfl
      have hlk := H.out.map.look (P := Tryz.prog) Tryz.underlying68 Tryz.underlying3 N (zero_sec W') true
      rw [l1, l2, if_pos rfl] at hlk
      have hst := put_new W' (secC_size zeros_len) (secC_one _)
      have hld := run_loadAt_mid (P := Tryz.prog) (W'.alloc (.cells (secC zeros) 90)) bs (N * 256) 90 (encB x.safe) _ (World.rangeAt_alloc (H.out.safe.at_ N x hx) _) Tryz.underlying90 rfl (by rw [encB_len, xok.safeL]; kernel_rfl)
      have p1 := cell_blk (H.out.box.alloc (.cells (secC zeros) 90))
      simp only [cellsD] at p1
      have hst2 := put_new2 W' (C := secC zeros) (secC_size xok.safeL) (secC_size zeros_len) (secC_one _)
      have XO := Lib.hid xok; have ER := Lib.hid er; have XS := Lib.hid (xok.still hw)
      clear hx hxd l1 l2 wf xok er hw
      rw [show (encB x.safe).toArray = secC x.safe from rfl] at hld
      generalize hc1 : secC zeros = C1 at *
      generalize hc2 : secC x.safe = C2 at *
      have HC2 := Lib.hid hc2
      clear hc1 hc2
      go_wp2_with (first | (with_reducible refine wpList_storeRun hst rfl _ _ rfl rfl rfl ?_) | (with_reducible refine wpList_storeRun hst2 rfl _ _ rfl rfl rfl ?_) | (with_reducible refine wpList_loadRun hld rfl _ rfl rfl ?_))
      go_ret2
      rw [ER.out, XS.out]
      have e := HC2.out
      subst e
      exact ⟨some ⟨W'.heap.size, 0, none⟩, 256, by simp [XO.out.safeL], nats_new, (fun q => by cases q), (fun y q => by cases q; exact ⟨rfl, rfl, by simp⟩), (Kept.refl _ W').alloc _⟩
    · rw [hw] at wf
      have l1 : (waitF D.s N).getD (.agg (secC zeros)) = .agg (secC x.has) := by rw [wf]; rfl
      have l2 : (waitF D.s N).isSome = true := by rw [wf]; rfl
      have hlk := H.out.map.look (P := Tryz.prog) Tryz.underlying68 Tryz.underlying3 N (zero_sec W') true
      rw [l1, l2, if_pos rfl] at hlk
      have hst := put_new W' (secC_size xok.hasL) (secC_one _)
      have XO := Lib.hid xok; have ER := Lib.hid er
      clear hx hxd l1 l2 wf xok er hw
      generalize hc2 : secC x.has = C2 at *
      have HC2 := Lib.hid hc2
      clear hc2
      go_wp2_with (with_reducible refine wpList_storeRun hst rfl _ _ rfl rfl rfl ?_)
      go_ret2
      rw [ER.out]
      have e := HC2.out
      subst e
      exact ⟨some ⟨W'.heap.size, 0, none⟩, 256, by simp [XO.out.hasL], nats_new, (fun q => by cases q), (fun y q => by cases q; exact ⟨rfl, rfl, by simp⟩), (Kept.refl _ W').alloc _⟩
  · have er : readD D n = ([], E) := by unfold readD; rw [if_neg (by rw [HE.out]; exact h0), HE.out]
    have h0' : ¬ (E : Int) = 0 := by omega
    go_enter Tryz.func99, Tryz.ntmps99
    go_wp2_with fail
    refine hA.out.mono ?_
    rintro e W' ⟨rfl, rfl⟩
    clear hA
    go_wp2_with fail
    go_ret2
    rw [er]
    exact ⟨none, 0, rfl, .inl rfl, fun _ => ⟨rfl, rfl⟩, (fun y q => by cases q), Kept.refl _ _⟩
end Go.Proofs.YtmiglhlbhbfodaaGreatDoor
