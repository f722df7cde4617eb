/- A disk's Read. -/
import Derived.Test.YtlmpkonfclnceaaSec2
import Derived.Deep.WholeRow
namespace Go.Proofs.Ytlmpkonfclnceaa
open Go.RowKit

section
variable {P : Program} {w : World} {ops : Array Oper} {rest : List Oper} {o : Oper} {a : Act} {Q : Exit → Act → World → Prop}
/-- A store, as it runs. -/
theorem wpList_storeRun {ty : TypeId} {p v : Value} {w' : World} (hrun : (Instr.storeAt ty p v).run P w = .ok () w') (hg : o.guard = none) (x y : Operand) (hop : o.op = .store ty x y) (hx : a.eval x = p) (hy : a.eval y = v)
    (hK : wpList P ops Q rest (a.put o.dst undef) w') : wpList P ops Q (o :: rest) a w :=
  wpList_plain hg fun _ hk => by
    unfold Oper.wp execOp
    simp only [hop, hx, hy, hrun, Sem.run_bind, Sem.run_pure, Result.andThen_ok]
    exact hk _ _ hK
/-- A load, as it runs. -/
theorem wpList_loadRun {ty : TypeId} {p v : Value} (hrun : (Instr.loadAt ty p).run P w = .ok v w) (hg : o.guard = none) (x : Operand) (hop : o.op = .load ty x) (hx : a.eval x = p)
    (hK : wpList P ops Q rest (a.put o.dst v) w) : wpList P ops Q (o :: rest) a w :=
  wpList_plain hg fun _ hk => by
    unfold Oper.wp execOp
    simp only [hop, hx, hrun, Sem.run_bind, Sem.run_pure, Result.andThen_ok]
    exact hk _ _ hK
end
/-- The cells of a sector's bytes. -/
def secC (l : List Nat) : Array Value := (encB l).toArray
theorem secC_size {l : List Nat} (h : l.length = 256) : (secC l).size = 256 := by simp [secC, encB_len, h]
theorem secC_one (l : List Nat) : (secC l).all (·.oneCell') = true := all_oneCell_toArray (encB_one l)
theorem zero_sec (w : World) : (zeroValue 100).run Try.prog w = .ok (.agg (secC zeros)) w := by kernel_rfl
def readD (D : Dsk) (n : Int) : List Nat × Nat := if errD D n = 0 then ((D.s.getD n.toNat sec0).has, 0) else ([], errD D n)
theorem size_sec {C : Array Value} (h : C.size = 256) : (Try.prog.info? 100).map (·.size) = some C.size := by rw [h]; kernel_rfl
theorem zeroC_size : Try.zeroCells100.size = 256 := by kernel_rfl
/-- A sector into a variable that was made last. -/
theorem put_new (w : World) {C : Array Value} (h : C.size = 256) (h1 : C.all (·.oneCell') = true) : (Instr.storeAt 100 (.pointer (some ⟨w.heap.size, 0, none⟩)) (.agg C)).run Try.prog (w.alloc (.cells Try.zeroCells100 100)) = .ok () (w.alloc (.cells C 100)) :=
  run_storeAt_new w _ _ _ (size_sec h) (by rw [zeroC_size, h]) h1
theorem put_new2 (w : World) {C C' : Array Value} (h : C'.size = 256) (h0 : C.size = 256) (h1 : C'.all (·.oneCell') = true) : (Instr.storeAt 100 (.pointer (some ⟨w.heap.size, 0, none⟩)) (.agg C')).run Try.prog (w.alloc (.cells C 100)) = .ok () (w.alloc (.cells C' 100)) :=
  run_storeAt_new w _ _ _ (size_sec h) (by rw [h0, h]) h1
theorem waitF_at {s : List Sec} {N : Nat} {x : Sec} (hx : s[N]? = some x) : waitF s N = if x.waits then some (.agg (secC x.has)) else none := by
  unfold waitF waitsAt secV
  rw [show s.getD N sec0 = x from by rw [List.getD_eq_getElem?_getD, hx]; rfl]
  rfl
theorem nats_new {w : World} {l : List Nat} {t : TypeId} : NatsAt (w.alloc (.cells (secC l) t)) .u8 (some ⟨w.heap.size, 0, none⟩) l := by
  refine .inr ⟨_, 0, rfl, by simp, fun i x hx => ?_⟩
  rw [Nat.zero_add, cell_blk (Blk.new w _ _), secC]
  simp [encB, hx]

set_option maxRecDepth 100000 in
set_option maxHeartbeats 800000 in
theorem sd_read {w : World} {d bs cap m : Nat} {D : Dsk} (h : DiskIn w d bs cap m D) (n : Int) :
    Calls Try.prog 18 #[.pointer (some ⟨d, 0, none⟩), .int .i64 n] w fun e w' =>
      ∃ a c, e = .returned (.tuple #[.slice a (readD D n).1.length c, .int .i64 ((readD D n).2 : Nat)]) ∧ NatsAt w' .u8 a (readD D n).1 ∧ (a = none → (readD D n).1 = []) ∧ Same w w' := by
  have hA := Lib.hid (sd_at h n)
  have p0 := h.ptr
  simp only [cellsD] at p0
  have H := Lib.hid h
  obtain ⟨E, hE⟩ : ∃ E, errD D n = E := ⟨_, rfl⟩
  rw [hE] at hA
  have HE := Lib.hid hE
  clear h hE
  by_cases h0 : E = 0
  · subst h0
    obtain ⟨ho, hn0, hn1⟩ := errD_zero HE.out
    obtain ⟨N, hN⟩ : ∃ N : Nat, n = (N : Int) := ⟨n.toNat, by omega⟩
    subst hN
    have hN : N < D.s.length := by omega
    obtain ⟨x, hx⟩ : ∃ x, D.s[N]? = some x := ⟨_, List.getElem?_eq_getElem hN⟩
    have hxd : D.s.getD N sec0 = x := by rw [List.getD_eq_getElem?_getD, hx]; rfl
    have xok := H.out.ok.secs x (List.mem_of_getElem? hx)
    have er : readD D (N : Nat) = (x.has, 0) := by unfold readD; rw [if_pos HE.out, Int.toNat_natCast, hxd]
    have wf := waitF_at hx
    go_enter Try.func18, Try.ntmps18
    go_wp2_with fail
    refine hA.out.mono ?_
    rintro e W' ⟨rfl, rfl⟩
    clear hA
    cases hw : x.waits
    · rw [hw] at wf
      have l1 : (waitF D.s N).getD (.agg (secC zeros)) = .agg (secC zeros) := by rw [wf]; rfl
      have l2 : (waitF D.s N).isSome = false := by rw [wf]; rfl
      have hlk := H.out.map.look (P := Try.prog) Try.underlying96 Try.underlying3 N (zero_sec W') true
      rw [l1, l2, if_pos rfl] at hlk
      have hst := put_new W' (secC_size zeros_len) (secC_one _)
      have hld := run_loadAt_mid (P := Try.prog) (W'.alloc (.cells (secC zeros) 100)) bs (N * 256) 100 (encB x.safe) _ (World.rangeAt_alloc (H.out.safe.at_ N x hx) _) Try.underlying100 rfl (by rw [encB_len, xok.safeL]; kernel_rfl)
      have p1 := cell_blk (H.out.box.alloc (.cells (secC zeros) 100))
      simp only [cellsD] at p1
      have hst2 := put_new2 W' (C := secC zeros) (secC_size xok.safeL) (secC_size zeros_len) (secC_one _)
      have XO := Lib.hid xok; have ER := Lib.hid er; have XS := Lib.hid (xok.still hw)
      clear hx hxd l1 l2 wf xok er hw
      rw [show (encB x.safe).toArray = secC x.safe from rfl] at hld
      generalize hc1 : secC zeros = C1 at *
      generalize hc2 : secC x.safe = C2 at *
      have HC2 := Lib.hid hc2
      clear hc1 hc2
      go_wp2_with (first | (with_reducible refine wpList_storeRun hst rfl _ _ rfl rfl rfl ?_) | (with_reducible refine wpList_storeRun hst2 rfl _ _ rfl rfl rfl ?_) | (with_reducible refine wpList_loadRun hld rfl _ rfl rfl ?_))
      go_ret2
      rw [ER.out, XS.out]
      have e := HC2.out
      subst e
      exact ⟨some ⟨W'.heap.size, 0, none⟩, 256, by simp [XO.out.safeL], nats_new, (fun q => by cases q), (Kept.refl _ W').alloc _⟩
    · rw [hw] at wf
      have l1 : (waitF D.s N).getD (.agg (secC zeros)) = .agg (secC x.has) := by rw [wf]; rfl
      have l2 : (waitF D.s N).isSome = true := by rw [wf]; rfl
      have hlk := H.out.map.look (P := Try.prog) Try.underlying96 Try.underlying3 N (zero_sec W') true
      rw [l1, l2, if_pos rfl] at hlk
      have hst := put_new W' (secC_size xok.hasL) (secC_one _)
      have XO := Lib.hid xok; have ER := Lib.hid er
      clear hx hxd l1 l2 wf xok er hw
      generalize hc2 : secC x.has = C2 at *
      have HC2 := Lib.hid hc2
      clear hc2
      go_wp2_with (with_reducible refine wpList_storeRun hst rfl _ _ rfl rfl rfl ?_)
      go_ret2
      rw [ER.out]
      have e := HC2.out
      subst e
      exact ⟨some ⟨W'.heap.size, 0, none⟩, 256, by simp [XO.out.hasL], nats_new, (fun q => by cases q), (Kept.refl _ W').alloc _⟩
  · have er : readD D n = ([], E) := by unfold readD; rw [if_neg (by rw [HE.out]; exact h0), HE.out]
    have h0' : ¬ (E : Int) = 0 := by omega
    go_enter Try.func18, Try.ntmps18
    go_wp2_with fail
    refine hA.out.mono ?_
    rintro e W' ⟨rfl, rfl⟩
    clear hA
    go_wp2_with fail
    go_ret2
    rw [er]
    exact ⟨none, 0, rfl, .inl rfl, fun _ => rfl, Kept.refl _ _⟩
end Go.Proofs.Ytlmpkonfclnceaa
