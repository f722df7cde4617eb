/- A disk's call, Write, Read. -/
import Derived.Test.YtlmpkonfclnceaaSec1
import Derived.Deep.RegionHeld3
import Derived.Shelf.Abstract
namespace Go.Proofs.Ytlmpkonfclnceaa
open Go.RowKit

theorem nats_range {w : World} {b off : Nat} {xs : List Nat} (h : NatsAt w .u8 (some ⟨b, off, none⟩) xs) : w.rangeAt b off (encB xs) := by
  intro j v hv
  obtain ⟨x, hx, rfl⟩ : ∃ x, xs[j]? = some x ∧ Value.int .u8 (x : Nat) = v := by
    unfold encB at hv
    rw [List.getElem?_map, Option.map_eq_some_iff] at hv
    exact hv
  rcases h with rfl | ⟨b', off', e, _, hc⟩
  · simp at hx
  · cases e
    exact hc j x hx

theorem putS_waitF {s : List Sec} {n : Nat} (hn : n < s.length) (b : List Nat) (j : Nat) : (if j = n then some (secV b) else waitF s j) = waitF (putS s n b) j := by
  unfold waitF waitsAt putS
  simp only [getD_set]
  by_cases e : j = n
  · subst e; simp [hn]
  · simp [e]
theorem putS_safe {s : List Sec} {n : Nat} (hn : n < s.length) (b : List Nat) : (putS s n b).map (·.safe) = s.map (·.safe) := by
  unfold putS
  rw [List.map_set]
  apply List.ext_getElem?
  intro i
  rw [List.getElem?_set]
  split
  · rename_i e
    subst e
    simp [hn]
  · rfl

theorem run_arrayAt (P : Program) {t e : TypeId} {n : Nat} (ht : P.underlying t = some (.array n e)) (p : Option Addr) (l c : Nat) (h : n ≤ l) (w : World) : (Instr.arrayAt t (.slice p l c)).run P w = .ok (.pointer p) w := by
  have : ¬ l < n := by omega
  simp [Instr.arrayAt, run_underlying ht, this, Result.andThen]
set_option maxRecDepth 100000 in
set_option maxHeartbeats 800000 in
theorem sd_put {w : World} {d bs cap m : Nat} {D : Dsk} (h : DiskIn w d bs cap m D) (pb pd pn : Nat) (a : Addr) (c : Nat) (b : List Nat) (n : Nat) (hn : n < D.s.length) (hb : b.length = 256) (hbb : Bts b)
    (h1 : Blk w pb #[.slice (some a) 256 c] 24) (h2 : Blk w pd #[.pointer (some ⟨d, 0, none⟩)] 26) (h3 : Blk w pn #[.int .i64 (n : Nat)] 3) (hat : NatsAt w .u8 (some a) b) :
    Calls Try.prog 56 #[.pointer (some ⟨pb, 0, none⟩), .pointer (some ⟨pd, 0, none⟩), .pointer (some ⟨pn, 0, none⟩)] w fun e w' =>
      e = .returned (.tuple #[]) ∧ DiskIn w' d bs cap m { D with s := putS D.s n b } ∧ Kept (fun k => k = m) w w' := by
  have p0 : w.cell? ⟨d, 1, none⟩ = some (.map (some m)) := h.ptr 1
  have c1 := h1.cell 0 rfl
  have c2 := h2.cell 0 rfl
  have c3 := h3.cell 0 rfl
  have hx : ∃ x off, a = ⟨x, off, none⟩ := by
    rcases hat with e | ⟨x, off, e, _⟩
    · rw [e] at hb; simp at hb
    · cases e; exact ⟨x, off, rfl⟩
  obtain ⟨x, off, rfl⟩ := hx
  have hr := nats_range hat
  have H := Lib.hid h
  have HN := Lib.hid hn; have HB := Lib.hid hb; have HBB := Lib.hid hbb
  have hu := Try.underlying100
  have hi : (Try.prog.info? 100).map (·.size) = some (encB b).length := by rw [encB_len, hb]; kernel_rfl
  have hl : (encB b).length = 256 := by rw [encB_len, hb]
  have n1 := And.intro (h.map.ne h1) h1.lt; have n2 := And.intro (h.map.ne h2) h2.lt; have n3 := And.intro (h.map.ne h3) h3.lt
  clear h h1 h2 h3 hat hn hb hbb
  generalize hcs : encB b = cs at *
  have HCS := Lib.hid hcs
  have hA := run_arrayAt Try.prog hu (some ⟨x, off, none⟩) 256 c (Nat.le_refl _)
  clear hcs
  obtain ⟨w2, hrun, hm2, hk2, hz2⟩ := (show MapI w.drew m (waitF D.s) from H.out.map).store (P := Try.prog) Try.underlying96 Try.underlying3 n (.agg cs.toArray)
  have HM := Lib.hid hm2; have HK := Lib.hid hk2
  have nx : ¬ x = m := by
    have e0 : ∃ v, cs[0]? = some v := ⟨_, List.getElem?_eq_getElem (by omega)⟩
    obtain ⟨v, hv⟩ := e0
    exact H.out.map.ne_cell (hr 0 v hv)
  have k0 : Kept (fun j => j = m) w w2 := ⟨hk2.os, hk2.tape, hk2.output, hk2.size, hk2.block⟩
  have q0 := (k0.cell (p := ⟨d, 1, none⟩) H.out.box.lt (fun q => H.out.ne1 q.symm)).trans p0
  have q1 := (k0.cell (p := ⟨pb, 0, none⟩) n1.2 n1.1).trans c1
  have q2 := (k0.cell (p := ⟨pd, 0, none⟩) n2.2 n2.1).trans c2
  have q3 := (k0.cell (p := ⟨pn, 0, none⟩) n3.2 n3.1).trans c3
  have q4 := rangeAt_kept hr k0 (World.block_lt_of_cell? w _ (hr 0 _ (List.getElem?_eq_getElem (by omega)))) nx
  clear hm2 hk2 hz2 n1 n2 n3 k0 nx
  go_enter Try.func56, Try.ntmps56
  go_wp2_with fail
  go_region_held3 (fun w' => w'.cell? ⟨d, 1, none⟩ = some (.map (some m)) ∧ w'.cell? ⟨pb, 0, none⟩ = some (.slice (some ⟨x, off, none⟩) 256 c) ∧ w'.cell? ⟨pd, 0, none⟩ = some (.pointer (some ⟨d, 0, none⟩)) ∧ w'.cell? ⟨pn, 0, none⟩ = some (.int .i64 (n : Nat)) ∧ w'.rangeAt x off cs)
    (first | exact ⟨p0, c1, c2, c3, hr⟩ | exact ⟨q0, q1, q2, q3, q4⟩ | go_keep_ranges)
    (fail)
  all_goals
    go_wp2_with fail
    go_end0
    have k : Kept (fun j => j = m) w w2 := ⟨HK.out.os, HK.out.tape, HK.out.output, HK.out.size, HK.out.block⟩
    refine ⟨rfl, ⟨?_, ?_, ?_, H.out.apart, H.out.nm, ?_, ?_⟩, k⟩
    · have := H.out.box.kept k (fun q => H.out.ne1 q.symm)
      simpa only [cellsD, putS_len] using this
    · exact (H.out.safe.kept k (fun q => by have := H.out.ne2; exact this q.symm)).alike (putS_safe HN.out _)
    · rw [← HCS.out] at HM
      exact HM.out.congr (putS_waitF HN.out b)
    · exact ⟨putS_ok H.out.ok.secs n HB.out HBB.out, by rw [putS_len]; exact H.out.ok.few, H.out.ok.aft, H.out.ok.cal⟩
    · show (putS D.s n b).length ≤ cap
      rw [putS_len]; exact H.out.cap

def dod (d bs m : Nat) (k : Nat) : Prop := k = d ∨ k = bs ∨ k = m
set_option maxHeartbeats 800000 in
/-- call: what do leaves is s. -/
theorem sd_call {w : World} {d bs cap m : Nat} {D : Dsk} (h : DiskIn w d bs cap m D) (hoff : D.off = false) (g : FuncId) (xs ys : Array Value) (s : List Sec) (hl : s.length = D.s.length) (hs : ∀ x ∈ s, x.OK)
    (hdo : ∀ w' D', D'.s = D.s → DiskIn w' d bs cap m D' → Kept (fun j => j = d) w w' → Calls Try.prog g (xs ++ ys) w' fun e w'' => e = .returned (.tuple #[]) ∧ DiskIn w'' d bs cap m { D' with s := s } ∧ Kept (dod d bs m) w' w'')
    (hen : ∀ args w, (callFunc g args).run Try.prog w = .ok (.enter g args) w) :
    Calls Try.prog 55 #[.pointer (some ⟨d, 0, none⟩), .func (.func g) xs ys] w fun e w' => e = .returned (.int .i64 ((callD D s).2 : Nat)) ∧ DiskIn w' d bs cap m (callD D s).1 ∧ Kept (dod d bs m) w w' := by
  have p0 := h.ptr
  have f0 := h.box.free
  have OK := Lib.hid (callD_ok h.ok hs hl)
  have H := Lib.hid h; have DO := Lib.hid hdo
  have hm := h.ne1
  have ha := h.ok.aft
  clear h hdo
  obtain ⟨S, off, calls, after, done⟩ := D
  simp only at hoff
  subst hoff
  dsimp only at ha
  simp only [cellsD] at p0
  go_enter Try.func55, Try.ntmps55
  by_cases h0 : after = 0
  · subst h0
    cases done
    · go_wp2_with fail
      go_ret
      have k := ((Kept.refl (fun j => j = d) w).setG 3 (.int .i64 (wrap64 (calls + 1)))).setG 4 (.int .i64 (-1)) |>.setG 2 (.bool true)
      have k3 : Kept (dod d bs m) w _ := k.mono (fun _ _ q => .inl q)
      refine ⟨rfl, ⟨((H.out.box.set 3 _).set 4 _).set 2 _, H.out.safe.kept k (fun q => H.out.apart q.symm), H.out.map.kept k (fun q => hm q), H.out.apart, H.out.nm, OK.out, H.out.cap⟩, k3⟩
    · go_wp2_with fail
      have k := ((Kept.refl (fun j => j = d) w).setG 3 (.int .i64 (wrap64 (calls + 1)))).setG 4 (.int .i64 (-1))
      refine (DO.out _ ⟨S, false, wrap64 (calls + 1), -1, true⟩ rfl ⟨(H.out.box.set 3 _).set 4 _, H.out.safe.kept k (fun q => H.out.apart q.symm), H.out.map.kept k (fun q => hm q), H.out.apart, H.out.nm, ⟨H.out.ok.secs, H.out.ok.few, by dsimp only; omega, by unfold wrap64; dsimp only; omega⟩, H.out.cap⟩ k).mono ?_
      rintro e w3 ⟨rfl, h3, k3⟩
      have p3 := h3.ptr
      have f3 := h3.box.free
      simp only [cellsD] at p3
      have H3 := Lib.hid h3
      clear h3 p0 f0
      go_wp2_with fail
      go_ret
      have k4 := (Kept.refl (fun j => j = d) w3).setG 2 (.bool true)
      exact ⟨rfl, ⟨H3.out.box.set 2 _, H3.out.safe.kept k4 (fun q => H.out.apart q.symm), H3.out.map.kept k4 (fun q => hm q), H.out.apart, H.out.nm, OK.out, H3.out.cap⟩, ((k.mono (fun _ _ q => .inl q)).trans k3).trans (k4.mono (fun _ _ q => .inl q))⟩
  · by_cases h1 : after = -1
    · subst h1
      go_wp2_with fail
      have k := (Kept.refl (fun j => j = d) w).setG 3 (.int .i64 (wrap64 (calls + 1)))
      refine (DO.out _ ⟨S, false, wrap64 (calls + 1), -1, done⟩ rfl ⟨H.out.box.set 3 _, H.out.safe.kept k (fun q => H.out.apart q.symm), H.out.map.kept k (fun q => hm q), H.out.apart, H.out.nm, ⟨H.out.ok.secs, H.out.ok.few, by dsimp only; omega, by unfold wrap64; dsimp only; omega⟩, H.out.cap⟩ k).mono ?_
      rintro e w3 ⟨rfl, h3, k3⟩
      have H3 := Lib.hid h3
      clear h3 p0 f0
      go_wp2_with fail
      go_ret
      exact ⟨rfl, H3.out, (k.mono (fun _ _ q => .inl q)).trans k3⟩
    · have ex : wrap64 (after - 1) = after - 1 := by unfold wrap64; omega
      go_wp2_with fail
      have k := ((Kept.refl (fun j => j = d) w).setG 3 (.int .i64 (wrap64 (calls + 1)))).setG 4 (.int .i64 (after - 1))
      refine (DO.out _ ⟨S, false, wrap64 (calls + 1), after - 1, done⟩ rfl ⟨(H.out.box.set 3 _).set 4 _, H.out.safe.kept k (fun q => H.out.apart q.symm), H.out.map.kept k (fun q => hm q), H.out.apart, H.out.nm, ⟨H.out.ok.secs, H.out.ok.few, by dsimp only; omega, by unfold wrap64; dsimp only; omega⟩, H.out.cap⟩ k).mono ?_
      rintro e w3 ⟨rfl, h3, k3⟩
      have H3 := Lib.hid h3
      clear h3 p0 f0
      go_wp2_with fail
      go_ret
      have e1 : callD ⟨S, false, calls, after, done⟩ s = (⟨s, false, wrap64 (calls + 1), after - 1, done⟩, 0) := by simp [callD, h0, h1]
      rw [e1]
      exact ⟨rfl, H3.out, (k.mono (fun _ _ q => .inl q)).trans k3⟩

theorem errD_zero {D : Dsk} {n : Int} (h : errD D n = 0) : D.off = false ∧ 0 ≤ n ∧ n < (D.s.length : Int) := by
  unfold errD at h
  split at h
  · cases h
  · split at h
    · cases h
    · rename_i h1 h2
      exact ⟨by simpa using h1, by omega, by omega⟩
theorem box_none (bs cap m : Nat) (D : Dsk) : ∀ (i : Nat) (x : Int), (cellsD bs cap m D)[i]? ≠ some (.int .u8 x) := by
  intro i x
  unfold cellsD
  rcases i with _ | _ | _ | _ | _ | _ | i <;> simp
set_option maxHeartbeats 800000 in
theorem sd_write {w : World} {d bs cap m : Nat} {D : Dsk} (h : DiskIn w d bs cap m D) (n : Int) (a : Option Addr) (l c : Nat) (b : List Nat) (hl : l = b.length) (hb : Bts b) (hat : NatsAt w .u8 a b) :
    Calls Try.prog 14 #[.pointer (some ⟨d, 0, none⟩), .int .i64 n, .slice a l c] w fun e w' =>
      e = .returned (.int .i64 ((writeD D n b).2 : Nat)) ∧ DiskIn w' d bs cap m (writeD D n b).1 ∧ Kept (dod d bs m) w w' := by
  have hA := Lib.hid fun w' h' => sd_at (w := w') (d := d) (bs := bs) (cap := cap) (m := m) (D := D) h' n
  have H := Lib.hid h; have AT := Lib.hid hat; have HB := Lib.hid hb; have HL := Lib.hid hl
  have l1 := h.box.lt; have l2 := h.safe.lt; have l3 := h.map.lt
  obtain ⟨E, hE⟩ : ∃ E, errD D n = E := ⟨_, rfl⟩
  rw [hE] at hA
  have HE := Lib.hid hE
  clear h hat hb hl hE
  go_enter Try.func14, Try.ntmps14
  go_wp2_with fail
  refine Calls.fr3 ?_; intro W F' K' hz'; have F := Lib.hid F'; have K := Lib.hid K'; have hz := Lib.hid hz'; clear F' K' hz'; obtain ⟨p0, f0, p1, f1, p2, f2, -⟩ := F.out.rules; have z0 := F.out.1.lt; have z1 := F.out.2.1.lt; have z2 := F.out.2.2.1.lt
  refine (hA.out W (H.out.same K.out)).mono ?_
  rintro e W' ⟨rfl, rfl⟩
  clear hA
  by_cases h0 : E = 0
  · subst h0
    by_cases h1 : l = 256
    · subst h1
      obtain ⟨ho, hn0, hn1⟩ := errD_zero HE.out
      obtain ⟨N, hN⟩ : ∃ N : Nat, n = (N : Int) := ⟨n.toNat, by omega⟩
      subst hN
      have hN : N < D.s.length := by omega
      have hx : ∃ x, a = some x := by
        rcases AT.out with e | ⟨x, off, e, _⟩
        · have := HL.out; rw [e] at this; simp at this
        · exact ⟨_, e⟩
      obtain ⟨x, rfl⟩ := hx
      have e1 : writeD D (N : Nat) b = callD D (putS D.s N b) := by
        unfold writeD
        rw [if_pos HE.out, if_pos HL.out.symm, Int.toNat_natCast]
      have E1 := Lib.hid e1
      have CA := Lib.hid (sd_call (H.out.same K.out) ho 56 #[] #[.pointer (some ⟨w.heap.size + 1 + 1, 0, none⟩), .pointer (some ⟨w.heap.size, 0, none⟩), .pointer (some ⟨w.heap.size + 1, 0, none⟩)] (putS D.s N b) (putS_len _ _ _) (putS_ok H.out.ok.secs N HL.out.symm HB.out)
        (fun w' D' hs hd k => by
          have F' := F.out.kept k (by simp; omega)
          have at' : NatsAt w' .u8 (some x) b := (AT.out.same K.out).apart (H.out.same K.out).box k (box_none _ _ _ _)
          refine (sd_put hd _ _ _ x c b N (by rw [hs]; exact hN) HL.out.symm HB.out F'.2.2.1 F'.1 F'.2.1 at').mono ?_
          rintro e w'' ⟨rfl, h', k'⟩
          rw [hs] at h'
          exact ⟨rfl, h', k'.mono (fun _ _ q => .inr (.inr q))⟩)
        (Go.Proofs.enters_of Try.func56 (by kernel_rfl) rfl))
      clear hN hn0 hn1 e1 ho l1 l2 l3 F AT HB HL
      go_wp2_with fail
      refine CA.out.mono ?_
      rintro e w3 ⟨rfl, h3, k3⟩
      go_wp2_with fail
      go_ret
      rw [E1.out]
      exact ⟨rfl, h3, (K.out.mono (fun _ _ q => q.elim)).trans k3⟩
    · have e1 : writeD D n b = (D, 2) := by
        unfold writeD
        rw [if_pos HE.out, if_neg (fun q => h1 (HL.out.trans q))]
      have h1' : ¬ (l : Int) = 256 := by omega
      go_wp2_with fail
      go_ret
      rw [e1]
      exact ⟨rfl, H.out.same K.out, K.out.mono (fun _ _ q => q.elim)⟩
  · have e1 : writeD D n b = (D, E) := by
      unfold writeD
      rw [if_neg (by rw [HE.out]; exact h0), HE.out]
    have h0' : ¬ (E : Int) = 0 := by omega
    go_wp2_with fail
    go_ret
    rw [e1]
    exact ⟨rfl, H.out.same K.out, K.out.mono (fun _ _ q => q.elim)⟩
end Go.Proofs.Ytlmpkonfclnceaa
