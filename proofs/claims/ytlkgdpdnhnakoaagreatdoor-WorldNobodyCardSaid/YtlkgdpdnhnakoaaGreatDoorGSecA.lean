/- GSecA: SecW, Sec1, Sec2, Sec3, Sec4, Sec5. -/
import Derived.Test.YtlkgdpdnhnakoaaGreatDoorSecP
import Derived.Test.YtlkgdpdnhnakoaaGreatDoorMapI
import Derived.Test.YtlkgdpdnhnakoaaGreatDoorAuto
import Derived.Deep.MidRow
import Derived.Test.YtlkgdpdnhnakoaaGreatDoorProg
import Derived.Deep.RegionHeld3
import Derived.Shelf.Abstract
import Derived.Deep.WholeRow
namespace Go.Proofs.YtlkgdpdnhnakoaaGreatDoor
open Go.RowKit

def encB (l : List Nat) : List Value := l.map fun x => Value.int .u8 (x : Nat)
theorem encB_len (l : List Nat) : (encB l).length = l.length := by simp [encB]
theorem encB_one (l : List Nat) : ∀ v ∈ encB l, v.oneCell' = true := by
  intro v hv
  obtain ⟨x, _, rfl⟩ := List.mem_map.1 hv
  rfl
/-- A sector's bytes as a value. -/
def secV (l : List Nat) : Value := .agg (encB l).toArray
/-- What is safe lies in block b. -/
structure SafeAt (w : World) (b : Nat) (s : List Sec) : Prop where
  at_ : ∀ n x, s[n]? = some x → w.rangeAt b (n * 256) (encB x.safe)
  there : w.there b 0 (s.length * 256)
  lt : b < w.heap.size
/-- What waits. -/
def waitF (s : List Sec) (n : Nat) : Option Value := if waitsAt s n then some (secV (s.getD n sec0).has) else none
theorem waitF_some (s : List Sec) (n : Nat) : (waitF s n).isSome = waitsAt s n := by unfold waitF; cases waitsAt s n <;> rfl

/-- Cells that lie in a block stay. -/
theorem rangeAt_kept {w w' : World} {fp : Nat → Prop} {b o : Nat} {cs : List Value} (h : w.rangeAt b o cs) (k : Kept fp w w') (hb : b < w.heap.size) (hn : ¬ fp b) : w'.rangeAt b o cs := fun j v hv => by
  rw [k.cell (p := ⟨b, o + j, none⟩) hb hn]; exact h j v hv
theorem there_kept {w w' : World} {fp : Nat → Prop} {b o n : Nat} (h : w.there b o n) (k : Kept fp w w') (hb : b < w.heap.size) (hn : ¬ fp b) : w'.there b o n := fun j hj => by
  rw [k.cell (p := ⟨b, o + j, none⟩) hb hn, k.frozen (p := ⟨b, o + j, none⟩) hb hn]; exact h j hj
theorem SafeAt.kept {w w' : World} {fp : Nat → Prop} {b : Nat} {s : List Sec} (h : SafeAt w b s) (k : Kept fp w w') (hn : ¬ fp b) : SafeAt w' b s :=
  ⟨fun n x hx => rangeAt_kept (h.at_ n x hx) k h.lt hn, there_kept h.there k h.lt hn, Nat.lt_of_lt_of_le h.lt k.size⟩
theorem SafeAt.alike {w : World} {b : Nat} {s s' : List Sec} (h : SafeAt w b s) (e : s'.map (·.safe) = s.map (·.safe)) : SafeAt w b s' := by
  refine ⟨fun n x hx => ?_, ?_, h.lt⟩
  · have : (s.map (·.safe))[n]? = some x.safe := by rw [← e, List.getElem?_map, hx]; rfl
    rw [List.getElem?_map, Option.map_eq_some_iff] at this
    obtain ⟨y, hy, e2⟩ := this
    rw [← e2]
    exact h.at_ n y hy
  · have := congrArg List.length e
    simp at this
    rw [this]; exact h.there
theorem Kept.setCells {fp : Nat → Prop} {a w : World} (h : Kept fp a w) {b : Nat} (hb : b < a.heap.size → fp b) (vs : List Value) : ∀ o, Kept fp a (w.setCells b o vs) := by
  induction vs generalizing w with
  | nil => intro o; exact h
  | cons v vs ih => intro o; exact ih (h.setCell (p := ⟨b, o, none⟩) hb v) (o + 1)
theorem SafeAt.put {w : World} {b : Nat} {s : List Sec} (h : SafeAt w b s) (hs : ∀ x ∈ s, x.OK) {n : Nat} (hn : n < s.length) {y : Sec} (hy : y.safe.length = 256) : SafeAt (w.setCells b (n * 256) (encB y.safe)) b (s.set n y) := by
  have ht : w.there b (n * 256) (encB y.safe).length := fun j hj => by
    rw [encB_len, hy] at hj
    have := h.there (n * 256 + j) (by
      have : (n + 1) * 256 ≤ s.length * 256 := Nat.mul_le_mul_right _ hn
      omega)
    rwa [Nat.zero_add] at this
  refine ⟨fun m x hx => ?_, ?_, ?_⟩
  · rw [List.getElem?_set] at hx
    by_cases e : n = m
    · subst e
      rw [if_pos rfl, if_pos hn] at hx
      cases hx
      exact World.rangeAt_setCells_same _ _ _ _ ht
    · rw [if_neg e] at hx
      refine World.rangeAt_setCells_apart (h.at_ m x hx) _ _ _ (.inr ?_)
      rw [encB_len, encB_len, hy, (hs x (List.mem_of_getElem? hx)).safeL]
      omega
  · rw [List.length_set]
    exact World.there_setCells h.there _ _ _
  · exact Nat.lt_of_lt_of_le h.lt ((Kept.refl (fun j => j = b) w).setCells (fun _ => rfl) _ _).size

end Go.Proofs.YtlkgdpdnhnakoaaGreatDoor

namespace Go.Proofs.YtlkgdpdnhnakoaaGreatDoor
open Go.RowKit

def cellsD (bs cap m : Nat) (D : Dsk) : Array Value := #[.slice (some ⟨bs, 0, none⟩) D.s.length cap, .map (some m), .bool D.off, .int .i64 D.calls, .int .i64 D.after, .bool D.done]
/-- Block d is the disk D; bs has what is safe, m what waits. -/
structure DiskIn (w : World) (d bs cap m : Nat) (D : Dsk) : Prop where
  box : Blk w d (cellsD bs cap m D) 88
  safe : SafeAt w bs D.s
  map : MapI w m (waitF D.s)
  apart : d ≠ bs
  nm : m ≠ bs
  ok : D.OK
  cap : D.s.length ≤ cap
theorem DiskIn.kept {w w' : World} {fp : Nat → Prop} {d bs cap m : Nat} {D : Dsk} (h : DiskIn w d bs cap m D) (k : Kept fp w w') (h1 : ¬ fp d) (h2 : ¬ fp bs) (h3 : ¬ fp m) : DiskIn w' d bs cap m D :=
  ⟨h.box.kept k h1, h.safe.kept k h2, h.map.kept k h3, h.apart, h.nm, h.ok, h.cap⟩
theorem DiskIn.same {w w' : World} {d bs cap m : Nat} {D : Dsk} (h : DiskIn w d bs cap m D) (k : Same w w') : DiskIn w' d bs cap m D := h.kept k (fun h => h) (fun h => h) (fun h => h)
theorem DiskIn.ne1 {w : World} {d bs cap m : Nat} {D : Dsk} (h : DiskIn w d bs cap m D) : m ≠ d := by
  obtain ⟨es, c, hb, _⟩ := h.map
  intro e
  rw [e] at hb
  have := hb.symm.trans h.box
  cases this
theorem DiskIn.ne2 {w : World} {d bs cap m : Nat} {D : Dsk} (h : DiskIn w d bs cap m D) : m ≠ bs := h.nm
theorem DiskIn.ptr {w : World} {d bs cap m : Nat} {D : Dsk} (h : DiskIn w d bs cap m D) : ∀ i, w.cell? ⟨d, i, none⟩ = (cellsD bs cap m D)[i]? := cell_blk h.box

theorem sd_asked {w : World} {d bs cap m : Nat} {D : Dsk} (h : DiskIn w d bs cap m D) :
    Calls Tryz.prog 139 #[.pointer (some ⟨d, 0, none⟩)] w fun e w' => e = .returned (.int .i64 ((if D.off then 8 else 0 : Nat) : Nat)) ∧ w' = w := by
  have p0 := h.ptr
  obtain ⟨s, off, calls, after, done⟩ := D
  simp only [cellsD] at p0
  clear h
  go_enter Tryz.func139, Tryz.ntmps139
  cases off
  all_goals
    go_wp2_with fail
    go_ret
    exact ⟨rfl, rfl⟩

theorem sd_at {w : World} {d bs cap m : Nat} {D : Dsk} (h : DiskIn w d bs cap m D) (n : Int) :
    Calls Tryz.prog 257 #[.pointer (some ⟨d, 0, none⟩), .int .i64 n] w fun e w' => e = .returned (.int .i64 (errD D n : Nat)) ∧ w' = w := by
  have p0 := h.ptr
  have A := Lib.hid (sd_asked h)
  obtain ⟨s, off, calls, after, done⟩ := D
  simp only [cellsD] at p0
  simp only [errD]
  clear h
  go_enter Tryz.func257, Tryz.ntmps257
  go_wp2_with fail
  refine A.out.mono ?_
  rintro e w' ⟨rfl, rfl⟩
  clear A
  cases off
  · by_cases h1 : n < 0
    · go_wp2_with fail
      go_ret
      exact ⟨by simp, rfl⟩
    · by_cases h2 : (s.length : Int) ≤ n
      · go_wp2_with fail
        go_ret
        exact ⟨rfl, rfl⟩
      · go_wp2_with fail
        go_ret
        exact ⟨rfl, rfl⟩
  · go_wp2_with fail
    go_ret
    exact ⟨rfl, rfl⟩

theorem sd_off {w : World} {d bs cap m : Nat} {D : Dsk} (h : DiskIn w d bs cap m D) :
    Calls Tryz.prog 68 #[.pointer (some ⟨d, 0, none⟩)] w fun e w' => e = .returned (.bool D.off) ∧ w' = w := by
  have p0 := h.ptr
  simp only [cellsD] at p0
  clear h
  go_enter Tryz.func68, Tryz.ntmps68
  go_wp2_with fail
  go_ret
  exact ⟨rfl, rfl⟩
theorem sd_size {w : World} {d bs cap m : Nat} {D : Dsk} (h : DiskIn w d bs cap m D) :
    Calls Tryz.prog 93 #[.pointer (some ⟨d, 0, none⟩)] w fun e w' => e = .returned (.int .i64 (D.s.length : Nat)) ∧ w' = w := by
  have p0 := h.ptr
  simp only [cellsD] at p0
  clear h
  go_enter Tryz.func93, Tryz.ntmps93
  go_wp2_with fail
  go_ret
  exact ⟨rfl, rfl⟩
end Go.Proofs.YtlkgdpdnhnakoaaGreatDoor

namespace Go.Proofs.YtlkgdpdnhnakoaaGreatDoor
open Go.RowKit

theorem nats_range {w : World} {b off : Nat} {xs : List Nat} (h : NatsAt w .u8 (some ⟨b, off, none⟩) xs) : w.rangeAt b off (encB xs) := by
  intro j v hv
  obtain ⟨x, hx, rfl⟩ : ∃ x, xs[j]? = some x ∧ Value.int .u8 (x : Nat) = v := by
    unfold encB at hv
    rw [List.getElem?_map, Option.map_eq_some_iff] at hv
    exact hv
  rcases h with rfl | ⟨b', off', e, _, hc⟩
  · simp at hx
  · cases e
    exact hc j x hx

theorem putS_waitF {s : List Sec} {n : Nat} (hn : n < s.length) (b : List Nat) (j : Nat) : (if j = n then some (secV b) else waitF s j) = waitF (putS s n b) j := by
  unfold waitF waitsAt putS
  simp only [getD_set]
  by_cases e : j = n
  · subst e; simp [hn]
  · simp [e]
theorem putS_safe {s : List Sec} {n : Nat} (hn : n < s.length) (b : List Nat) : (putS s n b).map (·.safe) = s.map (·.safe) := by
  unfold putS
  rw [List.map_set]
  apply List.ext_getElem?
  intro i
  rw [List.getElem?_set]
  split
  · rename_i e
    subst e
    simp [hn]
  · rfl

theorem run_arrayAt (P : Program) {t e : TypeId} {n : Nat} (ht : P.underlying t = some (.array n e)) (p : Option Addr) (l c : Nat) (h : n ≤ l) (w : World) : (Instr.arrayAt t (.slice p l c)).run P w = .ok (.pointer p) w := by
  have : ¬ l < n := by omega
  simp [Instr.arrayAt, run_underlying ht, this, Result.andThen]
set_option maxRecDepth 100000 in
set_option maxHeartbeats 800000 in
theorem sd_put {w : World} {d bs cap m : Nat} {D : Dsk} (h : DiskIn w d bs cap m D) (pb pd pn : Nat) (a : Addr) (c : Nat) (b : List Nat) (n : Nat) (hn : n < D.s.length) (hb : b.length = 256) (hbb : Bts b)
    (h1 : Blk w pb #[.slice (some a) 256 c] 56) (h2 : Blk w pd #[.pointer (some ⟨d, 0, none⟩)] 28) (h3 : Blk w pn #[.int .i64 (n : Nat)] 3) (hat : NatsAt w .u8 (some a) b) :
    Calls Tryz.prog 259 #[.pointer (some ⟨pb, 0, none⟩), .pointer (some ⟨pd, 0, none⟩), .pointer (some ⟨pn, 0, none⟩)] w fun e w' =>
      e = .returned (.tuple #[]) ∧ DiskIn w' d bs cap m { D with s := putS D.s n b } ∧ Kept (fun k => k = m) w w' := by
  have p0 : w.cell? ⟨d, 1, none⟩ = some (.map (some m)) := h.ptr 1
  have c1 := h1.cell 0 rfl
  have c2 := h2.cell 0 rfl
  have c3 := h3.cell 0 rfl
  have hx : ∃ x off, a = ⟨x, off, none⟩ := by
    rcases hat with e | ⟨x, off, e, _⟩
    · rw [e] at hb; simp at hb
    · cases e; exact ⟨x, off, rfl⟩
  obtain ⟨x, off, rfl⟩ := hx
  have hr := nats_range hat
  have H := Lib.hid h
  have HN := Lib.hid hn; have HB := Lib.hid hb; have HBB := Lib.hid hbb
  have hu := Tryz.underlying161
  have hi : (Tryz.prog.info? 161).map (·.size) = some (encB b).length := by rw [encB_len, hb]; kernel_rfl
  have hl : (encB b).length = 256 := by rw [encB_len, hb]
  have n1 := And.intro (h.map.ne h1) h1.lt; have n2 := And.intro (h.map.ne h2) h2.lt; have n3 := And.intro (h.map.ne h3) h3.lt
  clear h h1 h2 h3 hat hn hb hbb
  generalize hcs : encB b = cs at *
  have HCS := Lib.hid hcs
  have hA := run_arrayAt Tryz.prog hu (some ⟨x, off, none⟩) 256 c (Nat.le_refl _)
  clear hcs
  obtain ⟨w2, hrun, hm2, hk2, hz2⟩ := (show MapI w.drew m (waitF D.s) from H.out.map).store (P := Tryz.prog) Tryz.underlying86 Tryz.underlying3 n (.agg cs.toArray)
  have HM := Lib.hid hm2; have HK := Lib.hid hk2
  have nx : ¬ x = m := by
    have e0 : ∃ v, cs[0]? = some v := ⟨_, List.getElem?_eq_getElem (by omega)⟩
    obtain ⟨v, hv⟩ := e0
    exact H.out.map.ne_cell (hr 0 v hv)
  have k0 : Kept (fun j => j = m) w w2 := ⟨hk2.os, hk2.tape, hk2.output, hk2.size, hk2.block⟩
  have q0 := (k0.cell (p := ⟨d, 1, none⟩) H.out.box.lt (fun q => H.out.ne1 q.symm)).trans p0
  have q1 := (k0.cell (p := ⟨pb, 0, none⟩) n1.2 n1.1).trans c1
  have q2 := (k0.cell (p := ⟨pd, 0, none⟩) n2.2 n2.1).trans c2
  have q3 := (k0.cell (p := ⟨pn, 0, none⟩) n3.2 n3.1).trans c3
  have q4 := rangeAt_kept hr k0 (World.block_lt_of_cell? w _ (hr 0 _ (List.getElem?_eq_getElem (by omega)))) nx
  clear hm2 hk2 hz2 n1 n2 n3 k0 nx
  go_enter Tryz.func259, Tryz.ntmps259
  go_wp2_with fail
  go_region_held3 (fun w' => w'.cell? ⟨d, 1, none⟩ = some (.map (some m)) ∧ w'.cell? ⟨pb, 0, none⟩ = some (.slice (some ⟨x, off, none⟩) 256 c) ∧ w'.cell? ⟨pd, 0, none⟩ = some (.pointer (some ⟨d, 0, none⟩)) ∧ w'.cell? ⟨pn, 0, none⟩ = some (.int .i64 (n : Nat)) ∧ w'.rangeAt x off cs)
    (first | exact ⟨p0, c1, c2, c3, hr⟩ | exact ⟨q0, q1, q2, q3, q4⟩ | go_keep_ranges)
    (fail)
  all_goals
    go_wp2_with fail
    go_end0
    have k : Kept (fun j => j = m) w w2 := ⟨HK.out.os, HK.out.tape, HK.out.output, HK.out.size, HK.out.block⟩
    refine ⟨rfl, ⟨?_, ?_, ?_, H.out.apart, H.out.nm, ?_, ?_⟩, k⟩
    · have := H.out.box.kept k (fun q => H.out.ne1 q.symm)
      simpa only [cellsD, putS_len] using this
    · exact (H.out.safe.kept k (fun q => by have := H.out.ne2; exact this q.symm)).alike (putS_safe HN.out _)
    · rw [← HCS.out] at HM
      exact HM.out.congr (putS_waitF HN.out b)
    · exact ⟨putS_ok H.out.ok.secs n HB.out HBB.out, by rw [putS_len]; exact H.out.ok.few, H.out.ok.aft, H.out.ok.cal⟩
    · show (putS D.s n b).length ≤ cap
      rw [putS_len]; exact H.out.cap

def dod (d bs m : Nat) (k : Nat) : Prop := k = d ∨ k = bs ∨ k = m
set_option maxHeartbeats 800000 in
/-- call: what do leaves is s. -/
theorem sd_call {w : World} {d bs cap m : Nat} {D : Dsk} (h : DiskIn w d bs cap m D) (hoff : D.off = false) (g : FuncId) (xs ys : Array Value) (s : List Sec) (hl : s.length = D.s.length) (hs : ∀ x ∈ s, x.OK)
    (hdo : ∀ w' D', D'.s = D.s → DiskIn w' d bs cap m D' → Kept (fun j => j = d) w w' → Calls Tryz.prog g (xs ++ ys) w' fun e w'' => e = .returned (.tuple #[]) ∧ DiskIn w'' d bs cap m { D' with s := s } ∧ Kept (dod d bs m) w' w'')
    (hen : ∀ args w, (callFunc g args).run Tryz.prog w = .ok (.enter g args) w) :
    Calls Tryz.prog 258 #[.pointer (some ⟨d, 0, none⟩), .func (.func g) xs ys] w fun e w' => e = .returned (.int .i64 ((callD D s).2 : Nat)) ∧ DiskIn w' d bs cap m (callD D s).1 ∧ Kept (dod d bs m) w w' := by
  have p0 := h.ptr
  have f0 := h.box.free
  have OK := Lib.hid (callD_ok h.ok hs hl)
  have H := Lib.hid h; have DO := Lib.hid hdo
  have hm := h.ne1
  have ha := h.ok.aft
  clear h hdo
  obtain ⟨S, off, calls, after, done⟩ := D
  simp only at hoff
  subst hoff
  dsimp only at ha
  simp only [cellsD] at p0
  go_enter Tryz.func258, Tryz.ntmps258
  by_cases h0 : after = 0
  · subst h0
    cases done
    · go_wp2_with fail
      go_ret
      have k := ((Kept.refl (fun j => j = d) w).setG 3 (.int .i64 (wrap64 (calls + 1)))).setG 4 (.int .i64 (-1)) |>.setG 2 (.bool true)
      have k3 : Kept (dod d bs m) w _ := k.mono (fun _ _ q => .inl q)
      refine ⟨rfl, ⟨((H.out.box.set 3 _).set 4 _).set 2 _, H.out.safe.kept k (fun q => H.out.apart q.symm), H.out.map.kept k (fun q => hm q), H.out.apart, H.out.nm, OK.out, H.out.cap⟩, k3⟩
    · go_wp2_with fail
      have k := ((Kept.refl (fun j => j = d) w).setG 3 (.int .i64 (wrap64 (calls + 1)))).setG 4 (.int .i64 (-1))
      refine (DO.out _ ⟨S, false, wrap64 (calls + 1), -1, true⟩ rfl ⟨(H.out.box.set 3 _).set 4 _, H.out.safe.kept k (fun q => H.out.apart q.symm), H.out.map.kept k (fun q => hm q), H.out.apart, H.out.nm, ⟨H.out.ok.secs, H.out.ok.few, by dsimp only; omega, by unfold wrap64; dsimp only; omega⟩, H.out.cap⟩ k).mono ?_
      rintro e w3 ⟨rfl, h3, k3⟩
      have p3 := h3.ptr
      have f3 := h3.box.free
      simp only [cellsD] at p3
      have H3 := Lib.hid h3
      clear h3 p0 f0
      go_wp2_with fail
      go_ret
      have k4 := (Kept.refl (fun j => j = d) w3).setG 2 (.bool true)
      exact ⟨rfl, ⟨H3.out.box.set 2 _, H3.out.safe.kept k4 (fun q => H.out.apart q.symm), H3.out.map.kept k4 (fun q => hm q), H.out.apart, H.out.nm, OK.out, H3.out.cap⟩, ((k.mono (fun _ _ q => .inl q)).trans k3).trans (k4.mono (fun _ _ q => .inl q))⟩
  · by_cases h1 : after = -1
    · subst h1
      go_wp2_with fail
      have k := (Kept.refl (fun j => j = d) w).setG 3 (.int .i64 (wrap64 (calls + 1)))
      refine (DO.out _ ⟨S, false, wrap64 (calls + 1), -1, done⟩ rfl ⟨H.out.box.set 3 _, H.out.safe.kept k (fun q => H.out.apart q.symm), H.out.map.kept k (fun q => hm q), H.out.apart, H.out.nm, ⟨H.out.ok.secs, H.out.ok.few, by dsimp only; omega, by unfold wrap64; dsimp only; omega⟩, H.out.cap⟩ k).mono ?_
      rintro e w3 ⟨rfl, h3, k3⟩
      have H3 := Lib.hid h3
      clear h3 p0 f0
      go_wp2_with fail
      go_ret
      exact ⟨rfl, H3.out, (k.mono (fun _ _ q => .inl q)).trans k3⟩
    · have ex : wrap64 (after - 1) = after - 1 := by unfold wrap64; omega
      go_wp2_with fail
      have k := ((Kept.refl (fun j => j = d) w).setG 3 (.int .i64 (wrap64 (calls + 1)))).setG 4 (.int .i64 (after - 1))
      refine (DO.out _ ⟨S, false, wrap64 (calls + 1), after - 1, done⟩ rfl ⟨(H.out.box.set 3 _).set 4 _, H.out.safe.kept k (fun q => H.out.apart q.symm), H.out.map.kept k (fun q => hm q), H.out.apart, H.out.nm, ⟨H.out.ok.secs, H.out.ok.few, by dsimp only; omega, by unfold wrap64; dsimp only; omega⟩, H.out.cap⟩ k).mono ?_
      rintro e w3 ⟨rfl, h3, k3⟩
      have H3 := Lib.hid h3
      clear h3 p0 f0
      go_wp2_with fail
      go_ret
      have e1 : callD ⟨S, false, calls, after, done⟩ s = (⟨s, false, wrap64 (calls + 1), after - 1, done⟩, 0) := by simp [callD, h0, h1]
      rw [e1]
      exact ⟨rfl, H3.out, (k.mono (fun _ _ q => .inl q)).trans k3⟩

theorem errD_zero {D : Dsk} {n : Int} (h : errD D n = 0) : D.off = false ∧ 0 ≤ n ∧ n < (D.s.length : Int) := by
  unfold errD at h
  split at h
  · cases h
  · split at h
    · cases h
    · rename_i h1 h2
      exact ⟨by simpa using h1, by omega, by omega⟩
theorem box_none (bs cap m : Nat) (D : Dsk) : ∀ (i : Nat) (x : Int), (cellsD bs cap m D)[i]? ≠ some (.int .u8 x) := by
  intro i x
  unfold cellsD
  rcases i with _ | _ | _ | _ | _ | _ | i <;> simp
set_option maxHeartbeats 800000 in
theorem sd_write {w : World} {d bs cap m : Nat} {D : Dsk} (h : DiskIn w d bs cap m D) (n : Int) (a : Option Addr) (l c : Nat) (b : List Nat) (hl : l = b.length) (hb : Bts b) (hat : NatsAt w .u8 a b) :
    Calls Tryz.prog 176 #[.pointer (some ⟨d, 0, none⟩), .int .i64 n, .slice a l c] w fun e w' =>
      e = .returned (.int .i64 ((writeD D n b).2 : Nat)) ∧ DiskIn w' d bs cap m (writeD D n b).1 ∧ Kept (dod d bs m) w w' := by
  have hA := Lib.hid fun w' h' => sd_at (w := w') (d := d) (bs := bs) (cap := cap) (m := m) (D := D) h' n
  have H := Lib.hid h; have AT := Lib.hid hat; have HB := Lib.hid hb; have HL := Lib.hid hl
  have l1 := h.box.lt; have l2 := h.safe.lt; have l3 := h.map.lt
  obtain ⟨E, hE⟩ : ∃ E, errD D n = E := ⟨_, rfl⟩
  rw [hE] at hA
  have HE := Lib.hid hE
  clear h hat hb hl hE
  go_enter Tryz.func176, Tryz.ntmps176
  go_wp2_with fail
  refine Calls.fr3 ?_; intro W F' K' hz'; have F := Lib.hid F'; have K := Lib.hid K'; have hz := Lib.hid hz'; clear F' K' hz'; obtain ⟨p0, f0, p1, f1, p2, f2, -⟩ := F.out.rules; have z0 := F.out.1.lt; have z1 := F.out.2.1.lt; have z2 := F.out.2.2.1.lt
  refine (hA.out W (H.out.same K.out)).mono ?_
  rintro e W' ⟨rfl, rfl⟩
  clear hA
  by_cases h0 : E = 0
  · subst h0
    by_cases h1 : l = 256
    · subst h1
      obtain ⟨ho, hn0, hn1⟩ := errD_zero HE.out
      obtain ⟨N, hN⟩ : ∃ N : Nat, n = (N : Int) := ⟨n.toNat, by omega⟩
      subst hN
      have hN : N < D.s.length := by omega
      have hx : ∃ x, a = some x := by
        rcases AT.out with e | ⟨x, off, e, _⟩
        · have := HL.out; rw [e] at this; simp at this
        · exact ⟨_, e⟩
      obtain ⟨x, rfl⟩ := hx
      have e1 : writeD D (N : Nat) b = callD D (putS D.s N b) := by
        unfold writeD
        rw [if_pos HE.out, if_pos HL.out.symm, Int.toNat_natCast]
      have E1 := Lib.hid e1
      have CA := Lib.hid (sd_call (H.out.same K.out) ho 259 #[] #[.pointer (some ⟨w.heap.size + 1 + 1, 0, none⟩), .pointer (some ⟨w.heap.size, 0, none⟩), .pointer (some ⟨w.heap.size + 1, 0, none⟩)] (putS D.s N b) (putS_len _ _ _) (putS_ok H.out.ok.secs N HL.out.symm HB.out)
        (fun w' D' hs hd k => by
          have F' := F.out.kept k (by simp; omega)
          have at' : NatsAt w' .u8 (some x) b := (AT.out.same K.out).apart (H.out.same K.out).box k (box_none _ _ _ _)
          refine (sd_put hd _ _ _ x c b N (by rw [hs]; exact hN) HL.out.symm HB.out F'.2.2.1 F'.1 F'.2.1 at').mono ?_
          rintro e w'' ⟨rfl, h', k'⟩
          rw [hs] at h'
          exact ⟨rfl, h', k'.mono (fun _ _ q => .inr (.inr q))⟩)
        (Go.Proofs.enters_of Tryz.func259 (by kernel_rfl) rfl))
      clear hN hn0 hn1 e1 ho l1 l2 l3 F AT HB HL
      go_wp2_with fail
      refine CA.out.mono ?_
      rintro e w3 ⟨rfl, h3, k3⟩
      go_wp2_with fail
      go_ret
      rw [E1.out]
      exact ⟨rfl, h3, (K.out.mono (fun _ _ q => q.elim)).trans k3⟩
    · have e1 : writeD D n b = (D, 2) := by
        unfold writeD
        rw [if_pos HE.out, if_neg (fun q => h1 (HL.out.trans q))]
      have h1' : ¬ (l : Int) = 256 := by omega
      go_wp2_with fail
      go_ret
      rw [e1]
      exact ⟨rfl, H.out.same K.out, K.out.mono (fun _ _ q => q.elim)⟩
  · have e1 : writeD D n b = (D, E) := by
      unfold writeD
      rw [if_neg (by rw [HE.out]; exact h0), HE.out]
    have h0' : ¬ (E : Int) = 0 := by omega
    go_wp2_with fail
    go_ret
    rw [e1]
    exact ⟨rfl, H.out.same K.out, K.out.mono (fun _ _ q => q.elim)⟩
end Go.Proofs.YtlkgdpdnhnakoaaGreatDoor

namespace Go.Proofs.YtlkgdpdnhnakoaaGreatDoor
open Go.RowKit

section
variable {P : Program} {w : World} {ops : Array Oper} {rest : List Oper} {o : Oper} {a : Act} {Q : Exit → Act → World → Prop}
/-- A store, as it runs. -/
theorem wpList_storeRun {ty : TypeId} {p v : Value} {w' : World} (hrun : (Instr.storeAt ty p v).run P w = .ok () w') (hg : o.guard = none) (x y : Operand) (hop : o.op = .store ty x y) (hx : a.eval x = p) (hy : a.eval y = v)
    (hK : wpList P ops Q rest (a.put o.dst undef) w') : wpList P ops Q (o :: rest) a w :=
  wpList_plain hg fun _ hk => by
    unfold Oper.wp execOp
    simp only [hop, hx, hy, hrun, Sem.run_bind, Sem.run_pure, Result.andThen_ok]
    exact hk _ _ hK
/-- A load, as it runs. -/
theorem wpList_loadRun {ty : TypeId} {p v : Value} (hrun : (Instr.loadAt ty p).run P w = .ok v w) (hg : o.guard = none) (x : Operand) (hop : o.op = .load ty x) (hx : a.eval x = p)
    (hK : wpList P ops Q rest (a.put o.dst v) w) : wpList P ops Q (o :: rest) a w :=
  wpList_plain hg fun _ hk => by
    unfold Oper.wp execOp
    simp only [hop, hx, hrun, Sem.run_bind, Sem.run_pure, Result.andThen_ok]
    exact hk _ _ hK
end
/-- The cells of a sector's bytes. -/
def secC (l : List Nat) : Array Value := (encB l).toArray
theorem secC_size {l : List Nat} (h : l.length = 256) : (secC l).size = 256 := by simp [secC, encB_len, h]
theorem secC_one (l : List Nat) : (secC l).all (·.oneCell') = true := all_oneCell_toArray (encB_one l)
theorem zero_sec (w : World) : (zeroValue 161).run Tryz.prog w = .ok (.agg (secC zeros)) w := by kernel_rfl
def readD (D : Dsk) (n : Int) : List Nat × Nat := if errD D n = 0 then ((D.s.getD n.toNat sec0).has, 0) else ([], errD D n)
theorem size_sec {C : Array Value} (h : C.size = 256) : (Tryz.prog.info? 161).map (·.size) = some C.size := by rw [h]; kernel_rfl
theorem zeroC_size : Tryz.zeroCells161.size = 256 := by kernel_rfl
/-- A sector into a variable that was made last. -/
theorem put_new (w : World) {C : Array Value} (h : C.size = 256) (h1 : C.all (·.oneCell') = true) : (Instr.storeAt 161 (.pointer (some ⟨w.heap.size, 0, none⟩)) (.agg C)).run Tryz.prog (w.alloc (.cells Tryz.zeroCells161 161)) = .ok () (w.alloc (.cells C 161)) :=
  run_storeAt_new w _ _ _ (size_sec h) (by rw [zeroC_size, h]) h1
theorem put_new2 (w : World) {C C' : Array Value} (h : C'.size = 256) (h0 : C.size = 256) (h1 : C'.all (·.oneCell') = true) : (Instr.storeAt 161 (.pointer (some ⟨w.heap.size, 0, none⟩)) (.agg C')).run Tryz.prog (w.alloc (.cells C 161)) = .ok () (w.alloc (.cells C' 161)) :=
  run_storeAt_new w _ _ _ (size_sec h) (by rw [h0, h]) h1
theorem waitF_at {s : List Sec} {N : Nat} {x : Sec} (hx : s[N]? = some x) : waitF s N = if x.waits then some (.agg (secC x.has)) else none := by
  unfold waitF waitsAt secV
  rw [show s.getD N sec0 = x from by rw [List.getD_eq_getElem?_getD, hx]; rfl]
  rfl
theorem nats_new {w : World} {l : List Nat} {t : TypeId} : NatsAt (w.alloc (.cells (secC l) t)) .u8 (some ⟨w.heap.size, 0, none⟩) l := by
  refine .inr ⟨_, 0, rfl, by simp, fun i x hx => ?_⟩
  rw [Nat.zero_add, cell_blk (Blk.new w _ _), secC]
  simp [encB, hx]

end Go.Proofs.YtlkgdpdnhnakoaaGreatDoor

namespace Go.Proofs.YtlkgdpdnhnakoaaGreatDoor
open Go.RowKit

/-- What is safe, sector by sector. -/
structure SafeF (w : World) (b N : Nat) (g : Nat → List Nat) : Prop where
  at_ : ∀ n, n < N → w.rangeAt b (n * 256) (encB (g n))
  len : ∀ n, n < N → (g n).length = 256
  there : w.there b 0 (N * 256)
  lt : b < w.heap.size
theorem getD_of {s : List Sec} {n : Nat} {x : Sec} (hx : s[n]? = some x) : s.getD n sec0 = x := by rw [List.getD_eq_getElem?_getD, hx]; rfl
theorem get_of {s : List Sec} {n : Nat} (h : n < s.length) : s[n]? = some (s.getD n sec0) := by rw [List.getD_eq_getElem?_getD, List.getElem?_eq_getElem h]; rfl
theorem SafeAt.f {w : World} {b : Nat} {s : List Sec} (h : SafeAt w b s) (hs : ∀ x ∈ s, x.OK) : SafeF w b s.length (fun n => (s.getD n sec0).safe) :=
  ⟨fun n hn => h.at_ n _ (get_of hn), fun n _ => (getD_ok hs n).safeL, h.there, h.lt⟩
theorem SafeF.s {w : World} {b : Nat} {s : List Sec} {g : Nat → List Nat} (h : SafeF w b s.length g) (e : ∀ n x, s[n]? = some x → g n = x.safe) : SafeAt w b s :=
  ⟨fun n x hx => by rw [← e n x hx]; exact h.at_ n (List.getElem?_eq_some_iff.1 hx).1, h.there, h.lt⟩
theorem SafeF.kept {w w' : World} {fp : Nat → Prop} {b N : Nat} {g : Nat → List Nat} (h : SafeF w b N g) (k : Kept fp w w') (hn : ¬ fp b) : SafeF w' b N g :=
  ⟨fun n hx => rangeAt_kept (h.at_ n hx) k h.lt hn, h.len, there_kept h.there k h.lt hn, Nat.lt_of_lt_of_le h.lt k.size⟩
theorem SafeF.congr {w : World} {b N : Nat} {g g' : Nat → List Nat} (h : SafeF w b N g) (e : ∀ n, n < N → g n = g' n) : SafeF w b N g' :=
  ⟨fun n hn => by rw [← e n hn]; exact h.at_ n hn, fun n hn => by rw [← e n hn]; exact h.len n hn, h.there, h.lt⟩
theorem SafeF.room {w : World} {b N : Nat} {g : Nat → List Nat} (h : SafeF w b N g) {n : Nat} (hn : n < N) : w.there b (n * 256) 256 := fun j hj => by
  have := h.there (n * 256 + j) (by
    have : (n + 1) * 256 ≤ N * 256 := Nat.mul_le_mul_right _ hn
    omega)
  rwa [Nat.zero_add] at this
theorem SafeF.put {w : World} {b N : Nat} {g : Nat → List Nat} (h : SafeF w b N g) {n : Nat} (hn : n < N) {y : List Nat} (hy : y.length = 256) : SafeF (w.setCells b (n * 256) (encB y)) b N (fun j => if j = n then y else g j) := by
  have ht : w.there b (n * 256) (encB y).length := by rw [encB_len, hy]; exact h.room hn
  refine ⟨fun j hj => ?_, fun j hj => ?_, World.there_setCells h.there _ _ _, Nat.lt_of_lt_of_le h.lt ((Kept.refl (fun j => j = b) w).setCells (fun _ => rfl) _ _).size⟩
  · by_cases e : j = n
    · subst e
      rw [if_pos rfl]
      exact World.rangeAt_setCells_same _ _ _ _ ht
    · rw [if_neg e]
      refine World.rangeAt_setCells_apart (h.at_ j hj) _ _ _ (.inr ?_)
      rw [encB_len, encB_len, hy, h.len j hj]
      omega
  · split
    · exact hy
    · exact h.len j hj

/-- What is safe while the entries that are left are still to come. -/
def midS (s : List Sec) (left : Nat → Bool) (n : Nat) : List Nat := if waitsAt s n && !left n then (s.getD n sec0).has else (s.getD n sec0).safe
theorem midS_start (s : List Sec) (n : Nat) : (s.getD n sec0).safe = midS s (fun n => (waitF s n).isSome) n := by
  have e := waitF_some s n
  unfold midS
  simp only [e]
  cases waitsAt s n <;> rfl
theorem midS_step {s : List Sec} {left : Nat → Bool} {n : Nat} (h : waitsAt s n = true) (j : Nat) : (if j = n then (s.getD n sec0).has else midS s left j) = midS s (fun j => left j && !decide (j = n)) j := by
  unfold midS
  by_cases e : j = n
  · subst e; simp [h]
  · simp [e]
theorem midS_end {s : List Sec} (hs : ∀ x ∈ s, x.OK) {left : Nat → Bool} (hl : ∀ n, left n = false) {n : Nat} {x : Sec} (hx : (settle s)[n]? = some x) : midS s left n = x.safe := by
  unfold settle at hx
  rw [List.getElem?_map, Option.map_eq_some_iff] at hx
  obtain ⟨y, hy, rfl⟩ := hx
  unfold midS waitsAt
  rw [getD_of hy, hl]
  cases hw : y.waits
  · have := (hs y (List.mem_of_getElem? hy)).still hw
    simp [settleS, this]
  · simp [settleS]
theorem settle_waitF (s : List Sec) (n : Nat) : (none : Option Value) = waitF (settle s) n := by
  unfold waitF waitsAt settle
  have : ((s.map settleS).getD n sec0).waits = false := by
    rw [List.getD_eq_getElem?_getD, List.getElem?_map]
    cases s[n]? <;> rfl
  rw [this]
  rfl

set_option maxRecDepth 100000 in
set_option maxHeartbeats 1000000 in
theorem sd_settle {w : World} {d bs cap m : Nat} {D : Dsk} (h : DiskIn w d bs cap m D) :
    Calls Tryz.prog 84 #[.pointer (some ⟨d, 0, none⟩)] w fun e w' => e = .returned (.tuple #[]) ∧ DiskIn w' d bs cap m { D with s := settle D.s } ∧ Kept (dod d bs m) w w' := by
  have p0 := h.ptr
  simp only [cellsD] at p0
  have H := Lib.hid h
  have l1 := h.box.lt; have l2 := h.safe.lt; have l3 := h.map.lt
  clear h
  go_enter Tryz.func84, Tryz.ntmps84
  go_wp2_with (at_range; refine wpList_rangeI _ rfl _ _ rfl Tryz.underlying86 rfl H.out.map ?_; intro w0 cnt0 hrg0 hk0 hz0)
  go_frame
  have q0 := (H.out.box.kept hk0 (fun h => h))
  go_loopw [9] (fun _ wr => ∃ (left : Nat → Bool) (cnt : Nat), RangesI wr m w.heap.size (waitF D.s) left cnt ∧ SafeF wr bs D.s.length (midS D.s left) ∧ Blk wr d (cellsD bs cap m D) 88 ∧ Kept (dod d bs m) w wr) (fun _ wr => wr.rangeLeft m w.heap.size)
  case atStart => exact ⟨_, _, hrg0, ((H.out.safe.f H.out.ok.secs).kept hk0 (fun h => h)).congr (fun n _ => midS_start _ _), q0, hk0.mono (fun _ _ h => h.elim)⟩
  case round =>
    clear p0 q0 hrg0 hk0
    obtain ⟨left, cnt, hrg, hsf, hbx, hk⟩ := hrel
    have p0 := cell_blk hbx
    simp only [cellsD] at p0
    have RG := Lib.hid hrg; have SF := Lib.hid hsf; have BX := Lib.hid hbx; have K := Lib.hid hk
    clear hrg hsf hbx hk
    go_wp2_with (at_next; refine wpList_nextI _ rfl _ rfl rfl RG.out ?_ ?_)
    · intro hl0
      obtain ⟨w5, hcl, hm5, hk5, hz5⟩ := RG.out.map.clear (P := Tryz.prog) (ty := 0) Tryz.underlying86
      have HM := Lib.hid hm5; have HK := Lib.hid hk5
      clear hm5 hk5 hz5
      go_wp2_with fail
      go_end0
      refine ⟨rfl, ⟨?_, ?_, ?_, H.out.apart, H.out.nm, ⟨settle_ok H.out.ok.secs, by rw [settle_len]; exact H.out.ok.few, H.out.ok.aft, H.out.ok.cal⟩, by rw [settle_len]; exact H.out.cap⟩, K.out.trans (HK.out.mono (fun _ _ q => .inr (.inr q)))⟩
      · have := BX.out.kept HK.out (fun q => H.out.ne1 q.symm)
        simpa only [cellsD, settle_len] using this
      · refine SafeF.s (g := midS D.s left) ?_ (fun n x hx => midS_end H.out.ok.secs hl0 hx)
        rw [settle_len]
        exact SF.out.kept HK.out (fun q => H.out.nm q.symm)
      · exact HM.out.congr (settle_waitF D.s)
    · intro n v w1 cnt1 hf hlf hrg1 hlt hz1 hk1 hen
      have hw : waitsAt D.s n = true := by rw [← waitF_some, hf]; rfl
      have hn : n < D.s.length := waitsAt_lt hw
      obtain ⟨y, hy⟩ : ∃ y, (D.s.getD n sec0).has = y := ⟨_, rfl⟩
      have hv : v = .agg (encB y).toArray := by
        have := hf
        unfold waitF at this
        rw [hw, if_pos rfl, hy] at this
        exact (Option.some.inj this).symm
      subst hv
      have hy256 : y.length = 256 := by rw [← hy]; exact (getD_ok H.out.ok.secs n).hasL
      have b1 := BX.out.kept hk1 (by omega)
      have s1 := SF.out.kept hk1 (by omega)
      have k1 := K.out.step hk1 (fq := fun j => j = w.heap.size) (fun i hi q => by omega)
      have hst := put_new w1 (C := secC y) (secC_size hy256) (secC_one _)
      have hi : (Tryz.prog.info? 161).map (·.size) = some (encB y).length := by rw [encB_len, hy256]; kernel_rfl
      have hl : (encB y).length = 256 := by rw [encB_len, hy256]
      have h1 := encB_one y
      have hn0 : (0 : Int) ≤ (n : Int) := by omega
      have hn1 : (n : Int) < (D.s.length : Int) := by omega
      obtain ⟨cs, hcs⟩ : ∃ cs, encB y = cs := ⟨_, rfl⟩
      have hC : secC y = cs.toArray := by unfold secC; rw [hcs]
      rw [hC] at hst
      rw [hcs] at hi hl h1 hen
      have b2 := b1.alloc (.cells cs.toArray 161)
      have k2 : Kept (fun _ => False) w1 (w1.alloc (.cells cs.toArray 161)) := (Kept.refl _ w1).alloc _
      have s2 := s1.kept k2 (fun h => h)
      have r2 := hrg1.kept k2 (fun h => h) (fun h => h)
      have n2 : (w1.alloc (.cells cs.toArray 161)).rangeAt w1.heap.size 0 cs := by
        intro j u hu
        rw [Nat.zero_add, cell_blk (Blk.new w1 _ _)]
        simpa using hu
      have z3 : w.heap.size < w1.heap.size := by have := RG.out.lt; omega
      have lm := RG.out.left_eq
      have HCS := Lib.hid hcs; have HY := Lib.hid hy; have HW := Lib.hid hw; have R2 := Lib.hid r2; have B2 := Lib.hid b2; have S2 := Lib.hid s2; have K2 := Lib.hid (k1.trans (k2.mono (fun _ _ h => h.elim))); have LM := Lib.hid lm; have LT := Lib.hid hlt
      have HY256 := Lib.hid hy256
      clear hz1 hf hlf hrg1 hk1 hy hcs hC hw b1 s1 k1 b2 s2 r2 lm hlt RG BX SF K p0 hy256
      go_wp2_with (with_reducible refine wpList_storeRun hst rfl _ _ rfl rfl rfl ?_)
      clear hst hen
      have zz : (w1.alloc (.cells cs.toArray 161)).heap.size = w1.heap.size + 1 := by simp
      generalize w1.alloc (.cells cs.toArray 161) = w2 at *
      have p2 : w2.cell? ⟨d, 0, none⟩ = some (.slice (some ⟨bs, 0, none⟩) D.s.length cap) := cell_blk B2.out 0
      have t2 := S2.out.room hn
      have hu := Tryz.underlying161
      have q2 : (w2.drew.setCells bs (n * 256) cs).cell? ⟨d, 0, none⟩ = some (.slice (some ⟨bs, 0, none⟩) D.s.length cap) := by
        rw [World.cell?_setCells_out _ _ _ _ _ (fun hb => absurd hb H.out.apart)]
        exact p2
      have q3 := World.rangeAt_setCells_apart (w := w2.drew) n2 bs (n * 256) cs (.inl (by omega))
      have q4 := World.there_setCells (w := w2.drew) t2 bs (n * 256) cs
      go_region_held3 (fun w' => w'.cell? ⟨d, 0, none⟩ = some (.slice (some ⟨bs, 0, none⟩) D.s.length cap) ∧ w'.rangeAt w1.heap.size 0 cs ∧ w'.there bs (n * 256) 256)
        (first | exact ⟨p2, n2, t2⟩ | exact ⟨q2, q3, q4⟩ | go_keep_ranges)
        (fail)
      go_wp2_with fail
      have k4 : Kept (fun j => j = bs) w2 (w2.drew.setCells bs (n * 256) cs) := (Kept.refl (fun j => j = bs) w2).drew.setCells (fun _ => rfl) _ _
      have r4 := R2.out.kept k4 H.out.nm (by omega)
      go_roundw
      case rel =>
        refine ⟨_, cnt1, r4, ?_, B2.out.kept k4 H.out.apart, K2.out.trans (k4.mono (fun _ _ q => .inr (.inl q)))⟩
        rw [← HCS.out]
        have hsf := (show SafeF w2.drew bs D.s.length (midS D.s left) from S2.out.kept (Kept.refl (fun _ => False) w2).drew (fun h => h)).put hn HY256.out
        refine hsf.congr (fun j hj => ?_)
        rw [← midS_step HW.out j, HY.out]
      case measure => rw [r4.left_eq, LM.out]; exact LT.out

set_option maxHeartbeats 800000 in
theorem sd_sync {w : World} {d bs cap m : Nat} {D : Dsk} (h : DiskIn w d bs cap m D) :
    Calls Tryz.prog 177 #[.pointer (some ⟨d, 0, none⟩)] w fun e w' => e = .returned (.int .i64 ((syncD D).2 : Nat)) ∧ DiskIn w' d bs cap m (syncD D).1 ∧ Kept (dod d bs m) w w' := by
  have A := Lib.hid (sd_asked h)
  have H := Lib.hid h
  clear h
  cases ho : D.off
  · have e1 : syncD D = callD D (settle D.s) := by unfold syncD; rw [ho]; rfl
    have CA := Lib.hid (sd_call H.out ho 84 #[.pointer (some ⟨d, 0, none⟩)] #[] (settle D.s) (settle_len _) (settle_ok H.out.ok.secs)
      (fun w' D' hs hd k => by
        refine (sd_settle hd).mono ?_
        rintro e w'' ⟨rfl, h', k'⟩
        rw [hs] at h'
        exact ⟨rfl, h', k'⟩)
      (enters_of Tryz.func84 (by kernel_rfl) rfl))
    rw [ho] at A
    have E1 := Lib.hid e1
    clear e1 ho
    go_enter Tryz.func177, Tryz.ntmps177
    go_wp2_with fail
    refine A.out.mono ?_
    rintro e w' ⟨rfl, rfl⟩
    clear A
    go_wp2_with fail
    refine CA.out.mono ?_
    rintro e w3 ⟨rfl, h3, k3⟩
    go_wp2_with fail
    go_ret
    rw [E1.out]
    exact ⟨rfl, h3, k3⟩
  · have e1 : syncD D = (D, 8) := by unfold syncD; rw [ho]; rfl
    rw [ho] at A
    go_enter Tryz.func177, Tryz.ntmps177
    go_wp2_with fail
    refine A.out.mono ?_
    rintro e w' ⟨rfl, rfl⟩
    clear A
    go_wp2_with fail
    go_ret
    rw [e1]
    exact ⟨rfl, H.out, Kept.refl _ _⟩
end Go.Proofs.YtlkgdpdnhnakoaaGreatDoor

namespace Go.Proofs.YtlkgdpdnhnakoaaGreatDoor
open Go.RowKit

theorem made_zero (N : Nat) (n : Nat) (hn : n < N) {w : World} {t : TypeId} : (w.alloc (.cells (madeCells (secC zeros) (N * 256)) t)).rangeAt w.heap.size (n * 256) (encB zeros) := by
  intro j v hv
  rw [cell_blk (Blk.new w _ _)]
  have hj : j < 256 := by have := (List.getElem?_eq_some_iff.1 hv).1; rw [encB_len, zeros_len] at this; exact this
  have h1 : (n + 1) * 256 ≤ N * 256 := Nat.mul_le_mul_right _ hn
  have h2 : n * 256 + j < N * 256 := by omega
  have h3 : (n * 256 + j) % 256 = j := by omega
  unfold madeCells
  rw [Array.getElem?_map, Array.getElem?_range, if_pos h2, Option.map_some, secC_size zeros_len, h3, ← hv]
  unfold secC
  rw [getElem!_pos _ _ (by simp [encB_len, zeros_len, hj])]
  simp
theorem made_there (N : Nat) {w : World} {t : TypeId} : (w.alloc (.cells (madeCells (secC zeros) (N * 256)) t)).there w.heap.size 0 (N * 256) := by
  intro j hj
  refine ⟨?_, (Blk.new w _ _).free _⟩
  rw [Nat.zero_add, cell_blk (Blk.new w _ _)]
  have := Go.size_madeCells (secC zeros) (N * 256)
  rw [Array.getElem?_eq_getElem (by rw [this]; exact hj)]
  rfl
theorem sec_info : (Tryz.prog.info? 161).map (fun i => (i.zero, i.size, i.bytes)) = some (some (.agg (secC zeros)), 256, 256) := by kernel_rfl
theorem secsOf_le (n : Int) : secsOf n ≤ 4096 := by unfold secsOf; omega

theorem newD_waitF (n : Int) (j : Nat) : (none : Option Value) = waitF (newD n).s j := by
  unfold waitF waitsAt newD
  have : ((List.replicate (secsOf n) sec0).getD j sec0).waits = false := by
    rw [List.getD_eq_getElem?_getD, List.getElem?_replicate]
    split <;> rfl
  rw [this]
  rfl
/-- What New leaves. -/
theorem new_in (n : Int) (w : World) (N : Nat) (hN : secsOf n = N) :
    DiskIn (((w.alloc (.cells (madeCells (secC zeros) (N * 256)) 161)).alloc (.map #[] 0)).alloc (.cells #[.slice (some ⟨w.heap.size, 0, none⟩) N N, .map (some (w.heap.size + 1)), .bool false, .int .i64 0, .int .i64 (-1), .bool false] 88)) (w.heap.size + 1 + 1) w.heap.size N (w.heap.size + 1) (newD n) := by
  have hl : (newD n).s.length = N := by unfold newD; rw [List.length_replicate, hN]
  have k2 := ((Kept.refl (fun _ => False) (w.alloc (.cells (madeCells (secC zeros) (N * 256)) 161))).alloc (.map #[] 0)).alloc (.cells #[.slice (some ⟨w.heap.size, 0, none⟩) N N, .map (some (w.heap.size + 1)), .bool false, .int .i64 0, .int .i64 (-1), .bool false] 88)
  have k3 := (Kept.refl (fun _ => False) ((w.alloc (.cells (madeCells (secC zeros) (N * 256)) 161)).alloc (.map #[] 0))).alloc (.cells #[.slice (some ⟨w.heap.size, 0, none⟩) N N, .map (some (w.heap.size + 1)), .bool false, .int .i64 0, .int .i64 (-1), .bool false] 88)
  have e1 : (w.alloc (.cells (madeCells (secC zeros) (N * 256)) 161)).heap.size = w.heap.size + 1 := by simp
  have m1 := MapI.new (w.alloc (.cells (madeCells (secC zeros) (N * 256)) 161))
  rw [e1] at m1
  refine ⟨?_, ?_, (m1.kept k3 (fun h => h)).congr (newD_waitF n), by omega, by omega, newD_ok n, by rw [hl]; exact Nat.le_refl _⟩
  · have := Blk.new' ((w.alloc (.cells (madeCells (secC zeros) (N * 256)) 161)).alloc (.map #[] 0)) #[.slice (some ⟨w.heap.size, 0, none⟩) N N, .map (some (w.heap.size + 1)), .bool false, .int .i64 0, .int .i64 (-1), .bool false] 88 (b := w.heap.size + 1 + 1) (by simp)
    unfold cellsD
    rw [hl]
    exact this
  · have hs : SafeAt (w.alloc (.cells (madeCells (secC zeros) (N * 256)) 161)) w.heap.size (newD n).s := by
      refine ⟨fun j x hx => ?_, by rw [hl]; exact made_there N, by simp⟩
      have hj : j < N := by rw [← hl]; exact (List.getElem?_eq_some_iff.1 hx).1
      have : x = sec0 := by
        unfold newD at hx
        exact List.eq_of_mem_replicate (List.mem_of_getElem? hx)
      subst this
      exact made_zero N j hj
    exact hs.kept k2 (fun h => h)

/-- A new disk. -/
def MadeD (w : World) (D : Dsk) (e : Ending) (w' : World) : Prop := ∃ d bs cap m, e = .returned (.pointer (some ⟨d, 0, none⟩)) ∧ DiskIn w' d bs cap m D ∧ w.heap.size ≤ d ∧ w.heap.size ≤ bs ∧ w.heap.size ≤ m ∧ Same w w'
set_option maxRecDepth 100000 in
set_option maxHeartbeats 800000 in
theorem sd_new (n : Int) (w : World) :
    Calls Tryz.prog 7 #[.int .i64 n] w (MadeD w (newD n)) := by
  obtain ⟨N, hN⟩ : ∃ N, secsOf n = N := ⟨_, rfl⟩
  have hle := secsOf_le n
  have hmm : max (0 : Int) (min n 4096) = (N : Int) := by rw [← hN]; unfold secsOf; omega
  rw [hN] at hle
  obtain ⟨i0, hi, hz0, hz1, hz2⟩ := info_parts sec_info
  have hmm2 := @run_makeMap Tryz.prog
  by_cases h1 : n ≤ 0
  · have hn1 : ¬ 0 < n := by omega
    have hn2 : n ≤ 4096 := by omega
    have hmk := run_make (P := Tryz.prog) w 85 161 i0 (.agg (secC zeros)) Tryz.underlying85 hi hz0 .i64 .i64 (0 : Int) (0 : Int) (by omega) (by omega) (by rw [hz2]; omega) (by omega)
    rw [hz1, show ((0 : Int)).toNat = N from by omega, show (Value.agg (secC zeros)).cells = secC zeros from rfl] at hmk
    clear hi hz0 hz1 hz2 hmm hle
    generalize hC : madeCells (secC zeros) (N * 256) = C at hmk
    have HC := Lib.hid hC
    clear hC
    go_enter Tryz.func7, Tryz.ntmps7
    go_wp2_with fail
    go_ret
    rw [← HC.out]
    exact ⟨_, _, _, _, rfl, new_in n w N hN, (by omega), (by omega), (by omega), ((Kept.refl _ w).alloc _).alloc _ |>.alloc _⟩
  · by_cases h2 : n ≤ 4096
    · have hn1 : 0 < n := by omega
      have hmk := run_make (P := Tryz.prog) w 85 161 i0 (.agg (secC zeros)) Tryz.underlying85 hi hz0 .i64 .i64 (n : Int) (n : Int) (by omega) (by omega) (by rw [hz2]; omega) (by omega)
      rw [hz1, show ((n : Int)).toNat = N from by omega, show (Value.agg (secC zeros)).cells = secC zeros from rfl] at hmk
      clear hi hz0 hz1 hz2 hmm hle
      generalize hC : madeCells (secC zeros) (N * 256) = C at hmk
      have HC := Lib.hid hC
      clear hC
      go_enter Tryz.func7, Tryz.ntmps7
      go_wp2_with fail
      go_ret
      rw [← HC.out]
      exact ⟨_, _, _, _, rfl, new_in n w N hN, (by omega), (by omega), (by omega), ((Kept.refl _ w).alloc _).alloc _ |>.alloc _⟩
    · have hn1 : 4096 < n := by omega
      have hmk := run_make (P := Tryz.prog) w 85 161 i0 (.agg (secC zeros)) Tryz.underlying85 hi hz0 .i64 .i64 (4096 : Int) (4096 : Int) (by omega) (by omega) (by rw [hz2]; omega) (by omega)
      rw [hz1, show ((4096 : Int)).toNat = N from by omega, show (Value.agg (secC zeros)).cells = secC zeros from rfl] at hmk
      clear hi hz0 hz1 hz2 hmm hle
      generalize hC : madeCells (secC zeros) (N * 256) = C at hmk
      have HC := Lib.hid hC
      clear hC
      go_enter Tryz.func7, Tryz.ntmps7
      go_wp2_with fail
      go_ret
      rw [← HC.out]
      exact ⟨_, _, _, _, rfl, new_in n w N hN, (by omega), (by omega), (by omega), ((Kept.refl _ w).alloc _).alloc _ |>.alloc _⟩

/-- The fates that are left, in a variable. -/
def FatesAt (w : World) (b : Nat) (f : List Nat) : Prop := ∃ a l c, Blk w b #[.slice a l c] 56 ∧ l = f.length ∧ l ≤ c ∧ NatsAt w .u8 a f ∧ (f = [] ∨ ∀ x, a = some x → x.block < b)
theorem nats_ne_map {w : World} {k : IntKind} {a : Option Addr} {xs : List Nat} {m : Nat} {g : Nat → Option Value} (h : NatsAt w k a xs) (hm : MapI w m g) : xs = [] ∨ ∀ x, a = some x → ¬ x.block = m := by
  cases xs with
  | nil => exact .inl rfl
  | cons y r =>
    rcases h with h | ⟨b, o, rfl, _, hc⟩
    · exact .inl h
    · exact .inr (fun x hx => by cases hx; exact hm.ne_cell (hc 0 y rfl))
theorem FatesAt.same {w w' : World} {b : Nat} {f : List Nat} (h : FatesAt w b f) (k : Same w w') : FatesAt w' b f := by
  obtain ⟨a, l, c, h1, h2, h3, h4, h5⟩ := h
  exact ⟨a, l, c, h1.kept k (fun h => h), h2, h3, h4.same k, h5⟩
theorem FatesAt.new {w w' : World} {b X : Nat} {f : List Nat} (h : FatesAt w b f) (k : Kept (fun j => j = X) w w') (hX : b < X) : FatesAt w' b f := by
  obtain ⟨a, l, c, h1, h2, h3, h4, h5⟩ := h
  exact ⟨a, l, c, h1.kept k (by omega), h2, h3, h4.kept' k (h5.imp id (fun q x hx => by have := q x hx; omega)), h5⟩
theorem FatesAt.map {w w' : World} {b m : Nat} {f : List Nat} {g : Nat → Option Value} (h : FatesAt w b f) (hm : MapI w m g) (k : Kept (fun j => j = m) w w') : FatesAt w' b f := by
  obtain ⟨a, l, c, h1, h2, h3, h4, h5⟩ := h
  exact ⟨a, l, c, h1.kept k (hm.ne h1), h2, h3, h4.kept' k (nats_ne_map h4 hm), h5⟩
end Go.Proofs.YtlkgdpdnhnakoaaGreatDoor
