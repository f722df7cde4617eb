/- TrW: a fresh tree is saved: write, save, Save. -/
import Derived.Test.YtlkgdpdnhnakoaaGreatDoorGTr
import Derived.Test.YtlkgdpdnhnakoaaGreatDoorGStB
namespace Go.Proofs.YtlkgdpdnhnakoaaGreatDoor
open Go.RowKit Go.Sort Go.Shelf

theorem scO {w : World} {q a : Addr} {v : Value} (h : q ≠ a) : (w.setCell q v).cell? a = w.cell? a := by apply World.cell?_setCell_other; exact h
theorem scS {w : World} {a : Addr} {u v : Value} (h : w.cell? a = some u) : (w.setCell a v).cell? a = some v := by apply World.cell?_setCell_same (h := h)
theorem NatsAt.setC {w : World} {k : IntKind} {a : Option Addr} {xs : List Nat} {q : Addr} {v v0 : Value} (h : NatsAt w k a xs) (hc : w.cell? q = some v0) (hn : ∀ x, v0 ≠ .int k x) : NatsAt (w.setCell q v) k a xs := by
  rcases h with h | ⟨b, off, e, hb, h⟩
  · exact .inl h
  · refine .inr ⟨b, off, e, by simpa [World.setCell] using hb, fun i x hx => ?_⟩
    have h1 := h i x hx
    rw [scO (fun e => by rw [e, h1] at hc; injection hc with hc; exact hn _ hc.symm)]
    exact h1
/-- A store into a cell that is no number of a store's. -/
theorem StoIn.setI {w : World} {p d bs m : Nat} {S : Sto} {q : Addr} {v v0 : Value} (h : StoIn w p d bs m S) (hc : w.cell? q = some v0) (h8 : ∀ x, v0 ≠ .int .u8 x) (h64 : ∀ x, v0 ≠ .int .u64 x) (hq : ¬ FS p d bs m q.block) : StoIn (w.setCell q v) p d bs m S := by
  have k : Kept (fun j => j = q.block) w (w.setCell q v) := (Kept.refl (fun j => j = q.block) w).setCell (p := q) (fun _ => rfl) _
  obtain ⟨cap, wa, wc, ba, bc, na, nc, h1, h2, h3, h4, h5⟩ := h
  exact ⟨cap, wa, wc, ba, bc, na, nc, h1.kept k (fun e => hq (.inl e.symm)), h2.kept k (fun e => hq (.inr (.inl e.symm))) (fun e => hq (.inr (.inr (.inl e.symm)))) (fun e => hq (.inr (.inr (.inr e.symm)))),
    ⟨h3.ws.setC hc h64, h3.bs.setC hc h8, h3.wcap, h3.bcap, h3.bnil, h3.w64, h3.bts, h3.few⟩, h4.setC hc h64, h5⟩
theorem TrIn.setId {w : World} {s t t' l l' m m' i i' c : Nat} {r id : Int} {dirty : Bool} (h : TrIn w s t t' l l' m m' i i' c r id dirty) (n : Int) :
    TrIn (((w.setCell ⟨l, l', none⟩ (.int .i64 n)).setCell ⟨m, m' + 6, none⟩ (.bool false))) s t t' l l' m m' i i' c r n false := by
  have h1 := h.tl; have h2 := h.tm; have h3 := h.lm; have h4 := h.il; have h5 := h.im
  have o : ∀ {b o : Nat} {v : Value}, b ≠ l → b ≠ m → w.cell? ⟨b, o, none⟩ = some v → ((w.setCell ⟨l, l', none⟩ (.int .i64 n)).setCell ⟨m, m' + 6, none⟩ (.bool false)).cell? ⟨b, o, none⟩ = some v := fun {b o v} e1 e2 q => by
    rw [scO (fun e => e2 (by injection e with e; exact e.symm)), scO (fun e => e1 (by injection e with e; exact e.symm))]; exact q
  have ol : ∀ {o : Nat} {v : Value}, o ≠ l' → w.cell? ⟨l, o, none⟩ = some v → ((w.setCell ⟨l, l', none⟩ (.int .i64 n)).setCell ⟨m, m' + 6, none⟩ (.bool false)).cell? ⟨l, o, none⟩ = some v := fun {o v} e1 q => by
    rw [scO (fun e => h3 (by injection e with e; exact e.symm)), scO (fun e => e1 (by injection e with _ e; exact e.symm))]; exact q
  have om : ∀ {o : Nat} {v : Value}, o ≠ m' + 6 → w.cell? ⟨m, o, none⟩ = some v → ((w.setCell ⟨l, l', none⟩ (.int .i64 n)).setCell ⟨m, m' + 6, none⟩ (.bool false)).cell? ⟨m, o, none⟩ = some v := fun {o v} e1 q => by
    rw [scO (fun e => e1 (by injection e with _ e; exact e.symm)), scO (fun e => h3 (by injection e with e))]; exact q
  have fz : ∀ (w : World) (q a : Addr) (v : Value), w.frozen? a = false → (w.setCell q v).frozen? a = false := fun w q a v q0 => by rw [World.frozen?_setCell]; exact q0
  refine ⟨o h1 h2 h.t0, o h1 h2 h.t1, o h1 h2 h.t2, o h1 h2 h.t3, o h1 h2 h.t6, ?_, ol (by omega) h.l1, om (by omega) h.m0, om (by omega) h.m1, om (by omega) h.m2, om (by omega) h.m3, om (by omega) h.m4, om (by omega) h.m5, ?_, o h4 h5 h.i0, o h4 h5 h.i1, o h4 h5 h.i2, fz _ _ _ _ (fz _ _ _ _ h.fl), fz _ _ _ _ (fz _ _ _ _ h.fm), h1, h2, h3, h4, h5⟩
  · rw [scO (fun e => h3 (by injection e with e; exact e.symm))]
    exact scS h.l0
  · exact scS (u := .bool dirty) (by rw [scO (fun e => h3 (by injection e with e))]; exact h.m6)
set_option maxRecDepth 100000 in
theorem tr_alive {w : World} {s t t' l l' m m' i i' c : Nat} {r id : Int} {dirty : Bool} (h : TrIn w s t t' l l' m m' i i' c r id dirty) :
    Calls Tryz.prog 118 #[.pointer (some ⟨t, t', none⟩)] w fun e w' => e = .returned (.int .i64 0) ∧ w' = w := by
  have t6 := h.t6
  clear h
  go_enter Tryz.func118, Tryz.ntmps118
  go_wp2_with fail
  go_ret
  exact ⟨rfl, rfl⟩
set_option maxRecDepth 100000 in
theorem tr_bad {w : World} {s t t' l l' m m' i i' c : Nat} {r id : Int} {dirty : Bool} (h : TrIn w s t t' l l' m m' i i' c r id dirty) :
    Calls Tryz.prog 116 #[.pointer (some ⟨t, t', none⟩)] w fun e w' => e = .returned (.bool false) ∧ w' = w := by
  have t6 := h.t6
  clear h
  go_enter Tryz.func116, Tryz.ntmps116
  go_wp2_with fail
  go_ret
  exact ⟨rfl, rfl⟩
/-- What is apart from a store. -/
structure ApT (p d bs mp t l m i : Nat) : Prop where
  t : ¬ FS p d bs mp t
  l : ¬ FS p d bs mp l
  m : ¬ FS p d bs mp m
  i : ¬ FS p d bs mp i
/-- What saving a fresh tree leaves. -/
def TrDone (w : World) (p d bs mp : Nat) (S : Sto) (t t' l l' m m' i i' c : Nat) (r n : Int) (w' : World) : Prop := StoIn w' p d bs mp S ∧ TrIn w' p t t' l l' m m' i i' c r n false ∧ Kept (fun j => FS p d bs mp j ∨ j = l ∨ j = m) w w'
theorem TrDone.same {w w2 w3 : World} {p d bs mp : Nat} {S : Sto} {t t' l l' m m' i i' c : Nat} {r n : Int} (h : TrDone w p d bs mp S t t' l l' m m' i i' c r n w2) (k : Same w2 w3) : TrDone w p d bs mp S t t' l l' m m' i i' c r n w3 :=
  ⟨h.1.same k, h.2.1.same k, h.2.2.step k (fun _ _ q => q.elim)⟩
set_option maxRecDepth 100000 in
set_option maxHeartbeats 800000 in
theorem tr_write {w : World} {p d bs mp t t' l l' m m' i i' c n : Nat} {r : Int} {S S1 S2 : Sto} (hT : TabOK w) (hs : StoIn w p d bs mp S) (hf : S.Fit) (h : TrIn w p t t' l l' m m' i i' c r (-1) true) (ap : ApT p d bs mp t l m i) (hA : S.alloc = (S1, n, 0)) (hW : S1.wr (n : Nat) [0, 0] = (S2, 0)) :
    Calls Tryz.prog 220 #[.pointer (some ⟨t, t', none⟩), .pointer (some ⟨l, l', none⟩)] w fun e w' => e = .returned (.int .i64 0) ∧ TrDone w p d bs mp S2 t t' l l' m m' i i' c r (n : Nat) w' := by
  have NP := Lib.hid (node_put w hT)
  have AL := Lib.hid (fun W (k : Same w W) => st_Alloc (hs.same k) hf (hT.same k))
  rw [hA] at AL
  have WR := Lib.hid (fun W (q : StoIn W p d bs mp S1) a c (hc : 2 ≤ c) (hat : NatsAt W .u8 (some a) [0, 0]) => st_Write q (n : Nat) (some a) 2 c [0, 0] rfl (by intro x hx; simp at hx; omega) hc hat)
  rw [hW] at WR
  have TR := Lib.hid h
  have AP := Lib.hid ap
  have pl : p < w.heap.size := by obtain ⟨_, _, _, _, _, _, _, hb, _⟩ := hs; exact hb.lt
  obtain ⟨R, hR⟩ : ∃ R, TrDone w p d bs mp S2 t t' l l' m m' i i' c r (n : Nat) = R := ⟨_, rfl⟩
  rw [hR]
  have HR := Lib.hid hR
  obtain ⟨t0, -, -, -, -, l0, l1, m0, m1, m2, m3, m4, -⟩ := h
  clear hT hs hf ap hA hW hR
  go_enter Tryz.func220, Tryz.ntmps220
  go_wp2_with fail
  refine NP.out.mono ?_
  rintro e w2 ⟨a, c2, rfl, hc2, hat, hlt, k⟩
  have K := Lib.hid k
  have NA := Lib.hid hat
  have CC := Lib.hid hc2
  have AB := Lib.hid hlt
  have TR2 := Lib.hid (TR.out.same k)
  obtain ⟨t0, -, -, -, -, l0, l1, m0, m1, m2, m3, m4, -⟩ := TR2.out
  clear TR k hat hc2 hlt NP
  go_wp2_with fail
  refine (AL.out w2 K.out).mono ?_
  rintro e w3 ⟨rfl, s3, k3⟩
  have S3 := Lib.hid s3
  have K3 := Lib.hid k3
  have TR3 := Lib.hid (TR2.out.kept k3 (fun e => AP.out.t (.inl e)) (fun e => AP.out.l (.inl e)) (fun e => AP.out.m (.inl e)) (fun e => AP.out.i (.inl e)))
  have NA3 := Lib.hid (NA.out.kept k3 (fun x hx e => by injection hx with hx; have := AB.out; rw [hx] at this; omega))
  obtain ⟨t0, -, -, -, -, l0, l1, m0, m1, m2, m3, m4, -⟩ := TR3.out
  clear s3 k3 TR2 NA AL
  go_wp2_with fail
  refine (WR.out w3 S3.out a c2 CC.out NA3.out).mono ?_
  rintro e w4 ⟨rfl, s4, k4⟩
  have S4 := Lib.hid s4
  have K4 := Lib.hid k4
  have TR4 := Lib.hid (TR3.out.kept k4 AP.out.t AP.out.l AP.out.m AP.out.i)
  have FL := TR4.out.fl
  have FM := TR4.out.fm
  have LM := TR4.out.lm
  obtain ⟨t0, -, -, -, -, l0, l1, m0, m1, m2, m3, m4, -, m6, -⟩ := TR4.out
  have FIN := Lib.hid (show R ((w4.setCell ⟨l, l', none⟩ (.int .i64 (n : Nat))).setCell ⟨m, m' + 6, none⟩ (.bool false)) from by
    rw [← HR.out]
    refine ⟨?_, TR4.out.setId (n : Nat), ?_⟩
    · refine StoIn.setI (v0 := .bool true) (S4.out.setI l0 (by intro x q; cases q) (by intro x q; cases q) AP.out.l) ?_ (by intro x q; cases q) (by intro x q; cases q) AP.out.m
      rw [scO (fun e => LM (by injection e with e))]; exact m6
    · refine Kept.setCell (Kept.setCell ?_ (fun _ => .inr (.inl rfl)) _) (fun _ => .inr (.inr rfl)) _
      exact ((K.out.mono (fun _ _ q => q.elim)).step K3.out (fun j _ q => .inl (.inl q))).step K4.out (fun j _ q => .inl q))
  clear s4 k4 TR3 NA3 WR TR4 S4 K4 S3 K3 K HR AP
  go_wp2_with fail
  go_ret
  exact ⟨rfl, FIN.out⟩
set_option maxRecDepth 100000 in
theorem tr_save {w : World} {p d bs mp t t' l l' m m' i i' c n : Nat} {r : Int} {S S1 S2 : Sto} (hT : TabOK w) (hs : StoIn w p d bs mp S) (hf : S.Fit) (h : TrIn w p t t' l l' m m' i i' c r (-1) true) (ap : ApT p d bs mp t l m i) (hA : S.alloc = (S1, n, 0)) (hW : S1.wr (n : Nat) [0, 0] = (S2, 0)) :
    Calls Tryz.prog 182 #[.pointer (some ⟨t, t', none⟩), .pointer (some ⟨l, l', none⟩)] w fun e w' => e = .returned (.int .i64 0) ∧ TrDone w p d bs mp S2 t t' l l' m m' i i' c r (n : Nat) w' := by
  have WR := Lib.hid (tr_write hT hs hf h ap hA hW)
  obtain ⟨R, hR⟩ : ∃ R, TrDone w p d bs mp S2 t t' l l' m m' i i' c r (n : Nat) = R := ⟨_, rfl⟩
  rw [hR] at WR ⊢
  obtain ⟨-, -, -, -, -, -, l1, -, -, -, -, -, m5, m6, -⟩ := h
  clear hT hs hf ap hA hW hR
  go_enter Tryz.func182, Tryz.ntmps182
  go_wp2_with fail
  go_loopw [31] (fun t wr => t = .int .i64 0 ∧ wr = w) (fun _ _ => 0)
  case atStart => exact ⟨rfl, rfl⟩
  case round =>
    obtain ⟨rfl, rfl⟩ := hrel
    go_wp2_with fail
    refine WR.out.mono ?_
    rintro e w2 ⟨rfl, q⟩
    have Q := Lib.hid q
    clear q WR l1 m5 m6
    go_wp2_with fail
    go_ret
    exact ⟨rfl, Q.out⟩
set_option maxRecDepth 100000 in
theorem tr_Save {w : World} {p d bs mp t t' l l' m m' i i' c n : Nat} {r : Int} {S S1 S2 : Sto} (hT : TabOK w) (hs : StoIn w p d bs mp S) (hf : S.Fit) (h : TrIn w p t t' l l' m m' i i' c r (-1) true) (ap : ApT p d bs mp t l m i) (hA : S.alloc = (S1, n, 0)) (hW : S1.wr (n : Nat) [0, 0] = (S2, 0)) (hr : 1 ≤ r) (hr2 : r ≤ 4096) :
    Calls Tryz.prog 94 #[.pointer (some ⟨t, t', none⟩)] w fun e w' => e = .returned (.tuple #[.int .i64 (n : Nat), .int .i64 0]) ∧ TrDone w p d bs mp S2 t t' l l' m m' i i' c r (n : Nat) w' := by
  have AV := Lib.hid (tr_alive h)
  have SV := Lib.hid (tr_save hT hs hf h ap hA hW)
  have EV := Lib.hid (fun W (q : TrDone w p d bs mp S2 t t' l l' m m' i i' c r (n : Nat) W) => tr_evict q.2.1 hr hr2)
  have SM := Lib.hid (fun W W2 (q : TrDone w p d bs mp S2 t t' l l' m m' i i' c r (n : Nat) W) (k : Same W W2) => q.same k)
  have TI := Lib.hid (fun W (q : TrDone w p d bs mp S2 t t' l l' m m' i i' c r (n : Nat) W) => q.2.1)
  obtain ⟨R, hR⟩ : ∃ R, TrDone w p d bs mp S2 t t' l l' m m' i i' c r (n : Nat) = R := ⟨_, rfl⟩
  simp only [hR] at SV EV SM TI ⊢
  obtain ⟨-, t1, -⟩ := h
  clear hT hs hf ap hA hW hR hr hr2
  go_enter Tryz.func94, Tryz.ntmps94
  go_wp2_with fail
  refine AV.out.mono ?_
  rintro e w2 ⟨rfl, rfl⟩
  clear AV
  go_wp2_with fail
  refine SV.out.mono ?_
  rintro e w3 ⟨rfl, q3⟩
  have Q3 := Lib.hid q3
  clear q3 SV t1
  go_wp2_with fail
  refine (EV.out w3 Q3.out).mono ?_
  rintro e w4 ⟨⟨x, rfl⟩, k4⟩
  have Q4 := Lib.hid (SM.out w3 w4 Q3.out k4)
  obtain ⟨-, t1, -, -, -, l0, -⟩ := TI.out w4 Q4.out
  clear Q3 k4 EV SM TI
  go_wp2_with fail
  go_ret2
  exact ⟨rfl, Q4.out⟩
end Go.Proofs.YtlkgdpdnhnakoaaGreatDoor
