/- GTx: TrF, TrX, Nb26. -/
import Derived.Test.YtlkgdpdnhnakoaaGreatDoorTrC
import Derived.Test.YtlkgdpdnhnakoaaGreatDoorGGw
namespace Go.Proofs.YtlkgdpdnhnakoaaGreatDoor
open Go.RowKit Go.Sort Go.Shelf
theorem sto_lt {w : World} {p d bs mp : Nat} {S : Sto} (h : StoIn w p d bs mp S) : ∀ j, FS p d bs mp j → j < w.heap.size := by
  obtain ⟨cap, _, _, _, _, _, _, hb, hd, _⟩ := h
  rintro j (rfl | rfl | rfl | rfl)
  · exact hb.lt
  · exact hd.box.lt
  · exact hd.safe.lt
  · exact hd.map.lt
theorem sto_disk {w : World} {p d bs mp : Nat} {S : Sto} (h : StoIn w p d bs mp S) : ∃ cap, DiskIn w d bs cap mp S.D := by
  obtain ⟨cap, _, _, _, _, _, _, hb, hd, _⟩ := h
  exact ⟨cap, hd⟩
/-- What a db that cannot be made tells. -/
def FmtBad (w : World) (d bs mp : Nat) (e : Ending) (w' : World) : Prop := e = .returned (.tuple #[.pointer none, .int .i64 2]) ∧ Kept (dod d bs mp) w w'
/-- What a db that is made tells. -/
def FmtGood (w : World) (d bs mp : Nat) (e : Ending) (w' : World) : Prop := ∃ x, e = .returned (.tuple #[.pointer (some ⟨x, 0, none⟩), .int .i64 0]) ∧ Kept (dod d bs mp) w w'
set_option maxRecDepth 100000 in
theorem db_format_bad {w : World} {d bs cap mp : Nat} {D : Dsk} {S : Sto} {log : Nat} {r : Int} (hT : TabOK w) (hd : DiskIn w d bs cap mp D) (hq : fmtS D (log : Nat) = (S.D, some S, 0)) (htab : ¬ dod d bs mp 1) (hr : r < 1 ∨ 4096 < r) :
    Calls Tryz.prog 8 #[.pointer (some ⟨d, 0, none⟩), .int .i64 (log : Nat), .int .i64 r] w (FmtBad w d bs mp) := by
  have SF := Lib.hid (st_Format hd (log : Nat))
  rw [hq] at SF
  have TN := Lib.hid (fun p W (h : TabOK W) => tree_bad p r hr W h)
  have TB := Lib.hid (fun W (k : Kept (dod d bs mp) w W) => hT.keptF k htab)
  obtain ⟨R, hR⟩ : ∃ R, FmtBad w d bs mp = R := ⟨_, rfl⟩
  rw [hR]
  have HR := Lib.hid hR
  clear hT hd hq htab hr hR
  go_enter Tryz.func8, Tryz.ntmps8
  go_wp2_with fail
  refine SF.out.mono ?_
  rintro e w2 ⟨⟨p, rfl, -, -⟩, k2⟩
  have K2 := Lib.hid k2
  clear k2 SF
  go_wp2_with fail
  refine (TN.out p w2 (TB.out w2 K2.out)).mono ?_
  rintro e w3 ⟨rfl, k3⟩
  have K3 := Lib.hid k3
  clear k3 TN TB
  go_wp2_with fail
  rw [← HR.out]
  exact ⟨rfl, K2.out.step K3.out (fun _ _ q => q.elim)⟩
set_option maxRecDepth 100000 in
set_option maxHeartbeats 1600000 in
theorem db_format {w : World} {d bs cap mp : Nat} {D : Dsk} {S S1 S2 S3 : Sto} {log : Nat} {r : Int} (hT : TabOK w) (hd : DiskIn w d bs cap mp D) (hq : fmtS D (log : Nat) = (S.D, some S, 0)) (hf : S.Fit) (hb : S.bad = false) (hg : S.r.ring = log) (hn : S.r.gen = 1) (he : newE S.D 8 (log : Nat) 1 = 0)
    (hA : S.alloc = (S1, 0, 0)) (hW : S1.wr ((0 : Nat) : Int) [0, 0] = (S2, 0)) (hf2 : S2.Fit) (hC : S2.commit [0, 0, 1, 2, 0, 0] = (S3, 0)) (htab : ¬ dod d bs mp 1) (hr : 1 ≤ r) (hr2 : r ≤ 4096) :
    Calls Tryz.prog 8 #[.pointer (some ⟨d, 0, none⟩), .int .i64 (log : Nat), .int .i64 r] w (FmtGood w d bs mp) := by
  have SF := Lib.hid (st_Format hd (log : Nat))
  rw [hq] at SF
  have TN := Lib.hid (fun p W (h : TabOK W) => tree_new p r hr hr2 W h)
  have TB := Lib.hid (fun W (k : Kept (dod d bs mp) w W) => hT.keptF k htab)
  have TL := Lib.hid (show 1 < w.heap.size from World.block_lt_of_cell? w ⟨1, 0, none⟩ (hT 0 (by decide)))
  have HT := Lib.hid htab
  have LG := Lib.hid (fun W p (q : StoIn W p d bs mp S) => st_Log q)
  have GN := Lib.hid (fun W p (q : StoIn W p d bs mp S) => st_Gen q)
  rw [hg] at LG
  rw [hn] at GN
  have WN := Lib.hid (fun W cap (q : DiskIn W d bs cap mp S.D) => wl_new q 8 (log : Nat) 1)
  rw [he] at WN
  have CK := Lib.hid (fun W x p t t' l l' m m' i i' c g o (a1 : TabOK W) (a2 : Blk W x (dbC p t t' g o) 107) (a3 : StoIn W p d bs mp S) (a4 : TrIn W p t t' l l' m m' i i' c r (-1) true) (a5 : ApT p d bs mp t l m i) (a6 : LogI W g d bs mp (newL 8 (log : Nat) 1)) (a7 : Ora W o 0 false) (a8 : ApX p d bs mp l m x) (a9 : ApX p d bs mp l m g) (b1 : ApX p d bs mp l m o) (b2 : ApX p d bs mp l m 1) =>
    db_check a1 a2 a3 hf hb a4 a5 a6 rfl rfl rfl rfl a7 a8 a9 b1 b2 hA hW hf2 hC hr hr2)
  obtain ⟨R, hR⟩ : ∃ R, FmtGood w d bs mp = R := ⟨_, rfl⟩
  rw [hR]
  have HR := Lib.hid hR
  have DL := Lib.hid (show ∀ j, dod d bs mp j → j < w.heap.size from by
    rintro j (rfl | rfl | rfl)
    · exact hd.box.lt
    · exact hd.safe.lt
    · exact hd.map.lt)
  clear hT hd hq hf hb hg hn he hA hW hf2 hC htab hr hr2 hR
  go_enter Tryz.func8, Tryz.ntmps8
  go_wp2_with fail
  refine SF.out.mono ?_
  rintro e w2 ⟨⟨p, rfl, s2, hp⟩, k2⟩
  have K2 := Lib.hid k2
  have S2' := Lib.hid s2
  have HP := Lib.hid hp
  have TB2 := Lib.hid (TB.out w2 k2)
  clear k2 s2 hp SF TB
  go_wp2_with fail
  refine (TN.out p w2 TB2.out).mono ?_
  rintro e w3 ⟨t, t', l, l', m, m', i, i', c, rfl, t3, k3, n1, n2, n3, n4⟩
  have K3 := Lib.hid k3
  have T3 := Lib.hid t3
  have NW := Lib.hid (And.intro n1 (And.intro n2 (And.intro n3 n4)))
  clear k3 t3 TN n1 n2 n3 n4
  go_wp2_with fail
  refine (LG.out w3 p (S2'.out.same K3.out)).mono ?_
  rintro e w4 ⟨rfl, k4⟩
  have K4 := Lib.hid (K3.out.trans k4)
  have T4 := Lib.hid (T3.out.same k4)
  have Z4 := Lib.hid k4.size
  clear k4 LG
  go_wp2_with fail
  refine (GN.out w4 p (S2'.out.same K4.out)).mono ?_
  rintro e w4' ⟨rfl, rfl⟩
  clear GN
  go_wp2_with fail
  obtain ⟨cap', hd4⟩ := sto_disk (S2'.out.same K4.out)
  refine (WN.out _ cap' hd4).mono ?_
  rintro e w5 ⟨⟨g, rfl, l5, hg5⟩, k5⟩
  have K5 := Lib.hid k5
  have L5 := Lib.hid l5
  have G5 := Lib.hid hg5
  clear hd4 k5 l5 hg5 WN
  go_wp2_with fail
  refine (ora_new w5).mono ?_
  rintro e w6 ⟨rfl, o6, k6⟩
  have K6 := Lib.hid (show Same w5 w6 from k6 ▸ (Kept.refl _ _).alloc _)
  have O6 := Lib.hid o6
  have OL := Lib.hid (show w5.heap.size < w6.heap.size from Blk.lt o6)
  clear k6 o6
  go_wp2_with fail
  have FN := Lib.hid (show ∀ j, w2.heap.size ≤ j → ¬ FS p d bs mp j from fun j hj q => by have := sto_lt S2'.out j q; omega)
  have N1 := NW.out.1; have N2 := NW.out.2.1; have N3 := NW.out.2.2.1; have N4 := NW.out.2.2.2
  have Q1 := blk_lt T4.out.t0; have Q2 := blk_lt T4.out.l0; have Q3 := blk_lt T4.out.m0
  have Q4 := G5.out
  have Q5 := L5.out.blk
  have Q6 := OL.out
  have Q7 := K2.out.size
  have Q8 := HP.out
  have Q9 := TL.out
  have P1 := K4.out.size
  have P2 := K5.out.size
  have k7 : Same w6 (w6.alloc (.cells (dbC p t t' g w5.heap.size) 107)) := (Kept.refl _ _).alloc _
  have k47 := (K5.out.trans K6.out).trans k7
  refine (CK.out (w6.alloc (.cells (dbC p t t' g w5.heap.size) 107)) w6.heap.size p t t' l l' m m' i i' c g w5.heap.size (TB2.out.same (K4.out.trans k47)) (Blk.new _ _ _) (S2'.out.same (K4.out.trans k47)) (T4.out.same k47) ⟨FN.out _ N1, FN.out _ N2, FN.out _ N3, FN.out _ N4⟩ (L5.out.same (K6.out.trans k7)) (Blk.kept O6.out k7 (fun h => h)) ⟨FN.out _ (by omega), by omega, by omega⟩ ⟨FN.out _ (by omega), by omega, by omega⟩ ⟨FN.out _ (by omega), by omega, by omega⟩ ⟨?_, by omega, by omega⟩).mono ?_
  · rintro (q | q)
    · omega
    · exact HT.out q
  rintro e w8 ⟨rfl, k8⟩
  have K8 := Lib.hid (show Kept (dod d bs mp) w w8 from (K2.out.step (K4.out.trans k47) (fun _ _ q => q.elim)).step k8 (fun j hj q => by
    rcases q with (q | q) | q | q | q
    · omega
    · exact q
    · omega
    · omega
    · omega))
  clear k8 k47 k7 N1 N2 N3 N4 Q1 Q2 Q3 Q4 Q5 Q6 Q7 Q8 Q9 P1 P2 CK
  go_wp2_with fail
  rw [← HR.out]
  exact ⟨_, rfl, K8.out⟩
end Go.Proofs.YtlkgdpdnhnakoaaGreatDoor
namespace Go.Proofs.YtlkgdpdnhnakoaaGreatDoor
open Go.RowKit Go.Sort Go.Shelf
/-- May a world be? -/
def mayW (a b c : Int) : Bool := decide (0 ≤ a ∧ a ≤ 256 ∧ 4 ≤ b ∧ b ≤ 512 ∧ 1 ≤ c ∧ c ≤ 4096)
/-- What world.New tells. -/
def NewW (w : World) (may : Bool) (e : Ending) (w' : World) : Prop := (match may with
  | true => ∃ x, e = .returned (.tuple #[.pointer (some ⟨x, 0, none⟩), .int .i64 0])
  | false => e = .returned (.tuple #[.pointer none, .int .i64 2])) ∧ Same w w'
set_option maxRecDepth 100000 in
set_option maxHeartbeats 1600000 in
theorem world_new (a b c : Int) (w : World) (hT : TabOK w) :
    Calls Tryz.prog 22 #[.int .i64 a, .int .i64 b, .int .i64 c] w (NewW w (mayW a b c)) := by
  by_cases g1 : a < 0
  · rw [show mayW a b c = false from decide_eq_false (by omega)]
    clear hT
    obtain ⟨R, hR⟩ : ∃ R, NewW w false = R := ⟨_, rfl⟩
    rw [hR]
    have HR := Lib.hid hR
    clear hR
    go_enter Tryz.func22, Tryz.ntmps22
    go_wp2_with fail
    rw [← HR.out]
    exact ⟨rfl, Kept.refl _ _⟩
  by_cases g2 : 256 < a
  · rw [show mayW a b c = false from decide_eq_false (by omega)]
    clear hT
    obtain ⟨R, hR⟩ : ∃ R, NewW w false = R := ⟨_, rfl⟩
    rw [hR]
    have HR := Lib.hid hR
    clear hR
    go_enter Tryz.func22, Tryz.ntmps22
    go_wp2_with fail
    rw [← HR.out]
    exact ⟨rfl, Kept.refl _ _⟩
  by_cases g3 : b < 4
  · rw [show mayW a b c = false from decide_eq_false (by omega)]
    clear hT
    obtain ⟨R, hR⟩ : ∃ R, NewW w false = R := ⟨_, rfl⟩
    rw [hR]
    have HR := Lib.hid hR
    clear hR
    go_enter Tryz.func22, Tryz.ntmps22
    go_wp2_with fail
    rw [← HR.out]
    exact ⟨rfl, Kept.refl _ _⟩
  by_cases g4 : 512 < b
  · rw [show mayW a b c = false from decide_eq_false (by omega)]
    clear hT
    obtain ⟨R, hR⟩ : ∃ R, NewW w false = R := ⟨_, rfl⟩
    rw [hR]
    have HR := Lib.hid hR
    clear hR
    go_enter Tryz.func22, Tryz.ntmps22
    go_wp2_with fail
    rw [← HR.out]
    exact ⟨rfl, Kept.refl _ _⟩
  obtain ⟨lg, rfl⟩ := Int.eq_ofNat_of_zero_le (show 0 ≤ a by omega)
  obtain ⟨bl, rfl⟩ := Int.eq_ofNat_of_zero_le (show 0 ≤ b by omega)
  obtain ⟨N, hN⟩ : ∃ N, N = 8 + lg + 4 * bl := ⟨_, rfl⟩
  obtain ⟨S, S1, S2, S3, e1, e2, e3, e4, e5, e6, e7, e8, e9, e10⟩ := fr_all (log := lg) (bl := bl) (by omega) (by omega) (by omega) hN
  have SN := Lib.hid (sd_new (N : Nat))
  have TB := Lib.hid hT
  have TL := Lib.hid (show 1 < w.heap.size from World.block_lt_of_cell? w ⟨1, 0, none⟩ (hT 0 (by decide)))
  have NT := Lib.hid (show ∀ d bs mp, w.heap.size ≤ d → w.heap.size ≤ bs → w.heap.size ≤ mp → ¬ dod d bs mp 1 from fun d bs mp h1 h2 h3 q => by
    have := TL.out
    rcases q with q | q | q <;> omega)
  have a1 : ((8 : Int) + (lg : Int)) + 4 * (bl : Int) = ((N : Nat) : Int) := by rw [hN]; omega
  have w1 : IntKind.i64.wrap ((8 : Int) + (lg : Int)) = (8 : Int) + (lg : Int) := by rw [IntKind.wrap_i64]; omega
  have w2 : IntKind.i64.wrap ((4 : Int) * (bl : Int)) = (4 : Int) * (bl : Int) := by rw [IntKind.wrap_i64]; omega
  have w3 : IntKind.i64.wrap (((8 : Int) + (lg : Int)) + 4 * (bl : Int)) = ((N : Nat) : Int) := by rw [IntKind.wrap_i64]; omega
  have n1 : ¬ (lg : Int) < 0 := by omega
  by_cases g5 : c < 1 ∨ 4096 < c
  · rw [show mayW (lg : Nat) (bl : Nat) c = false from decide_eq_false (by omega)]
    have FB := Lib.hid (fun W d bs cap mp (hT : TabOK W) (hd : DiskIn W d bs cap mp (newD (N : Nat))) h => db_format_bad (r := c) hT hd e1 h g5)
    obtain ⟨R, hR⟩ : ∃ R, NewW w false = R := ⟨_, rfl⟩
    rw [hR]
    have HR := Lib.hid hR
    clear hR hT e1 e2 e3 e4 e5 e6 e7 e8 e9 e10 hN g5 g1
    go_enter Tryz.func22, Tryz.ntmps22
    go_wp2_with fail
    refine (SN.out w).mono ?_
    rintro e w2 ⟨d, bs, cap, mp, rfl, hd, l1, l2, l3, k2⟩
    have K2 := Lib.hid k2
    have HD := Lib.hid hd
    have LL := Lib.hid (And.intro l1 (And.intro l2 l3))
    have NT2 := Lib.hid (NT.out d bs mp l1 l2 l3)
    clear k2 hd l1 l2 l3 SN NT
    go_wp2_with fail
    refine (FB.out w2 d bs cap mp (TB.out.same K2.out) HD.out NT2.out).mono ?_
    rintro e w3 ⟨rfl, k3⟩
    have K3 := Lib.hid (show Same w w3 from K2.out.step k3 (fun j hj q => by obtain ⟨l1, l2, l3⟩ := LL.out; rcases q with q | q | q <;> omega))
    clear k3 FB
    go_wp2_with fail
    rw [← HR.out]
    exact ⟨rfl, K3.out⟩
  · rw [show mayW (lg : Nat) (bl : Nat) c = true from decide_eq_true (by omega)]
    have FG := Lib.hid (fun W d bs cap mp (hT : TabOK W) (hd : DiskIn W d bs cap mp (newD (N : Nat))) h => db_format (r := c) hT hd e1 e2 e3 e4 e5 e6 e7 e8 e9 e10 h (by omega) (by omega))
    obtain ⟨R, hR⟩ : ∃ R, NewW w true = R := ⟨_, rfl⟩
    rw [hR]
    have HR := Lib.hid hR
    clear hR hT e1 e2 e3 e4 e5 e6 e7 e8 e9 e10 hN g5 g1
    go_enter Tryz.func22, Tryz.ntmps22
    go_wp2_with fail
    refine (SN.out w).mono ?_
    rintro e w2 ⟨d, bs, cap, mp, rfl, hd, l1, l2, l3, k2⟩
    have K2 := Lib.hid k2
    have HD := Lib.hid hd
    have LL := Lib.hid (And.intro l1 (And.intro l2 l3))
    have NT2 := Lib.hid (NT.out d bs mp l1 l2 l3)
    clear k2 hd l1 l2 l3 SN NT
    go_wp2_with fail
    refine (FG.out w2 d bs cap mp (TB.out.same K2.out) HD.out NT2.out).mono ?_
    rintro e w3 ⟨x, rfl, k3⟩
    have K3 := Lib.hid (show Same w w3 from K2.out.step k3 (fun j hj q => by obtain ⟨l1, l2, l3⟩ := LL.out; rcases q with q | q | q <;> omega))
    clear k3 FG
    go_wp2_with fail
    rw [← HR.out]
    exact ⟨⟨_, rfl⟩, K3.out.alloc _⟩
end Go.Proofs.YtlkgdpdnhnakoaaGreatDoor
namespace Go.Proofs.YtlkgdpdnhnakoaaGreatDoor
open Go.RowKit
namespace Ev
noncomputable def awW (args : List AV) (h : Hp Xo) : Option (AV × Hp Xo) := match args, h.t.get tabG with
  | [], some (.x .tab) => some (.V (.C (.B true)), h)
  | _, _ => none
/-- A world is made, or not. -/
noncomputable def newO (may : Bool) (args : List AV) (h : Hp Xo) : Option (AV × Hp Xo) := match args with
  | [.V (.C (.X a)), .V (.C (.X b)), .V (.C (.X c))] => match symIs h a 0, symIs h b 1, symIs h c 2, h.t.get tabG with
    | true, true, true, some (.x .tab) => match may with
      | true => some (.U [.C (.P (some (h.next, 0))), .C (.I .i64 0)], ⟨h.t, Nat.succ h.next⟩)
      | false => some (.U [.C (.P none), .C (.I .i64 2)], h)
    | _, _, _, _ => none
  | _ => none
noncomputable def entW (may : Bool) : List EnyF := [⟨27, awW⟩, ⟨22, newO may⟩]
noncomputable def argW : List AV := [.V (.C (.X (nat_lit 64))), .V (.C (.X (nat_lit 65))), .V (.C (.X (nat_lit 66)))]
noncomputable def runW (l : List Fq) (may : Bool) : Bool := ranOk ((clO (tabOf Tryz.prog) numG (ixF (factQ l) (biQ [] [] [])) (iyV (entW may)) izP (nat_lit 100000) (nat_lit 300)).call 4 argW (h0 numG tabG (nat_lit 3)))
noncomputable def fW (a b c d e f : Bool) : List Fq := [⟨.geq, .i64, true, 0, 0, .B a⟩, ⟨.leq, .i64, true, 0, 256, .B b⟩, ⟨.geq, .i64, true, 1, 4, .B c⟩, ⟨.leq, .i64, true, 1, 512, .B d⟩, ⟨.geq, .i64, true, 2, 1, .B e⟩, ⟨.leq, .i64, true, 2, 4096, .B f⟩]
theorem runW_all : ([true, false].all fun a => [true, false].all fun b => [true, false].all fun c => [true, false].all fun d => [true, false].all fun e => [true, false].all fun f => runW (fW a b c d e f) (a && b && c && d && e && f)) = true := by kernel_rfl
theorem newO_ok {vals : Nat → Nat × Nat} {a b c : Int} (v0 : vals 0 = (0, znum a)) (v1 : vals 1 = (0, znum b)) (v2 : vals 2 = (0, znum c)) {may : Bool} (hm : mayW a b c = may) : YOkV vals 22 (newO may) := by
  intro ob hT args h h' z q V w xs s hr
  unfold newO at q
  split at q
  case h_2 => cases q
  rename_i ia ib ic
  split at q
  case h_2 => cases q
  rename_i ha hb hc hx
  match xs, hr with
  | [x, y, z'], ⟨h1, h2, h3, _⟩ =>
    have e0 : x = .int .i64 a := (symAt_val s (symIs_at ha) h1).trans (by rw [v0]; exact sym_int _)
    have e1 : y = .int .i64 b := (symAt_val s (symIs_at hb) h2).trans (by rw [v1]; exact sym_int _)
    have e2 : z' = .int .i64 c := (symAt_val s (symIs_at hc) h3).trans (by rw [v2]; exact sym_int _)
    subst e0 e1 e2
    refine (world_new a b c w (hT w (tab_at s hx))).mono ?_
    rw [hm]
    rintro e w' ⟨he, k⟩
    obtain ⟨s1, x1⟩ := Sim.same s k
    split at q
    · obtain ⟨p, rfl⟩ := he
      injection q with q; injection q with q1 q2; subst q1; subst q2
      refine ⟨_, rfl, named V h.next ⟨p, 0, 0, 0, 0⟩, ⟨[.pointer (some ⟨p, 0, none⟩), .int .i64 0], ⟨⟨_, ⟨_, named_self _ _ _, rfl⟩, rfl⟩, rfl, trivial⟩, rfl⟩, s1.name _, x1.trans (ext_name s1 _)⟩
    · have he : e = .returned (.tuple #[.pointer none, .int .i64 2]) := he
      subst he
      injection q with q; injection q with q1 q2; subst q1; subst q2
      exact ⟨_, rfl, V, ⟨[.pointer none, .int .i64 2], ⟨rfl, rfl, trivial⟩, rfl⟩, s1, x1⟩
end Ev
end Go.Proofs.YtlkgdpdnhnakoaaGreatDoor
