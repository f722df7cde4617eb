/- GDc: Dc1, Dc2. -/
import Derived.Test.YtpgghajkpjhieaaGreatDoorDc0
import Derived.Test.YtpgghajkpjhieaaGreatDoorGOrd
import Derived.Test.YtpgghajkpjhieaaGreatDoorSl2
namespace Go.Proofs.YtpgghajkpjhieaaGreatDoor
open Go.RowKit
attribute [local go_sem ↓] exec_app semAt_app
attribute [local go_sem] isApp_lit appA appX

def escT : List Nat → List Nat
  | [] => []
  | c :: l => if c = 0 then 0 :: 255 :: escT l else c :: escT l
def putT (l : List Nat) : List Nat := escT l ++ [0, 1]
theorem escT_app (l m : List Nat) : escT (l ++ m) = escT l ++ escT m := by
  induction l with
  | nil => rfl
  | cons c l ih => simp only [List.cons_append, escT, ih]; split <;> rfl
theorem escT_snoc0 (l : List Nat) : escT (l ++ [0]) = escT l ++ [0] ++ [255] := by rw [escT_app]; simp [escT]
theorem escT_snoc (l : List Nat) {c : Nat} (h : c ≠ 0) : escT (l ++ [c]) = escT l ++ [c] := by rw [escT_app]; simp [escT, h]
theorem escT_len (l : List Nat) : (escT l).length ≤ 2 * l.length := by
  induction l with
  | nil => simp [escT]
  | cons c l ih => simp only [escT]; split <;> simp <;> omega
theorem escT_bts {l : List Nat} (h : Bts l) : Bts (escT l) := by
  induction l with
  | nil => exact h
  | cons c l ih =>
    have hc := h c (by simp)
    have hl := ih fun x hx => h x (by simp [hx])
    intro x hx
    simp only [escT] at hx
    split at hx
    · simp only [List.mem_cons] at hx
      rcases hx with rfl | rfl | hx
      · decide
      · decide
      · exact hl x hx
    · simp only [List.mem_cons] at hx
      rcases hx with rfl | hx
      · exact hc
      · exact hl x hx

/-- A slice of one number, just made. -/
theorem one_at (w : World) (x : Nat) (t : TypeId) : NatsAt (w.alloc (.cells #[.int .u8 (x : Nat)] t)) .u8 (some ⟨w.heap.size, 0, none⟩) [x] :=
  .inr ⟨w.heap.size, 0, rfl, by simp, fun j u hu => by
    rcases j with _ | j
    · simp at hu; subst hu; exact (Blk.new w _ _).cell 0 rfl
    · simp at hu⟩
theorem strN_get {xs : List Nat} (hb : Bts xs) {i : Nat} (hi : i < xs.length) {h : i < (strN xs).size} : ((strN xs)[i]'h).toNat = xs[i] := by
  have e : (strN xs)[i]'h = UInt8.ofNat xs[i] := by
    show (strN xs).data[i]'(by simpa using h) = _
    simp [strN]
  rw [e]
  have := hb _ (List.getElem_mem hi)
  simp
  omega
set_option maxRecDepth 100000 in
set_option maxHeartbeats 800000 in
theorem rf_putText (xs : List Nat) (hb : Bts xs) (hl : xs.length ≤ 1000000) (w : World) :
    Calls Tryz.prog 50 #[.string (strN xs)] w fun e w' => ∃ v, e = .returned v ∧ OwnN w' w.heap.size 5 .u8 v (putT xs) ∧ Same w w' := by
  have SZ := Lib.hid (strN_len xs)
  go_enter Tryz.func50, Tryz.ntmps50
  go_wp2_with fail
  go_loopw [3, 4] (fun v t wr => ∃ i : Nat, t = .int .i64 i ∧ i ≤ xs.length ∧ OwnN wr w.heap.size 5 .u8 v (escT (xs.take i)) ∧ Same w wr) (fun _ t _ => xs.length - (intOf t).toNat)
  case atStart => exact ⟨0, rfl, by omega, World.ownsRow_nil _ _ _ _, Kept.refl _ _⟩
  case round =>
    obtain ⟨i, rfl, hi, ho, hk⟩ := hrel
    have HO := Lib.hid ho; have HK := Lib.hid hk
    clear ho hk
    by_cases hgo : i < xs.length
    · have g1 : (i : Int) < ((strN xs).size : Int) := by rw [SZ.out]; omega
      have g0 : (0 : Int) ≤ (i : Int) := by omega
      have hlen := escT_len (xs.take i)
      have hlt : (xs.take i).length = i := by simp; omega
      obtain ⟨y, hy⟩ : ∃ y, ((strN xs)[i]'(by rw [SZ.out]; exact hgo)).toNat = y := ⟨_, rfl⟩
      have hxy : xs[i] = y := by rw [← hy]; exact (strN_get hb hgo).symm
      have TK := Lib.hid (show xs.take (i + 1) = xs.take i ++ [y] from by rw [List.take_add_one, List.getElem?_eq_getElem hgo, hxy]; rfl)
      obtain ⟨l0, hl0⟩ : ∃ l0, xs.take i = l0 := ⟨_, rfl⟩
      rw [hl0] at TK HO hlen hlt
      have kB : Same wr (wr.alloc (.cells #[.int .u8 (y : Nat)] 5)) := (Kept.refl _ wr).alloc _
      obtain ⟨v5, w5, hrun, h5, g5, -⟩ := app_facts (P := Tryz.prog) (wr.alloc (.cells #[.int .u8 (y : Nat)] 5)) 23 23 w.heap.size 5 .u8 1 Tryz.underlying23 info8 (by decide) u3 (escT l0) (HO.out.same kB) (some ⟨wr.heap.size, 0, none⟩) 1 1 [y] rfl (one_at wr y _) (fun e => by cases e) (by simp; omega) (by have := HK.out.size; simp; omega)
      obtain ⟨aok, aV, aW⟩ := app_of hrun
      have K5 := Lib.hid ((HK.out.trans kB).grownNew g5 (fun k hk => by have := (World.ownsRow.lt HO.out _ hk).1; omega))
      have H5 := Lib.hid h5
      clear hrun h5 g5 kB HO HK hxy
      by_cases hy0 : y = 0
      · have hy1 : (((y : Nat) : Int) == 0) = true := by simpa using hy0
        have TE := Lib.hid (show escT (xs.take (i + 1)) = escT l0 ++ [y] ++ [255] from by rw [TK.out, hy0]; exact escT_snoc0 l0)
        have hl5 : (escT l0 ++ [y]).length ≤ 2 * l0.length + 1 := by simp; omega
        have kC : Same w5 (w5.alloc (.cells #[.int .u8 255] 5)) := (Kept.refl _ w5).alloc _
        have hn255 : NatsAt (w5.alloc (.cells #[.int .u8 255] 5)) .u8 (some ⟨w5.heap.size, 0, none⟩) [255] := one_at w5 255 _
        obtain ⟨v6, w6, hrun6, h6, g6, -⟩ := app_facts (P := Tryz.prog) (w5.alloc (.cells #[.int .u8 255] 5)) 23 23 w.heap.size 5 .u8 1 Tryz.underlying23 info8 (by decide) v5 (escT l0 ++ [y]) (H5.out.same kC) (some ⟨w5.heap.size, 0, none⟩) 1 1 [255] rfl hn255 (fun e => by cases e) (by simp at hl5 ⊢; omega) (by have := K5.out.size; simp; omega)
        obtain ⟨bok, bV, bW⟩ := app_of hrun6
        have K6 := Lib.hid ((K5.out.trans kC).grownNew g6 (fun k hk => by have := (World.ownsRow.lt H5.out _ hk).1; omega))
        have H6 := Lib.hid h6
        clear hrun6 h6 g6 kC H5 K5 hn255 hy0 hl5
        go_wp2_with fail
        go_roundw
        case rel => exact ⟨i + 1, by go_num, by omega, by rw [TE.out]; exact H6.out, K6.out⟩
        case measure => simp [intOf]; omega
      · have hy1 : (((y : Nat) : Int) == 0) = false := by simpa using hy0
        have TE := Lib.hid (show escT (xs.take (i + 1)) = escT l0 ++ [y] from by rw [TK.out]; exact escT_snoc l0 hy0)
        clear hy0
        go_wp2_with fail
        go_roundw
        case rel => exact ⟨i + 1, by go_num, by omega, by rw [TE.out]; exact H5.out, K5.out⟩
        case measure => simp [intOf]; omega
    · have e : i = xs.length := by omega
      have g1 : ¬ (i : Int) < ((strN xs).size : Int) := by rw [SZ.out]; omega
      have hlen := escT_len xs
      rw [e, List.take_length] at HO
      have kB : Same wr (wr.alloc (.cells #[.int .u8 0, .int .u8 1] 5)) := (Kept.refl _ wr).alloc _
      have h01 : NatsAt (wr.alloc (.cells #[.int .u8 0, .int .u8 1] 5)) .u8 (some ⟨wr.heap.size, 0, none⟩) [0, 1] := .inr ⟨wr.heap.size, 0, rfl, by simp, fun j u hu => by
        rcases j with _ | _ | j
        · simp at hu; subst hu; exact (Blk.new wr _ _).cell 0 rfl
        · simp at hu; subst hu; exact (Blk.new wr _ _).cell 1 rfl
        · simp at hu⟩
      obtain ⟨v5, w5, hrun, h5, g5, -⟩ := app_facts (P := Tryz.prog) (wr.alloc (.cells #[.int .u8 0, .int .u8 1] 5)) 23 23 w.heap.size 5 .u8 1 Tryz.underlying23 info8 (by decide) u3 (escT xs) (HO.out.same kB) (some ⟨wr.heap.size, 0, none⟩) 2 2 [0, 1] rfl h01 (fun e => by cases e) (by simp; omega) (by have := HK.out.size; simp; omega)
      obtain ⟨aok, aV, aW⟩ := app_of hrun
      have K5 := Lib.hid ((HK.out.trans kB).grownNew g5 (fun k hk => by have := (World.ownsRow.lt HO.out _ hk).1; omega))
      have H5 := Lib.hid h5
      clear hrun h5 g5 kB HO HK h01
      go_wp2_with fail
      go_ret
      exact ⟨_, rfl, H5.out, K5.out⟩
set_option maxRecDepth 100000 in
set_option maxHeartbeats 800000 in
theorem ord_putText (xs : List Nat) (hb : Bts xs) (hl : xs.length ≤ 1000000) (w : World) :
    Calls Tryz.prog 33 #[.string (strN xs)] w fun e w' => ∃ v, e = .returned v ∧ OwnN w' w.heap.size 5 .u8 v (putT xs) ∧ Same w w' := by
  obtain ⟨cc, w1, hcv, hat, -, hk1⟩ := conv_bytes xs hb w
  have AT := Lib.hid hat; have K1 := Lib.hid hk1
  have z1 : w.heap.size ≤ w1.heap.size := hk1.size
  clear hat hk1
  go_enter Tryz.func33, Tryz.ntmps33
  go_wp2_with fail
  clear hcv
  go_loopw [3, 9] (fun v t wr => ∃ i : Nat, t = .int .i64 i ∧ i ≤ xs.length ∧ OwnN wr w1.heap.size 5 .u8 v (escT (xs.take i)) ∧ Same w1 wr) (fun _ t _ => xs.length - (intOf t).toNat)
  case atStart => exact ⟨0, rfl, by omega, World.ownsRow_nil _ _ _ _, Kept.refl _ _⟩
  case round =>
    obtain ⟨i, rfl, hi, ho, hk⟩ := hrel
    have HO := Lib.hid ho; have HK := Lib.hid hk
    clear ho hk
    by_cases hgo : i < xs.length
    · have g1 : (i : Int) < (xs.length : Int) := by omega
      have g0 : (0 : Int) ≤ (i : Int) := by omega
      have hlen := escT_len (xs.take i)
      have hlt : (xs.take i).length = i := by simp; omega
      obtain ⟨ab, ao, y, hae, hab, hx, hc⟩ := (AT.out.same HK.out).at (i := i) hgo
      obtain ⟨rfl, rfl⟩ : w.heap.size = ab ∧ 0 = ao := by
        simp only [Option.some.injEq, Addr.mk.injEq, and_true] at hae
        exact hae
      have hxy : xs[i] = y := by rw [List.getElem?_eq_getElem hgo] at hx; exact Option.some.inj hx
      rw [Nat.zero_add] at hc
      clear hae hx
      have TK := Lib.hid (show xs.take (i + 1) = xs.take i ++ [y] from by rw [List.take_add_one, List.getElem?_eq_getElem hgo, hxy]; rfl)
      obtain ⟨l0, hl0⟩ : ∃ l0, xs.take i = l0 := ⟨_, rfl⟩
      rw [hl0] at TK HO hlen hlt
      have kB : Same wr (wr.alloc (.cells #[.int .u8 (y : Nat)] 5)) := (Kept.refl _ wr).alloc _
      obtain ⟨v5, w5, hrun, h5, g5, -⟩ := app_facts (P := Tryz.prog) (wr.alloc (.cells #[.int .u8 (y : Nat)] 5)) 23 23 w1.heap.size 5 .u8 1 Tryz.underlying23 info8 (by decide) u3 (escT l0) (HO.out.same kB) (some ⟨wr.heap.size, 0, none⟩) 1 1 [y] rfl (one_at wr y _) (fun e => by cases e) (by simp; omega) (by have := HK.out.size; simp; omega)
      obtain ⟨aok, aV, aW⟩ := app_of hrun
      have K5 := Lib.hid ((HK.out.trans kB).grownNew g5 (fun k hk => by have := (World.ownsRow.lt HO.out _ hk).1; omega))
      have H5 := Lib.hid h5
      clear hrun h5 g5 kB HO HK hxy
      by_cases hy0 : y = 0
      · have hy1 : (((y : Nat) : Int) == 0) = true := by simpa using hy0
        have TE := Lib.hid (show escT (xs.take (i + 1)) = escT l0 ++ [y] ++ [255] from by rw [TK.out, hy0]; exact escT_snoc0 l0)
        have hl5 : (escT l0 ++ [y]).length ≤ 2 * l0.length + 1 := by simp; omega
        have kC : Same w5 (w5.alloc (.cells #[.int .u8 255] 5)) := (Kept.refl _ w5).alloc _
        have hn255 : NatsAt (w5.alloc (.cells #[.int .u8 255] 5)) .u8 (some ⟨w5.heap.size, 0, none⟩) [255] := one_at w5 255 _
        obtain ⟨v6, w6, hrun6, h6, g6, -⟩ := app_facts (P := Tryz.prog) (w5.alloc (.cells #[.int .u8 255] 5)) 23 23 w1.heap.size 5 .u8 1 Tryz.underlying23 info8 (by decide) v5 (escT l0 ++ [y]) (H5.out.same kC) (some ⟨w5.heap.size, 0, none⟩) 1 1 [255] rfl hn255 (fun e => by cases e) (by simp at hl5 ⊢; omega) (by have := K5.out.size; simp; omega)
        obtain ⟨bok, bV, bW⟩ := app_of hrun6
        have K6 := Lib.hid ((K5.out.trans kC).grownNew g6 (fun k hk => by have := (World.ownsRow.lt H5.out _ hk).1; omega))
        have H6 := Lib.hid h6
        clear hrun6 h6 g6 kC H5 K5 hn255 hy0 hl5
        go_wp2_with fail
        go_roundw
        case rel => exact ⟨i + 1, by go_num, by omega, by rw [TE.out]; exact H6.out, K6.out⟩
        case measure => simp [intOf]; omega
      · have hy1 : (((y : Nat) : Int) == 0) = false := by simpa using hy0
        have TE := Lib.hid (show escT (xs.take (i + 1)) = escT l0 ++ [y] from by rw [TK.out]; exact escT_snoc l0 hy0)
        clear hy0
        go_wp2_with fail
        go_roundw
        case rel => exact ⟨i + 1, by go_num, by omega, by rw [TE.out]; exact H5.out, K5.out⟩
        case measure => simp [intOf]; omega
    · have e : i = xs.length := by omega
      have g1 : ¬ (i : Int) < (xs.length : Int) := by omega
      have hlen := escT_len xs
      rw [e, List.take_length] at HO
      have kB : Same wr (wr.alloc (.cells #[.int .u8 0, .int .u8 1] 5)) := (Kept.refl _ wr).alloc _
      have h01 : NatsAt (wr.alloc (.cells #[.int .u8 0, .int .u8 1] 5)) .u8 (some ⟨wr.heap.size, 0, none⟩) [0, 1] := .inr ⟨wr.heap.size, 0, rfl, by simp, fun j u hu => by
        rcases j with _ | _ | j
        · simp at hu; subst hu; exact (Blk.new wr _ _).cell 0 rfl
        · simp at hu; subst hu; exact (Blk.new wr _ _).cell 1 rfl
        · simp at hu⟩
      obtain ⟨v5, w5, hrun, h5, g5, -⟩ := app_facts (P := Tryz.prog) (wr.alloc (.cells #[.int .u8 0, .int .u8 1] 5)) 23 23 w1.heap.size 5 .u8 1 Tryz.underlying23 info8 (by decide) u3 (escT xs) (HO.out.same kB) (some ⟨wr.heap.size, 0, none⟩) 2 2 [0, 1] rfl h01 (fun e => by cases e) (by simp; omega) (by have := HK.out.size; simp; omega)
      obtain ⟨aok, aV, aW⟩ := app_of hrun
      have K5 := Lib.hid ((HK.out.trans kB).grownNew g5 (fun k hk => by have := (World.ownsRow.lt HO.out _ hk).1; omega))
      have H5 := Lib.hid h5
      clear hrun h5 g5 kB HO HK h01
      go_wp2_with fail
      go_ret
      exact ⟨_, rfl, H5.out.base z1, K1.out.trans K5.out⟩
end Go.Proofs.YtpgghajkpjhieaaGreatDoor

namespace Go.Proofs.YtpgghajkpjhieaaGreatDoor
open Go.RowKit
attribute [local go_sem ↓] exec_app semAt_app
attribute [local go_sem] isApp_lit appA appX

def addT (a : List Nat) (k : Nat) (r : List Nat × Nat × Nat) : List Nat × Nat × Nat := if r.2.2 = 0 then (a ++ r.1, k + r.2.1, 0) else r
/-- A text off bytes: the text, how many bytes it takes, the error. -/
def gT : List Nat → List Nat × Nat × Nat
  | [] => ([], 0, 3)
  | [_] => ([], 0, 3)
  | c :: d :: m => if c = 0 then (if d = 1 then ([], 2, 0) else if d = 255 then addT [0] 2 (gT m) else ([], 0, 4)) else addT [c] 1 (gT (d :: m))
theorem addT_nil (r : List Nat × Nat × Nat) : addT [] 0 r = r := by
  unfold addT
  split
  · rename_i h
    obtain ⟨a, b, c⟩ := r
    simp only at h ⊢
    subst h
    simp
  · rfl
theorem addT_add (a b : List Nat) (j k : Nat) (r : List Nat × Nat × Nat) : addT a j (addT b k r) = addT (a ++ b) (j + k) r := by
  unfold addT
  by_cases h : r.2.2 = 0
  · simp [h, Nat.add_assoc]
  · simp [h]
theorem addT_bad {a : List Nat} {k : Nat} {r : List Nat × Nat × Nat} (h : r.2.2 ≠ 0) : addT a k r = r := if_neg h
theorem gT_cons {c : Nat} (h : c ≠ 0) (l : List Nat) : gT (c :: l) = addT [c] 1 (gT l) := by
  cases l with
  | nil => rfl
  | cons d m => unfold gT; rw [if_neg h]; cases m <;> rfl
theorem gT_end (m : List Nat) : gT (0 :: 1 :: m) = ([], 2, 0) := rfl
theorem gT_zero (m : List Nat) : gT (0 :: 255 :: m) = addT [0] 2 (gT m) := rfl
theorem gT_bad {d : Nat} (h1 : d ≠ 1) (h2 : d ≠ 255) (m : List Nat) : gT (0 :: d :: m) = ([], 0, 4) := by
  unfold gT; rw [if_pos rfl, if_neg h1, if_neg h2]
/-- What is laid is read. -/
theorem gT_put (l m : List Nat) : gT (putT l ++ m) = (l, (putT l).length, 0) := by
  unfold putT
  induction l with
  | nil => rfl
  | cons c l ih =>
    by_cases h : c = 0
    · subst h
      have e : escT (0 :: l) ++ [0, 1] ++ m = 0 :: 255 :: (escT l ++ [0, 1] ++ m) := by simp [escT]
      rw [e, gT_zero, ih]
      simp [addT, escT]
      omega
    · have e : escT (c :: l) ++ [0, 1] ++ m = c :: (escT l ++ [0, 1] ++ m) := by simp [escT, h]
      rw [e, gT_cons h, ih]
      simp [addT, escT, h]
      omega
def retT (r : List Nat × Nat × Nat) : Value := .tuple #[.string (strN r.1), .int .i64 (r.2.1 : Nat), .int .i64 (r.2.2 : Nat)]
theorem drop_at {xs : List Nat} {i : Nat} (h : i < xs.length) : xs.drop i = xs[i] :: xs.drop (i + 1) := List.drop_eq_getElem_cons h

set_option maxRecDepth 100000 in
set_option maxHeartbeats 1600000 in
theorem rf_getText (a : Option Addr) (n cap : Nat) (xs : List Nat) (hn : n = xs.length) (hb : Bts xs) (hl : n ≤ 1000000) (w : World) (hat : NatsAt w .u8 a xs) :
    Calls Tryz.prog 56 #[.slice a n cap] w fun e w' => e = .returned (retT (gT xs)) ∧ Same w w' := by
  have AT := Lib.hid hat; have HN := Lib.hid hn
  obtain ⟨R, hR⟩ : ∃ R, gT xs = R := ⟨_, rfl⟩
  have HR := Lib.hid hR
  rw [hR]
  clear hat hn hR
  go_enter Tryz.func56, Tryz.ntmps56
  go_wp2_with fail
  go_loopw [5, 6] (fun v t wr => ∃ (i : Nat) (acc : List Nat), t = .int .i64 i ∧ i ≤ n ∧ acc.length ≤ i ∧ OwnN wr w.heap.size 5 .u8 v acc ∧ Bts acc ∧ R = addT acc i (gT (xs.drop i)) ∧ Same w wr) (fun _ t _ => n - (intOf t).toNat)
  case atStart => exact ⟨0, [], rfl, by omega, by simp, World.ownsRow_nil _ _ _ _, (fun x hx => by cases hx), (by rw [addT_nil, List.drop_zero]; exact HR.out.symm), Kept.refl _ _⟩
  case round =>
    obtain ⟨i, acc, rfl, hi, hal, ho, hab, hr, hk⟩ := hrel
    have HO := Lib.hid ho; have HK := Lib.hid hk; have HB := Lib.hid hab; have RR := Lib.hid hr; have HL := Lib.hid hal
    clear ho hk hab hr hal
    by_cases hgo : i < n
    · have hgx : i < xs.length := by have := HN.out; omega
      have g1 : (i : Int) < (n : Int) := by omega
      have g0 : (0 : Int) ≤ (i : Int) := by omega
      obtain ⟨ab, ao, c, rfl, hab, hx, hc⟩ := (AT.out.same HK.out).at (i := i) hgx
      have hxc : xs[i] = c := by rw [List.getElem?_eq_getElem hgx] at hx; exact Option.some.inj hx
      have DR := Lib.hid (drop_at hgx)
      rw [hxc] at DR
      have hcb : c < 256 := hb c (List.mem_of_getElem? hx)
      clear hx hxc
      by_cases hc0 : c = 0
      · have hc1 : (((c : Nat) : Int) != 0) = false := by simpa using hc0
        subst hc0
        by_cases hlast : i + 1 = n
        · have RE := Lib.hid (show R = ([], 0, 3) from by
            rw [RR.out, DR.out, List.drop_of_length_le (by have := HN.out; omega)]; rfl)
          have g2 : ((i : Int) + 1 == (n : Int)) = true := by simp; omega
          clear RR DR HB HL
          go_wp2_with fail
          go_ret3
          exact ⟨by rw [RE.out]; rfl, HK.out⟩
        · have hgx2 : i + 1 < xs.length := by have := HN.out; omega
          have g2 : ((i : Int) + 1 == (n : Int)) = false := by simp; omega
          have g3 : (i : Int) + 1 < (n : Int) := by omega
          have g4 : (0 : Int) ≤ (i : Int) + 1 := by omega
          obtain ⟨ab2, ao2, d, hae, -, hx2, hd⟩ := (AT.out.same HK.out).at (i := i + 1) hgx2
          obtain ⟨rfl, rfl⟩ : ab = ab2 ∧ ao = ao2 := by
            simp only [Option.some.injEq, Addr.mk.injEq, and_true] at hae
            exact hae
          have hxd : xs[i + 1] = d := by rw [List.getElem?_eq_getElem hgx2] at hx2; exact Option.some.inj hx2
          have DR2 := Lib.hid (drop_at hgx2)
          rw [hxd] at DR2
          clear hae hx2 hxd
          by_cases hd1 : d = 1
          · have hd2 : (((d : Nat) : Int) == 1) = true := by simp; omega
            obtain ⟨va, vc, rfl, -, -, -, vat, -⟩ := HO.out.read
            have hcs := conv_str va acc.length vc acc wr rfl vat
            have RE := Lib.hid (show R = (acc, i + 2, 0) from by
              rw [RR.out, DR.out, DR2.out, hd1, gT_end]; simp [addT])
            clear RR DR DR2 HB HL vat hd1
            go_wp2_with fail
            go_ret3
            exact ⟨by rw [RE.out]; rfl, HK.out⟩
          · by_cases hd5 : d = 255
            · have hd2 : (((d : Nat) : Int) == 1) = false := by simp; omega
              have hd6 : (((d : Nat) : Int) == 255) = true := by simp; omega
              have kB : Same wr (wr.alloc (.cells #[.int .u8 0] 5)) := (Kept.refl _ wr).alloc _
              have hn0 : NatsAt (wr.alloc (.cells #[.int .u8 0] 5)) .u8 (some ⟨wr.heap.size, 0, none⟩) [0] := one_at wr 0 _
              obtain ⟨v5, w5, hrun, h5, g5, -⟩ := app_facts (P := Tryz.prog) (wr.alloc (.cells #[.int .u8 0] 5)) 23 23 w.heap.size 5 .u8 1 Tryz.underlying23 info8 (by decide) u5 acc (HO.out.same kB) (some ⟨wr.heap.size, 0, none⟩) 1 1 [0] rfl hn0 (fun e => by cases e) (by have := HL.out; simp; omega) (by have := HK.out.size; simp; omega)
              obtain ⟨aok, aV, aW⟩ := app_of hrun
              have K5 := Lib.hid ((HK.out.trans kB).grownNew g5 (fun k hk => by have := (World.ownsRow.lt HO.out _ hk).1; omega))
              have H5 := Lib.hid h5
              have R5 : Hid (R = addT (acc ++ [0]) (i + 2) (gT (xs.drop (i + 2)))) := by show _ = _; rw [RR.out, DR.out, DR2.out, hd5, gT_zero, addT_add]
              have B5 : Hid (Bts (acc ++ [0])) := by
                show Bts _
                intro x hx
                rcases List.mem_append.1 hx with hx | hx
                · exact HB.out x hx
                · simp at hx; omega
              clear hrun h5 g5 kB hn0 HO HK hd1 hd5 RR DR DR2 HB
              go_wp2_with fail
              go_roundw
              case rel => exact ⟨i + 2, acc ++ [0], by go_num, by omega, by have := HL.out; simp; omega, H5.out, B5.out, R5.out, K5.out⟩
              case measure => simp [intOf]; omega
            · have hd2 : (((d : Nat) : Int) == 1) = false := by simp; omega
              have hd6 : (((d : Nat) : Int) == 255) = false := by simp; omega
              have RE := Lib.hid (show R = ([], 0, 4) from by
                rw [RR.out, DR.out, DR2.out, gT_bad hd1 hd5]; rfl)
              clear RR DR DR2 HB HL hd1 hd5
              go_wp2_with fail
              go_ret3
              exact ⟨by rw [RE.out]; rfl, HK.out⟩
      · have hc1 : (((c : Nat) : Int) != 0) = true := by simpa using hc0
        have kB : Same wr (wr.alloc (.cells #[.int .u8 (c : Nat)] 5)) := (Kept.refl _ wr).alloc _
        obtain ⟨v5, w5, hrun, h5, g5, -⟩ := app_facts (P := Tryz.prog) (wr.alloc (.cells #[.int .u8 (c : Nat)] 5)) 23 23 w.heap.size 5 .u8 1 Tryz.underlying23 info8 (by decide) u5 acc (HO.out.same kB) (some ⟨wr.heap.size, 0, none⟩) 1 1 [c] rfl (one_at wr c _) (fun e => by cases e) (by have := HL.out; simp; omega) (by have := HK.out.size; simp; omega)
        obtain ⟨aok, aV, aW⟩ := app_of hrun
        have K5 := Lib.hid ((HK.out.trans kB).grownNew g5 (fun k hk => by have := (World.ownsRow.lt HO.out _ hk).1; omega))
        have H5 := Lib.hid h5
        have R5 : Hid (R = addT (acc ++ [c]) (i + 1) (gT (xs.drop (i + 1)))) := by show _ = _; rw [RR.out, DR.out, gT_cons hc0, addT_add]
        have B5 : Hid (Bts (acc ++ [c])) := by
          show Bts _
          intro x hx
          rcases List.mem_append.1 hx with hx | hx
          · exact HB.out x hx
          · simp at hx; omega
        clear hrun h5 g5 kB HO HK hc0 RR DR HB
        go_wp2_with fail
        go_roundw
        case rel => exact ⟨i + 1, acc ++ [c], by go_num, by omega, by have := HL.out; simp; omega, H5.out, B5.out, R5.out, K5.out⟩
        case measure => simp [intOf]; omega
    · have e : i = n := by omega
      have g1 : ¬ (i : Int) < (n : Int) := by omega
      have RE := Lib.hid (show R = ([], 0, 3) from by rw [RR.out, List.drop_of_length_le (by have := HN.out; omega)]; rfl)
      go_wp2_with fail
      go_ret3
      exact ⟨by rw [RE.out]; rfl, HK.out⟩
end Go.Proofs.YtpgghajkpjhieaaGreatDoor
