/- GDc: Dc1, Dc2. -/
import Derived.Test.YtnjmdldhgconmaaGreatDoorDc0
import Derived.Test.YtnjmdldhgconmaaGreatDoorGOrd
import Derived.Test.YtnjmdldhgconmaaGreatDoorSl2
namespace Go.Proofs.YtnjmdldhgconmaaGreatDoor
open Go.RowKit
attribute [local go_sem ↓] exec_app semAt_app
attribute [local go_sem] isApp_lit appA appX

def escT : List Nat → List Nat
  | [] => []
  | c :: l => if c = 0 then 0 :: 255 :: escT l else c :: escT l
def putT (l : List Nat) : List Nat := escT l ++ [0, 1]
theorem escT_app (l m : List Nat) : escT (l ++ m) = escT l ++ escT m := by
  induction l with
  | nil => rfl
  | cons c l ih => simp only [List.cons_append, escT, ih]; split <;> rfl
theorem escT_snoc0 (l : List Nat) : escT (l ++ [0]) = escT l ++ [0] ++ [255] := by rw [escT_app]; simp [escT]
theorem escT_snoc (l : List Nat) {c : Nat} (h : c ≠ 0) : escT (l ++ [c]) = escT l ++ [c] := by rw [escT_app]; simp [escT, h]
theorem escT_len (l : List Nat) : (escT l).length ≤ 2 * l.length := by
  induction l with
  | nil => simp [escT]
  | cons c l ih => simp only [escT]; split <;> simp <;> omega
theorem escT_bts {l : List Nat} (h : Bts l) : Bts (escT l) := by
  induction l with
  | nil => exact h
  | cons c l ih =>
    have hc := h c (by simp)
    have hl := ih fun x hx => h x (by simp [hx])
    intro x hx
    simp only [escT] at hx
    split at hx
    · simp only [List.mem_cons] at hx
      rcases hx with rfl | rfl | hx
      · decide
      · decide
      · exact hl x hx
    · simp only [List.mem_cons] at hx
      rcases hx with rfl | hx
      · exact hc
      · exact hl x hx

/-- A slice of one number, just made. -/
theorem one_at (w : World) (x : Nat) (t : TypeId) : NatsAt (w.alloc (.cells #[.int .u8 (x : Nat)] t)) .u8 (some ⟨w.heap.size, 0, none⟩) [x] :=
  .inr ⟨w.heap.size, 0, rfl, by simp, fun j u hu => by
    rcases j with _ | j
    · simp at hu; subst hu; exact (Blk.new w _ _).cell 0 rfl
    · simp at hu⟩
theorem strN_get {xs : List Nat} (hb : Bts xs) {i : Nat} (hi : i < xs.length) {h : i < (strN xs).size} : ((strN xs)[i]'h).toNat = xs[i] := by
  have e : (strN xs)[i]'h = UInt8.ofNat xs[i] := by
    show (strN xs).data[i]'(by simpa using h) = _
    simp [strN]
  rw [e]
  have := hb _ (List.getElem_mem hi)
  simp
  omega
set_option maxRecDepth 100000 in
set_option maxHeartbeats 800000 in
theorem ord_putText (xs : List Nat) (hb : Bts xs) (hl : xs.length ≤ 1000000) (w : World) :
    Calls Tryz.prog 236 #[.string (strN xs)] w fun e w' => ∃ v, e = .returned v ∧ OwnN w' w.heap.size 5 .u8 v (putT xs) ∧ Same w w' := by
  obtain ⟨cc, w1, hcv, hat, -, hk1⟩ := conv_bytes xs hb w
  have AT := Lib.hid hat; have K1 := Lib.hid hk1
  have z1 : w.heap.size ≤ w1.heap.size := hk1.size
  clear hat hk1
  go_enter Tryz.func236, Tryz.ntmps236
  go_wp2_with fail
  clear hcv
  go_loopw [3, 9] (fun v t wr => ∃ i : Nat, t = .int .i64 i ∧ i ≤ xs.length ∧ OwnN wr w1.heap.size 5 .u8 v (escT (xs.take i)) ∧ Same w1 wr) (fun _ t _ => xs.length - (intOf t).toNat)
  case atStart => exact ⟨0, rfl, by omega, World.ownsRow_nil _ _ _ _, Kept.refl _ _⟩
  case round =>
    obtain ⟨i, rfl, hi, ho, hk⟩ := hrel
    have HO := Lib.hid ho; have HK := Lib.hid hk
    clear ho hk
    by_cases hgo : i < xs.length
    · have g1 : (i : Int) < (xs.length : Int) := by omega
      have g0 : (0 : Int) ≤ (i : Int) := by omega
      have hlen := escT_len (xs.take i)
      have hlt : (xs.take i).length = i := by simp; omega
      obtain ⟨ab, ao, y, hae, hab, hx, hc⟩ := (AT.out.same HK.out).at (i := i) hgo
      obtain ⟨rfl, rfl⟩ : w.heap.size = ab ∧ 0 = ao := by
        simp only [Option.some.injEq, Addr.mk.injEq, and_true] at hae
        exact hae
      have hxy : xs[i] = y := by rw [List.getElem?_eq_getElem hgo] at hx; exact Option.some.inj hx
      rw [Nat.zero_add] at hc
      clear hae hx
      have TK := Lib.hid (show xs.take (i + 1) = xs.take i ++ [y] from by rw [List.take_add_one, List.getElem?_eq_getElem hgo, hxy]; rfl)
      obtain ⟨l0, hl0⟩ : ∃ l0, xs.take i = l0 := ⟨_, rfl⟩
      rw [hl0] at TK HO hlen hlt
      have kB : Same wr (wr.alloc (.cells #[.int .u8 (y : Nat)] 5)) := (Kept.refl _ wr).alloc _
      obtain ⟨v5, w5, hrun, h5, g5, -⟩ := app_facts (P := Tryz.prog) (wr.alloc (.cells #[.int .u8 (y : Nat)] 5)) 25 25 w1.heap.size 5 .u8 1 Tryz.underlying25 info8 (by decide) u3 (escT l0) (HO.out.same kB) (some ⟨wr.heap.size, 0, none⟩) 1 1 [y] rfl (one_at wr y _) (fun e => by cases e) (by simp; omega) (by have := HK.out.size; simp; omega)
      obtain ⟨aok, aV, aW⟩ := app_of hrun
      have K5 := Lib.hid ((HK.out.trans kB).grownNew g5 (fun k hk => by have := (World.ownsRow.lt HO.out _ hk).1; omega))
      have H5 := Lib.hid h5
      clear hrun h5 g5 kB HO HK hxy
      by_cases hy0 : y = 0
      · have hy1 : (((y : Nat) : Int) == 0) = true := by simpa using hy0
        have TE := Lib.hid (show escT (xs.take (i + 1)) = escT l0 ++ [y] ++ [255] from by rw [TK.out, hy0]; exact escT_snoc0 l0)
        have hl5 : (escT l0 ++ [y]).length ≤ 2 * l0.length + 1 := by simp; omega
        have kC : Same w5 (w5.alloc (.cells #[.int .u8 255] 5)) := (Kept.refl _ w5).alloc _
        have hn255 : NatsAt (w5.alloc (.cells #[.int .u8 255] 5)) .u8 (some ⟨w5.heap.size, 0, none⟩) [255] := one_at w5 255 _
        obtain ⟨v6, w6, hrun6, h6, g6, -⟩ := app_facts (P := Tryz.prog) (w5.alloc (.cells #[.int .u8 255] 5)) 25 25 w1.heap.size 5 .u8 1 Tryz.underlying25 info8 (by decide) v5 (escT l0 ++ [y]) (H5.out.same kC) (some ⟨w5.heap.size, 0, none⟩) 1 1 [255] rfl hn255 (fun e => by cases e) (by simp at hl5 ⊢; omega) (by have := K5.out.size; simp; omega)
        obtain ⟨bok, bV, bW⟩ := app_of hrun6
        have K6 := Lib.hid ((K5.out.trans kC).grownNew g6 (fun k hk => by have := (World.ownsRow.lt H5.out _ hk).1; omega))
        have H6 := Lib.hid h6
        clear hrun6 h6 g6 kC H5 K5 hn255 hy0 hl5
        go_wp2_with fail
        go_roundw
        case rel => exact ⟨i + 1, by go_num, by omega, by rw [TE.out]; exact H6.out, K6.out⟩
        case measure => simp [intOf]; omega
      · have hy1 : (((y : Nat) : Int) == 0) = false := by simpa using hy0
        have TE := Lib.hid (show escT (xs.take (i + 1)) = escT l0 ++ [y] from by rw [TK.out]; exact escT_snoc l0 hy0)
        clear hy0
        go_wp2_with fail
        go_roundw
        case rel => exact ⟨i + 1, by go_num, by omega, by rw [TE.out]; exact H5.out, K5.out⟩
        case measure => simp [intOf]; omega
    · have e : i = xs.length := by omega
      have g1 : ¬ (i : Int) < (xs.length : Int) := by omega
      have hlen := escT_len xs
      rw [e, List.take_length] at HO
      have kB : Same wr (wr.alloc (.cells #[.int .u8 0, .int .u8 1] 5)) := (Kept.refl _ wr).alloc _
      have h01 : NatsAt (wr.alloc (.cells #[.int .u8 0, .int .u8 1] 5)) .u8 (some ⟨wr.heap.size, 0, none⟩) [0, 1] := .inr ⟨wr.heap.size, 0, rfl, by simp, fun j u hu => by
        rcases j with _ | _ | j
        · simp at hu; subst hu; exact (Blk.new wr _ _).cell 0 rfl
        · simp at hu; subst hu; exact (Blk.new wr _ _).cell 1 rfl
        · simp at hu⟩
      obtain ⟨v5, w5, hrun, h5, g5, -⟩ := app_facts (P := Tryz.prog) (wr.alloc (.cells #[.int .u8 0, .int .u8 1] 5)) 25 25 w1.heap.size 5 .u8 1 Tryz.underlying25 info8 (by decide) u3 (escT xs) (HO.out.same kB) (some ⟨wr.heap.size, 0, none⟩) 2 2 [0, 1] rfl h01 (fun e => by cases e) (by simp; omega) (by have := HK.out.size; simp; omega)
      obtain ⟨aok, aV, aW⟩ := app_of hrun
      have K5 := Lib.hid ((HK.out.trans kB).grownNew g5 (fun k hk => by have := (World.ownsRow.lt HO.out _ hk).1; omega))
      have H5 := Lib.hid h5
      clear hrun h5 g5 kB HO HK h01
      go_wp2_with fail
      go_ret
      exact ⟨_, rfl, H5.out.base z1, K1.out.trans K5.out⟩
end Go.Proofs.YtnjmdldhgconmaaGreatDoor

namespace Go.Proofs.YtnjmdldhgconmaaGreatDoor
open Go.RowKit
attribute [local go_sem ↓] exec_app semAt_app
attribute [local go_sem] isApp_lit appA appX

def addT (a : List Nat) (k : Nat) (r : List Nat × Nat × Nat) : List Nat × Nat × Nat := if r.2.2 = 0 then (a ++ r.1, k + r.2.1, 0) else r
/-- A text off bytes: the text, how many bytes it takes, the error. -/
def gT : List Nat → List Nat × Nat × Nat
  | [] => ([], 0, 3)
  | [_] => ([], 0, 3)
  | c :: d :: m => if c = 0 then (if d = 1 then ([], 2, 0) else if d = 255 then addT [0] 2 (gT m) else ([], 0, 4)) else addT [c] 1 (gT (d :: m))
theorem addT_nil (r : List Nat × Nat × Nat) : addT [] 0 r = r := by
  unfold addT
  split
  · rename_i h
    obtain ⟨a, b, c⟩ := r
    simp only at h ⊢
    subst h
    simp
  · rfl
theorem addT_add (a b : List Nat) (j k : Nat) (r : List Nat × Nat × Nat) : addT a j (addT b k r) = addT (a ++ b) (j + k) r := by
  unfold addT
  by_cases h : r.2.2 = 0
  · simp [h, Nat.add_assoc]
  · simp [h]
theorem addT_bad {a : List Nat} {k : Nat} {r : List Nat × Nat × Nat} (h : r.2.2 ≠ 0) : addT a k r = r := if_neg h
theorem gT_cons {c : Nat} (h : c ≠ 0) (l : List Nat) : gT (c :: l) = addT [c] 1 (gT l) := by
  cases l with
  | nil => rfl
  | cons d m => unfold gT; rw [if_neg h]; cases m <;> rfl
theorem gT_end (m : List Nat) : gT (0 :: 1 :: m) = ([], 2, 0) := rfl
theorem gT_zero (m : List Nat) : gT (0 :: 255 :: m) = addT [0] 2 (gT m) := rfl
theorem gT_bad {d : Nat} (h1 : d ≠ 1) (h2 : d ≠ 255) (m : List Nat) : gT (0 :: d :: m) = ([], 0, 4) := by
  unfold gT; rw [if_pos rfl, if_neg h1, if_neg h2]
/-- What is laid is read. -/
theorem gT_put (l m : List Nat) : gT (putT l ++ m) = (l, (putT l).length, 0) := by
  unfold putT
  induction l with
  | nil => rfl
  | cons c l ih =>
    by_cases h : c = 0
    · subst h
      have e : escT (0 :: l) ++ [0, 1] ++ m = 0 :: 255 :: (escT l ++ [0, 1] ++ m) := by simp [escT]
      rw [e, gT_zero, ih]
      simp [addT, escT]
      omega
    · have e : escT (c :: l) ++ [0, 1] ++ m = c :: (escT l ++ [0, 1] ++ m) := by simp [escT, h]
      rw [e, gT_cons h, ih]
      simp [addT, escT, h]
      omega
def retT (r : List Nat × Nat × Nat) : Value := .tuple #[.string (strN r.1), .int .i64 (r.2.1 : Nat), .int .i64 (r.2.2 : Nat)]
theorem drop_at {xs : List Nat} {i : Nat} (h : i < xs.length) : xs.drop i = xs[i] :: xs.drop (i + 1) := List.drop_eq_getElem_cons h

end Go.Proofs.YtnjmdldhgconmaaGreatDoor
