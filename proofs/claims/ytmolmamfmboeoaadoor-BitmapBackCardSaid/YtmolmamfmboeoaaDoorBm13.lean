/- Walks: ordkey.New; the document's Put. -/
import Derived.Test.YtmolmamfmboeoaaDoorBm12
import Derived.Test.YtmolmamfmboeoaaDoorBmR10
import Derived.Test.YtmolmamfmboeoaaDoorOrd3
import Derived.Test.YtmolmamfmboeoaaDoorOrdR2
import Derived.Test.YtmolmamfmboeoaaDoorShelf
namespace Go.Proofs.YtmolmamfmboeoaaDoor
open Go.RowKit
attribute [local go_sem ↓] exec_app semAt_app
attribute [local go_sem] isApp_lit appA appX

/-- bytes.Clone, at bytes as numbers. -/
theorem by_clone (a : Option Addr) (cap : Nat) (xs : List Nat) (w : World) (hat : NatsAt w .u8 a xs) (hl : xs.length ≤ 140737488355328) (hnil : a = none → xs = []) :
    Calls Tryd.prog 61 #[.slice a xs.length cap] w fun e w' => ∃ v, e = .returned v ∧ OwnN w' w.heap.size 5 .u8 v xs ∧ Same w w' := by
  cases a with
  | none =>
    obtain rfl := hnil rfl
    refine (Tryd.bytes_Clone_nil _ _ _).mono ?_
    rintro e w' ⟨rfl, rfl⟩
    exact ⟨_, rfl, World.ownsRow_nil _ _ _ _, Kept.refl _ _⟩
  | some x =>
    refine (Tryd.bytes_Clone_at x xs.length cap (xs.map fun n : Nat => (n : Int)) w (by simp) hl ?_).mono ?_
    · intro i hi
      rcases hat with rfl | ⟨b, off, e, hb, hc⟩
      · simp at hi
      · simp only [Option.some.injEq] at e
        subst e
        have := hc i _ (List.getElem?_eq_getElem hi)
        have e2 : (xs.map fun n : Nat => (n : Int)).getD i 0 = ((xs[i] : Nat) : Int) := by simp [hi]
        rw [e2]
        unfold Addr.add
        split
        · subst i; simpa using this
        · exact this
    · rintro e w' ⟨v', rfl, h1, _, h3⟩
      refine ⟨v', rfl, ?_, Kept.of_below h3⟩
      unfold OwnN
      rw [List.map_map] at h1
      exact h1

theorem ord_new (a : Option Addr) (cap : Nat) (xs : List Nat) (w : World) (hat : NatsAt w .u8 a xs) (hl : xs.length ≤ 140737488355328) (hnil : a = none → xs = []) :
    Calls Tryd.prog 51 #[.slice a xs.length cap] w fun e w' => ∃ g a' cap', e = .returned (.pointer (some ⟨g, 0, none⟩)) ∧ w.heap.size ≤ g ∧ (∀ x, a' = some x → w.heap.size ≤ x.block ∧ x.block < w'.heap.size) ∧ Rdr w' g a' cap' xs 0 ∧ Same w w' := by
  have CL := Lib.hid (by_clone a cap xs w hat hl hnil)
  clear hat
  generalize hL : xs.length = L at *
  have HL := Lib.hid hL; clear hL
  go_enter Tryd.func51, Tryd.ntmps51
  go_wp2_with fail
  refine CL.out.mono ?_
  rintro e w2 ⟨v, rfl, ho, k⟩
  obtain ⟨A, C, rfl, r1, r2, r3, r4, r5⟩ := ho.read
  have R1 := Lib.hid (And.intro r1 (And.intro r2 (And.intro r3 (And.intro r4 r5))))
  have K := Lib.hid k
  clear k ho r1 r2 r3 r4 r5
  go_wp2_with fail
  go_ret
  obtain ⟨r1, r2, r3, r4, r5⟩ := R1.out
  refine ⟨w2.heap.size, A, C, rfl, K.out.size, fun x hx => ⟨(r5 x hx).1, by have := (r5 x hx).2.1; simp; omega⟩, ⟨Blk.new _ _ _, r4.same ((Kept.refl _ w2).alloc _), r1, by unfold maxLen at r2; exact r2, fun x hx => ?_⟩, K.out.alloc _⟩
  have := (r5 x hx).2.1
  omega

theorem rle_emit (o : Bool) (r : Nat) (s : Nat) (ws : List Nat) (n : Nat) (h : n < s) (em : List Nat) (R : List Nat) (hR : em ++ rle o r ((bitsL s ws).drop n) = R) :
    (bitN ws n = o → em ++ rle o (r + 1) ((bitsL s ws).drop (n + 1)) = R) ∧ (bitN ws n = (!o) → (em ++ [r]) ++ rle (!o) 1 ((bitsL s ws).drop (n + 1)) = R) := by
  rw [bitsL_drop s ws n h, rle] at hR
  constructor
  · intro hb
    rw [if_pos hb] at hR
    exact hR
  · intro hb
    rw [if_neg (by rw [hb]; cases o <;> decide)] at hR
    rw [← hR]
    simp
theorem rle_done (o : Bool) (r : Nat) (s : Nat) (ws : List Nat) (em : List Nat) (R : List Nat) (hR : em ++ rle o r ((bitsL s ws).drop s) = R) : R = if r = 0 then em else em ++ [r] := by
  rw [List.drop_of_length_le (by rw [bitsL_len]; exact Nat.le_refl _), rle] at hR
  rw [← hR]
  split <;> simp

theorem rb_put_bad (s : Int) (a : Option Addr) (cap : Nat) (ws : List Nat) (w : World) (hw : Words ws) (hm : mapOK s ws = false) (hat : NatsAt w .u64 a ws) :
    Calls Tryd.prog 32 #[mapV s a ws.length cap] w fun e w' => e = .returned (.tuple #[.slice none 0 0, .int .i64 4]) ∧ Same w w' := by
  have CK := Lib.hid fun w' h => rb_check4 s a cap ws w' hw hm h
  have AT := Lib.hid hat
  clear hm hat
  generalize ws.length = L at *
  go_enter Tryd.func32, Tryd.ntmps32
  go_wp2_with fail
  refine Calls.fr1 ?_; intro W F' K' hz'; have F := Lib.hid F'; have K := Lib.hid K'; have hz := Lib.hid hz'; clear F' K' hz'; obtain ⟨p0, f0, -⟩ := F.out.rules; have z0 := F.out.1.lt
  refine (CK.out _ (AT.out.same K.out)).mono ?_
  rintro e w2 ⟨rfl, k⟩
  have K' := Lib.hid (K.out.trans k); have F' := Lib.hid (F.out.same k); clear K F p0 f0 z0 k; have K := K'; have F := F'; clear K' F'; obtain ⟨p0, f0, -⟩ := F.out.rules; have z0 := F.out.1.lt
  go_wp2_with fail
  go_ret2
  exact ⟨rfl, K.out⟩

set_option maxHeartbeats 800000 in
theorem rb_put_ok (s : Nat) (a : Option Addr) (cap : Nat) (ws : List Nat) (w : World) (hw : Words ws) (hm : mapOK s ws = true) (hat : NatsAt w .u64 a ws) :
    Calls Tryd.prog 32 #[mapV s a ws.length cap] w fun e w' => ∃ v, e = .returned (.tuple #[v, .int .i64 0]) ∧ OwnN w' w.heap.size 5 .u8 v (putMap s ws) ∧ Same w w' := by
  have p1 := mapOK_pos hm
  have p2 := mapOK_len hm
  rw [Int.toNat_natCast] at p2
  have hs : s ≤ 4096 := by omega
  have CK := Lib.hid fun w' h => rb_check0 s a cap ws w' hw hm h
  have BT := Lib.hid fun (i : Nat) (hi : i < s) w' h => rb_bit s a cap ws i w' h (by omega) (by omega)
  have PS := Lib.hid fun (n : Nat) w' h => rf_putSmall n w' h
  have AT := Lib.hid hat
  clear hm hat hw p1 p2
  generalize ws.length = L at *
  go_enter Tryd.func32, Tryd.ntmps32
  go_wp2_with fail
  refine Calls.fr1 ?_; intro W F' K' hz'; have F := Lib.hid F'; have K := Lib.hid K'; have hz := Lib.hid hz'; clear F' K' hz'; obtain ⟨p0, f0, -⟩ := F.out.rules; have z0 := F.out.1.lt
  refine (CK.out _ (AT.out.same K.out)).mono ?_
  rintro e w2 ⟨rfl, k⟩
  have K' := Lib.hid (K.out.trans k); have F' := Lib.hid (F.out.same k); clear K F p0 f0 z0 k; have K := K'; have F := F'; clear K' F'; obtain ⟨p0, f0, -⟩ := F.out.rules; have z0 := F.out.1.lt
  go_wp2_with fail
  refine (PS.out s _ (by omega)).mono ?_
  rintro e w3 ⟨v, rfl, ho, k⟩
  have O := Lib.hid (ho.base K.out.size)
  clear ho
  have K' := Lib.hid (K.out.trans k); have F' := Lib.hid (F.out.same k); clear K F p0 f0 z0 k; have K := K'; have F := F'; clear K' F'; obtain ⟨p0, f0, -⟩ := F.out.rules; have z0 := F.out.1.lt
  go_wp2_with fail
  go_loopw [5, 6, 7, 8] (fun out on run n wr => ∃ (em : List Nat) (o : Bool) (r i : Nat) (v : Value), i ≤ s ∧ r ≤ i ∧ em.length ≤ i ∧ out = v ∧ on = .bool o ∧ run = .int .i64 (r : Nat) ∧ n = .int .i64 (i : Nat) ∧
      Hid (em ++ rle o r ((bitsL s ws).drop i) = runsL s ws) ∧ Hid (OwnN wr w.heap.size 5 .u8 v (putSmall s ++ putRuns em)) ∧ Hid (Fr wr [(w.heap.size, #[.int .i64 (s : Nat), .slice a L cap], 24)]) ∧ Hid (Same w wr)) (fun _ _ _ n _ => s - (intOf n).toNat)
  case atStart => exact ⟨[], false, 0, 0, _, Nat.zero_le _, Nat.le_refl _, Nat.le_refl _, rfl, rfl, rfl, rfl, rfl, by show OwnN _ _ _ _ _ _; simpa [putRuns] using O.out, F.out, K.out⟩
  case round =>
    obtain ⟨em, o, r, i, v, hi, hr, he, rfl, rfl, rfl, rfl, hR, O, F, K⟩ := hrel
    obtain ⟨V, l, C, rfl, -⟩ := O.out.rd
    clear p0 f0 z0
    obtain ⟨p0, f0, -⟩ := F.out.rules; have z0 := F.out.1.lt
    by_cases hlt : i < s
    · have hlt' : (i : Int) < (s : Int) := by omega
      have RE := Lib.hid (rle_emit o r s ws i hlt em _ hR.out)
      have BTi := Lib.hid (BT.out i hlt)
      by_cases hb : bitN ws i = o
      · have RE1 := Lib.hid (RE.out.1 hb)
        have hbb : (o != o) = false := by simp
        rw [hb] at BTi
        clear hb RE BT CK PS
        go_wp2_with fail
        refine (BTi.out _ (AT.out.same K.out)).mono ?_
        rintro e w4 ⟨rfl, k⟩
        have O4 := Lib.hid (O.out.same k)
        have K' := Lib.hid (K.out.trans k); have F' := Lib.hid (F.out.same k); clear K F p0 f0 z0 k; have K := K'; have F := F'; clear K' F'; obtain ⟨p0, f0, -⟩ := F.out.rules; have z0 := F.out.1.lt
        go_wp2_with fail
        go_roundw
        case rel => exact ⟨em, o, r + 1, i + 1, _, by omega, by omega, by omega, rfl, rfl, by go_num, by go_num, RE1.out, O4.out, F.out, K.out⟩
        case measure => simp [intOf]; omega
      · have hb' : bitN ws i = !o := by revert hb; cases bitN ws i <;> cases o <;> simp
        have RE1 := Lib.hid (RE.out.2 hb')
        have hbb : ((!o) != o) = true := by cases o <;> rfl
        rw [hb'] at BTi
        have h1 := putSmall_len s
        have h2 := putRuns_len em
        have h3 := putSmall_len r
        clear hb hb' RE BT CK
        go_wp2_with fail
        refine (BTi.out _ (AT.out.same K.out)).mono ?_
        rintro e w4 ⟨rfl, k⟩
        have O4 := Lib.hid (O.out.same k)
        have K' := Lib.hid (K.out.trans k); have F' := Lib.hid (F.out.same k); clear K F p0 f0 z0 k; have K := K'; have F := F'; clear K' F'; obtain ⟨p0, f0, -⟩ := F.out.rules; have z0 := F.out.1.lt
        go_wp2_with fail
        refine (PS.out r _ (by omega)).mono ?_
        rintro e w5 ⟨v5, rfl, ho5, k⟩
        have O5 := Lib.hid (OwnN.same O4.out k)
        obtain ⟨V5, l5, C5, rfl, hl5, hn5, ha5, -⟩ := ho5.rd
        have K' := Lib.hid (K.out.trans k); have F' := Lib.hid (F.out.same k); clear K F p0 f0 z0 k; have K := K'; have F := F'; clear K' F'; obtain ⟨p0, f0, -⟩ := F.out.rules; have z0 := F.out.1.lt
        obtain ⟨v6, w6, hrun, h6, g6, b6⟩ := app_facts (P := Tryd.prog) w5 52 52 w.heap.size 5 .u8 1 Tryd.underlying52 info8 (by omega) _ (putSmall s ++ putRuns em) O5.out V5 l5 C5 (putSmall r) hl5.out ha5.out hn5.out (by simp; omega) K.out.size
        obtain ⟨V6, l6, C6, rfl, -⟩ := h6.rd
        obtain ⟨aok, aV, aW⟩ := app_of hrun
        have F6 := Lib.hid (F.out.grown O5.out g6 (by simp))
        have K6 := Lib.hid (K.out.grownOwn O5.out g6)
        have O6 : Hid (OwnN w6 w.heap.size 5 .u8 (.slice V6 l6 C6) (putSmall s ++ putRuns (em ++ [r]))) := by
          show OwnN _ _ _ _ _ _
          rw [putRuns_snoc, ← List.append_assoc]
          exact h6
        clear hrun h6 g6 b6 ho5 F K p0 f0 z0
        have F := F6; have K := K6; clear F6 K6
        obtain ⟨p0, f0, -⟩ := F.out.rules; have z0 := F.out.1.lt
        go_wp2_with fail
        go_roundw
        case rel => exact ⟨em ++ [r], !o, 1, i + 1, _, by omega, by omega, by simp; omega, rfl, rfl, by go_num, by go_num, RE1.out, O6.out, F.out, K.out⟩
        case measure => simp [intOf]; omega
    · have e : s = i := by omega
      subst e
      have RD := Lib.hid (rle_done o r s ws em _ hR.out)
      have h1 := putSmall_len s
      have h2 := putRuns_len em
      have h3 := putSmall_len r
      by_cases hr0 : r = 0
      · have hrr : ¬ (0 : Int) < (r : Int) := by omega
        have RD1 : Hid (runsL s ws = em) := by show _ = _; rw [RD.out, if_pos hr0]
        clear hr0
        go_wp2_with fail
        go_ret2
        exact ⟨_, rfl, by rw [putMap, RD1.out]; exact O.out, K.out⟩
      · have hrr : (0 : Int) < (r : Int) := by omega
        have RD1 : Hid (runsL s ws = em ++ [r]) := by show _ = _; rw [RD.out, if_neg hr0]
        clear hr0
        go_wp2_with fail
        refine (PS.out r _ (by omega)).mono ?_
        rintro e w5 ⟨v5, rfl, ho5, k⟩
        have O5 := Lib.hid (OwnN.same O.out k)
        obtain ⟨V5, l5, C5, rfl, hl5, hn5, ha5, -⟩ := ho5.rd
        have K' := Lib.hid (K.out.trans k); have F' := Lib.hid (F.out.same k); clear K F p0 f0 z0 k; have K := K'; have F := F'; clear K' F'; obtain ⟨p0, f0, -⟩ := F.out.rules; have z0 := F.out.1.lt
        obtain ⟨v6, w6, hrun, h6, g6, b6⟩ := app_facts (P := Tryd.prog) w5 52 52 w.heap.size 5 .u8 1 Tryd.underlying52 info8 (by omega) _ (putSmall s ++ putRuns em) O5.out V5 l5 C5 (putSmall r) hl5.out ha5.out hn5.out (by simp; omega) K.out.size
        obtain ⟨V6, l6, C6, rfl, -⟩ := h6.rd
        obtain ⟨aok, aV, aW⟩ := app_of hrun
        have F6 := Lib.hid (F.out.grown O5.out g6 (by simp))
        have K6 := Lib.hid (K.out.grownOwn O5.out g6)
        have O6 : Hid (OwnN w6 w.heap.size 5 .u8 (.slice V6 l6 C6) (putSmall s ++ putRuns (em ++ [r]))) := by
          show OwnN _ _ _ _ _ _
          rw [putRuns_snoc, ← List.append_assoc]
          exact h6
        clear hrun h6 g6 b6 ho5 F K p0 f0 z0
        have F := F6; have K := K6; clear F6 K6
        obtain ⟨p0, f0, -⟩ := F.out.rules; have z0 := F.out.1.lt
        go_wp2_with fail
        go_ret2
        exact ⟨_, rfl, by rw [putMap, RD1.out]; exact O6.out, K.out⟩

theorem rb_put (s : Int) (a : Option Addr) (cap : Nat) (ws : List Nat) (w : World) (hw : Words ws) (hat : NatsAt w .u64 a ws) :
    Calls Tryd.prog 32 #[mapV s a ws.length cap] w fun e w' => ∃ v, e = .returned (.tuple #[v, .int .i64 (if mapOK s ws then 0 else 4)]) ∧ OwnN w' w.heap.size 5 .u8 v (if mapOK s ws then putMap s.toNat ws else []) ∧ Same w w' := by
  cases hm : mapOK s ws
  · refine (rb_put_bad s a cap ws w hw hm hat).mono ?_
    rintro e w' ⟨rfl, k⟩
    exact ⟨_, rfl, World.ownsRow_nil _ _ _ _, k⟩
  · obtain ⟨S, rfl⟩ := Int.eq_ofNat_of_zero_le (mapOK_pos hm).1
    exact rb_put_ok S a cap ws w hw hm hat

end Go.Proofs.YtmolmamfmboeoaaDoor
