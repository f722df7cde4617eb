/- Walks over the document's maps: Get. -/
import Derived.Test.YtmolmamfmboeoaaDoorBm14
import Derived.Test.YtmolmamfmboeoaaDoorBmR7
import Derived.Test.YtmolmamfmboeoaaDoorBmR10
import Derived.Lib.MinMax
namespace Go.Proofs.YtmolmamfmboeoaaDoor
open Go.RowKit

theorem rdSmall_prog {xs : List Nat} : 2 * (rdSmall xs 0).1.length + (if (rdSmall xs 0).2.1 = 0 then 1 else 0) < 2 * xs.length + 1 := by
  unfold rdSmall
  rw [if_neg (by simp)]
  split
  · rename_i h; show 2 * xs.length + 0 < _; omega
  · rename_i h
    have h' : (getSmall xs).2.2 = 0 := Decidable.of_not_not h
    have := getSmall_ok xs h'
    split
    · simp
    · simp; omega

/-- A reader's state, read off the world: for the loop's measure. -/
def rdLen2 (w : World) (g : Nat) : Nat :=
  match w.cell? ⟨g, 0, none⟩, w.cell? ⟨g, 1, none⟩ with
  | some (.slice _ n _), some (.int _ e) => 2 * n + (if e.toNat = 0 then 1 else 0)
  | _, _ => 0
theorem rdLen2_of {w : World} {g : Nat} {a : Option Addr} {n cap er : Nat} {t : TypeId} (h : Blk w g #[.slice a n cap, .int .i64 (er : Nat)] t) : rdLen2 w g = 2 * n + (if er = 0 then 1 else 0) := by
  have h0 := h.cell 0 (v := .slice a n cap) rfl
  have h1 := h.cell 1 (v := .int .i64 (er : Nat)) rfl
  unfold rdLen2
  rw [h0, h1]
  simp

structure DInv (b : List Nat) (s : Nat) (xs : List Nat) (er f : Nat) (o : Bool) (ws : List Nat) : Prop where
  le : f ≤ s + 4097
  ok : mapOK s ws = true
  words : Words ws
  cons : Cons b s xs er f o ws
theorem dinv_start {b : List Nat} (h : (rdSmall b 0).2.2 ≤ 4096) : DInv b (rdSmall b 0).2.2 (rdSmall b 0).1 (rdSmall b 0).2.1 0 false (List.replicate (((rdSmall b 0).2.2 + 63) / 64) 0) :=
  ⟨Nat.zero_le _, (ginv_start h).ok, (ginv_start h).words, cons_start b⟩
theorem gmid_more {s : Nat} {ws : List Nat} {f i j : Nat} {zs : List Nat} {o : Bool} (h : GMid s ws f i o zs) (e : o = false ∨ min s i = min s j) : GMid s ws f j o zs := by
  refine ⟨h.len, h.words, fun n hn => ?_⟩
  rw [h.bits n hn]
  rcases e with rfl | e
  · simp
  · rw [e]
theorem gmid_ok {s : Nat} {ws : List Nat} {f i : Nat} {zs : List Nat} {o : Bool} (hw : Words ws) (hm : mapOK s ws = true) (h : GMid s ws f i o zs) : mapOK s zs = true := by
  have ok := (mapOK_iff hw).1 hm
  refine (mapOK_iff h.words).2 ⟨ok.1, by rw [h.len]; exact ok.2.1, fun n h1 h2 => ?_⟩
  rw [h.len] at h2
  rw [h.bits n h2, ok.2.2 n h1 h2]
  have : ¬ n < min s i := by omega
  simp [this]
theorem dinv_step {b : List Nat} {s : Nat} {xs : List Nat} {f : Nat} {o : Bool} {ws zs : List Nat} (h : DInv b s xs 0 f o ws) (hx : xs ≠ []) (hf : f ≤ s) (hm : GMid s ws f (f + (rdSmall xs 0).2.2) o zs) :
    DInv b s (rdSmall xs 0).1 (rdSmall xs 0).2.1 (f + min (rdSmall xs 0).2.2 4097) (!o) zs := by
  refine ⟨by omega, gmid_ok h.words h.ok hm, hm.words, ?_⟩
  have c := cons_step h.cons hx hm.len hm.bits
  intro s0 ws0 q1 q2 q3
  obtain ⟨T, t1, t2, _, t4, _⟩ := cons_more h.cons hx q1 q2 q3
  have hs := mapOK_pos h.ok
  have e : min (rdSmall xs 0).2.2 4097 = (rdSmall xs 0).2.2 := by rw [t4]; simp only; omega
  rw [e]
  exact c s0 ws0 q1 q2 q3
theorem dcons_done {b : List Nat} {s : Nat} {xs : List Nat} {er f : Nat} {o : Bool} {ws : List Nat} (h : DInv b s xs er f o ws) (hx : xs = [] ∨ er ≠ 0 ∨ s < f) (hne : putMap s ws ≠ b) :
    ∀ s0 ws0, Words ws0 → mapOK (s0 : Nat) ws0 = true → putMap s0 ws0 ≠ b := by
  intro s0 ws0 q1 q2 q3
  obtain ⟨_, e2, e3, _⟩ := h.cons s0 ws0 q1 q2 q3
  have hx0 : xs = [] := by rcases hx with h | h | h; exact h; omega; omega
  subst hx0
  exact cons_done h.cons h.words (by have := ((mapOK_iff h.words).1 h.ok).2.1; exact this) hne s0 ws0 q1 q2 q3

set_option maxRecDepth 100000 in
set_option maxHeartbeats 1000000 in
theorem rb_get (a : Option Addr) (l cap : Nat) (b : List Nat) (w : World) (hl : l = b.length) (hb : Bytes b) (hc : l ≤ cap) (hcm : cap ≤ 9223372036854775807) (hat : NatsAt w .u8 a b) :
    Calls Tryd.prog 34 #[.slice a l cap] w (GotMap b w) := by
  have S0 := Lib.hid fun w' (h : NatsAt w' .u8 a b) => hl ▸ rf_small a cap b 0 w' hb h (by omega) hcm
  have SM := Lib.hid fun a' cap' xs er w' hb hat h1 h2 => rf_small a' cap' xs er w' hb hat h1 h2
  have AT := Lib.hid hat; have HL := Lib.hid hl; have HB := Lib.hid hb
  have gs := Lib.hid (cons_start b)
  have gn := Lib.hid (fun h => dinv_start (b := b) h)
  have gx := Lib.hid (fun h => cons_size (b := b) h)
  have bx := Lib.hid (rdSmall_bytes (er := 0) HB.out)
  clear hat hl hb
  obtain ⟨x0, e0, s, hrd⟩ : ∃ x0 e0 s, rdSmall b 0 = (x0, e0, s) := ⟨_, _, _, rfl⟩
  rw [hrd] at S0 gs gn gx bx
  clear hrd
  go_enter Tryd.func34, Tryd.ntmps34
  go_wp2_with fail
  refine Calls.fr1 ?_; intro W F' K' hz'; have F := Lib.hid F'; have K := Lib.hid K'; have hz := Lib.hid hz'; clear F' K' hz'; obtain ⟨p0, f0, -⟩ := F.out.rules; have z0 := F.out.1.lt
  refine (S0.out _ (AT.out.same K.out)).mono ?_
  rintro e w2 ⟨a2, c2, rfl, hat2, hc2, hcm2, -, k⟩
  have A2 := Lib.hid hat2
  clear hat2
  have K' := Lib.hid (K.out.trans k); have F' := Lib.hid (F.out.same k); clear K F p0 f0 z0 k; have K := K'; have F := F'; clear K' F'; obtain ⟨p0, f0, -⟩ := F.out.rules; have z0 := F.out.1.lt
  obtain ⟨lx, hlx⟩ : ∃ lx, x0.length = lx := ⟨_, rfl⟩
  rw [hlx] at hc2 ⊢
  have HX := Lib.hid hlx
  clear hlx
  go_wp2_with fail
  have F3 := Lib.hid (show Fr (w2.alloc (.cells #[.slice a2 lx c2, .int .i64 (e0 : Nat)] 81)) [(w2.heap.size, #[.slice a2 lx c2, .int .i64 (e0 : Nat)], 81), (w.heap.size, #[.int .i64 0, .slice none 0 0], 24)] from ⟨Blk.new w2 _ _, F.out.same ((Kept.refl _ w2).alloc _)⟩)
  have K3 := Lib.hid (K.out.alloc (.cells #[.slice a2 lx c2, .int .i64 (e0 : Nat)] 81))
  have A3 := Lib.hid (A2.out.same ((Kept.refl (fun _ => False) w2).alloc (.cells #[.slice a2 lx c2, .int .i64 (e0 : Nat)] 81)))
  have hz5 : w.heap.size < w2.heap.size := z0
  clear F K A2 p0 f0 z0
  have F := F3; have K := K3; clear F3 K3
  generalize w2.alloc (.cells #[.slice a2 lx c2, .int .i64 (e0 : Nat)] 81) = w3 at *
  obtain ⟨p0, f0, p1, f1, -⟩ := F.out.rules; have z0 := F.out.1.lt; have z1 := F.out.2.1.lt
  by_cases h4 : s ≤ 4096
  · have gi := Lib.hid (gn.out h4)
    clear gn gx gs
    refine (rb_new_ok s w3 h4).mono ?_
    rintro e w4 ⟨g4, rfl, ho, k⟩
    have V4 := Lib.hid ho.nats
    have A4 := Lib.hid (A3.out.same k)
    clear ho A3
    have K' := Lib.hid (K.out.trans k); have F' := Lib.hid (F.out.same k); clear K F p0 f0 z0 p1 f1 z1 k; have K := K'; have F := F'; clear K' F'; obtain ⟨p0, f0, p1, f1, -⟩ := F.out.rules; have z0 := F.out.1.lt; have z1 := F.out.2.1.lt
    go_wp2_with fail
    have hz4 : w2.heap.size < w4.heap.size := F.out.1.lt
    go_loopw [8, 9, 10, 11] (fun on sn sr si wr => ∃ (xs : List Nat) (er f : Nat) (o : Bool) (zs : List Nat) (a' : Option Addr) (lx c' : Nat) (v : Option Addr) (c : Nat) (u10 u11 : Value), on = .bool o ∧ sn = .int .i64 (f : Nat) ∧ sr = u10 ∧ si = u11 ∧ lx ≤ c' ∧ c' ≤ 9223372036854775807 ∧
        Hid (xs.length = lx) ∧ Hid (DInv b s xs er f o zs) ∧ Hid (NatsAt wr .u8 a' xs) ∧ Hid (NatsAt wr .u64 v zs) ∧ Hid (v = none → c = 0) ∧
        Hid (Fr wr [(w4.heap.size, #[.int .i64 (s : Nat), .slice v ((s + 63) / 64) c], 24), (w2.heap.size, #[.slice a' lx c', .int .i64 (er : Nat)], 81), (w.heap.size, #[.int .i64 0, .slice none 0 0], 24)]) ∧ Hid (Same w wr) ∧ Hid (Bytes xs))
      (fun _ _ _ _ wr => rdLen2 wr w2.heap.size)
    case atStart => exact ⟨x0, e0, 0, false, _, a2, lx, c2, some ⟨g4, 0, none⟩, (s + 63) / 64, _, _, rfl, rfl, rfl, rfl, hc2, hcm2, HX.out, gi.out, A4.out.same ((Kept.refl _ w4).alloc _), V4.out.same ((Kept.refl _ w4).alloc _), (fun h => by cases h), ⟨Blk.new w4 _ _, F.out.same ((Kept.refl _ w4).alloc _)⟩, K.out.alloc _, bx.out⟩
    case round =>
      obtain ⟨xs, er, f, o, zs, a', ly, c', v, c, u10, u11, rfl, rfl, rfl, rfl, q1, q2, LX, D, A, V, NV, F, K, B⟩ := hrel
      clear p0 f0 z0 p1 f1 z1
      obtain ⟨p0, f0, p1, f1, p2, f2, -⟩ := F.out.rules; have z0 := F.out.1.lt; have z1 := F.out.2.1.lt; have z2 := F.out.2.2.1.lt
      have h5 := D.out.le
      by_cases hgo : 0 < ly ∧ er = 0 ∧ f ≤ s
      · obtain ⟨g1, rfl, g3⟩ := hgo
        have hx : xs ≠ [] := by intro h; subst h; have := LX.out; simp at this; omega
        obtain ⟨ys, er', N, hrd⟩ : ∃ ys er' N, rdSmall xs 0 = (ys, er', N) := ⟨_, _, _, rfl⟩
        obtain ⟨l6, hl6⟩ : ∃ l6, ys.length = l6 := ⟨_, rfl⟩
        have SMk := SM.out a' c' xs 0 wr B.out A.out (by rw [LX.out]; exact q1) q2
        have le1 := rdSmall_le xs 0
        have by1 := Lib.hid (rdSmall_bytes (er := 0) B.out)
        have pg := rdSmall_prog (xs := xs)
        have DS := Lib.hid (fun us h => dinv_step (zs := us) D.out hx g3 h)
        rw [LX.out, hrd] at SMk
        rw [hrd] at le1 by1 DS pg
        simp only [hl6] at SMk le1 pg
        have L6 := Lib.hid hl6
        have PG := Lib.hid pg
        have DW := Lib.hid D.out.words
        have DO := Lib.hid D.out.ok
        have ML := Lib.hid (rdLen2_of F.out.2.1)
        have LXX := Lib.hid LX.out
        have SMk := Lib.hid SMk
        clear hx hrd hl6 pg
        go_wp2_with fail
        refine SMk.out.mono ?_
        rintro e w5 ⟨a6, c6, rfl, hat6, hc6, hcm6, -, k⟩
        have V5 := Lib.hid (V.out.same k)
        have A5 := Lib.hid hat6
        clear hat6 SMk A V
        have K' := Lib.hid (K.out.trans k); have F' := Lib.hid (F.out.same k); clear K F p0 f0 z0 p1 f1 z1 p2 f2 z2 k; have K := K'; have F := F'; clear K' F'; obtain ⟨p0, f0, p1, f1, p2, f2, -⟩ := F.out.rules; have z0 := F.out.1.lt; have z1 := F.out.2.1.lt; have z2 := F.out.2.2.1.lt
        go_wp2_with fail
        have KG := (Kept.refl (fun j => j = w2.heap.size) w5).setG 0 (.slice a6 l6 c6) |>.setG 1 (.int .i64 (er' : Nat))
        have F6 := Lib.hid (show Fr ((w5.setCell ⟨w2.heap.size, 0, none⟩ (.slice a6 l6 c6)).setCell ⟨w2.heap.size, 1, none⟩ (.int .i64 (er' : Nat))) [(w4.heap.size, #[.int .i64 (s : Nat), .slice v ((s + 63) / 64) c], 24), (w2.heap.size, #[.slice a6 l6 c6, .int .i64 (er' : Nat)], 81), (w.heap.size, #[.int .i64 0, .slice none 0 0], 24)] from
          ⟨F.out.1.kept KG (by omega), (F.out.2.1.set 0 _).set 1 _, F.out.2.2.1.kept KG (by omega), trivial⟩)
        have V6 := Lib.hid (V5.out.apart F.out.2.1 KG (rdr_none _ _ _ (by decide) (by simp)))
        have A6 := Lib.hid (A5.out.apart F.out.2.1 KG (rdr_none _ _ _ (by decide) (by simp)))
        have K6 := Lib.hid (K.out.turn KG (by omega))
        clear V5 A5 F K p0 f0 z0 p1 f1 z1 p2 f2 z2 KG
        generalize (w5.setCell ⟨w2.heap.size, 0, none⟩ (.slice a6 l6 c6)).setCell ⟨w2.heap.size, 1, none⟩ (.int .i64 (er' : Nat)) = w6 at *
        go_loopw [11] (fun si wr2 => ∃ (i : Nat) (us : List Nat) (v : Option Addr) (c : Nat), si = .int .i64 (i : Nat) ∧ i ≤ N ∧ Hid (GMid s zs f (f + i) o us) ∧ Hid (NatsAt wr2 .u64 v us) ∧ Hid (v = none → c = 0) ∧
            Hid (Fr wr2 [(w4.heap.size, #[.int .i64 (s : Nat), .slice v ((s + 63) / 64) c], 24), (w2.heap.size, #[.slice a6 l6 c6, .int .i64 (er' : Nat)], 81), (w.heap.size, #[.int .i64 0, .slice none 0 0], 24)]) ∧ Hid (NatsAt wr2 .u8 a6 ys) ∧ Hid (Same w wr2))
          (fun si _ => N - (intOf si).toNat)
        case atStart => exact ⟨0, zs, v, c, rfl, Nat.zero_le _, gmid_start DW.out, V6.out, NV.out, F6.out, A6.out, K6.out⟩
        case round =>
          obtain ⟨i, us, v, c, rfl, hi, M, V, NN, F, A, K⟩ := hrel
          obtain ⟨p0, f0, p1, f1, p2, f2, -⟩ := F.out.rules; have z0 := F.out.1.lt; have z1 := F.out.2.1.lt; have z2 := F.out.2.2.1.lt
          have UO := Lib.hid (gmid_ok DW.out DO.out M.out)
          by_cases hgo : i < N ∧ f + i < s ∧ o = true
          · obtain ⟨g1, g2, rfl⟩ := hgo
            have g1' : (i : Int) < (N : Int) := by omega
            have g2' : (f : Int) + (i : Int) < (s : Int) := by omega
            have ST : Hid (∀ w', NatsAt w' .u64 v us → Calls Tryd.prog 13 #[mapV s v ((s + 63) / 64) c, .int .i64 ((f : Int) + (i : Int)), .bool true] w' fun e w'' => ∃ v' c' us', e = .returned (mapV s v' ((s + 63) / 64) c') ∧ NatsAt w'' .u64 v' us' ∧ (v' = none → c' = 0) ∧ GMid s zs f (f + (i + 1)) true us' ∧ Same w' w'') := by
              intro w' h
              have hul : us.length = (s + 63) / 64 := ((mapOK_iff M.out.words).1 UO.out).2.1
              have := rb_set s v c us ((f : Int) + (i : Int)) true w' M.out.words NN.out h
              rw [hul] at this
              refine this.mono ?_
              rintro e w'' ⟨v', c', rfl, r1, r2, r3⟩
              have hin : inB s us ((f : Int) + (i : Int)) = true := by
                simp only [inB, UO.out, Bool.true_and, Bool.and_eq_true, decide_eq_true_eq]
                omega
              have e1 : setN s us ((f : Int) + (i : Int)) true = putN us (f + i) true := by
                simp only [setN, hin, if_true]
                congr 1
              rw [e1] at r1 ⊢
              refine ⟨v', c', _, by rw [putN_length, hul], r1, r2, ?_, r3⟩
              have := gmid_step M.out (by omega) g2 ((mapOK_iff DW.out).1 DO.out).2.1
              rw [Nat.add_assoc] at this
              exact this
            go_wp2_with fail
            refine (ST.out _ V.out).mono ?_
            rintro e w7 ⟨v', c', us', rfl, hv', hn', hm', k⟩
            have V7 := Lib.hid hv'; have N7 := Lib.hid hn'; have M7 := Lib.hid hm'
            have A7 := Lib.hid (A.out.same k)
            clear hv' hn' hm'
            have K' := Lib.hid (K.out.trans k); have F' := Lib.hid (F.out.same k); clear K F p0 f0 z0 p1 f1 z1 p2 f2 z2 k; have K := K'; have F := F'; clear K' F'; obtain ⟨p0, f0, p1, f1, p2, f2, -⟩ := F.out.rules; have z0 := F.out.1.lt; have z1 := F.out.2.1.lt; have z2 := F.out.2.2.1.lt
            go_wp2_with fail
            go_roundw
            case rel =>
              have KG := (Kept.refl (fun j => j = w4.heap.size) w7).setG 0 (.int .i64 (s : Nat)) |>.setG 1 (.slice v' ((s + 63) / 64) c')
              refine ⟨i + 1, us', v', c', by go_num, by omega, M7.out, V7.out.apart F.out.1 KG (map_none _ _ (by simp)), N7.out, ⟨(F.out.1.set 0 _).set 1 _, F.out.2.1.kept KG (by omega), F.out.2.2.1.kept KG (by omega), trivial⟩, A7.out.apart F.out.1 KG (map_none8 _ _ (by simp)), K.out.turn KG (by omega)⟩
            case measure => simp [intOf]; omega
          · have GX : Hid (GMid s zs f (f + N) o us) := by
              refine gmid_more M.out ?_
              by_cases ho : o = true
              · right
                have : ¬ (i < N ∧ f + i < s) := fun h => hgo ⟨h.1, h.2, ho⟩
                omega
              · left; simpa using ho
            have DX := Lib.hid (DS.out us GX.out)
            have fin : ∀ wz : World, wz = wr → True := fun _ _ => trivial
            by_cases c1 : i < N
            · by_cases c2 : f + i < s
              · have ho : o = false := by cases o; rfl; exact absurd ⟨c1, c2, rfl⟩ hgo
                subst ho
                have c1' : (i : Int) < (N : Int) := by omega
                have c2' : (f : Int) + (i : Int) < (s : Int) := by omega
                clear hgo fin
                go_wp2_with fail
                go_roundw
                case rel => exact ⟨ys, er', f + min N 4097, !false, us, a6, l6, c6, v, c, _, _, rfl, by congr 1; omega, rfl, rfl, hc6, hcm6, L6.out, DX.out, A.out, V.out, NN.out, F.out, K.out, by1.out⟩
                case measure =>
                  rw [ML.out, rdLen2_of F.out.2.1]
                  have p1 := PG.out
                  have p2 := LXX.out
                  rw [p2] at p1
                  simpa using p1
              · have c1' : (i : Int) < (N : Int) := by omega
                have c2' : ¬ (f : Int) + (i : Int) < (s : Int) := by omega
                clear hgo fin
                go_wp2_with fail
                go_roundw
                case rel => exact ⟨ys, er', f + min N 4097, !o, us, a6, l6, c6, v, c, _, _, rfl, by congr 1; omega, rfl, rfl, hc6, hcm6, L6.out, DX.out, A.out, V.out, NN.out, F.out, K.out, by1.out⟩
                case measure =>
                  rw [ML.out, rdLen2_of F.out.2.1]
                  have p1 := PG.out
                  have p2 := LXX.out
                  rw [p2] at p1
                  simpa using p1
            · have c1' : ¬ (i : Int) < (N : Int) := by omega
              clear hgo fin
              go_wp2_with fail
              go_roundw
              case rel => exact ⟨ys, er', f + min N 4097, !o, us, a6, l6, c6, v, c, _, _, rfl, by congr 1; omega, rfl, rfl, hc6, hcm6, L6.out, DX.out, A.out, V.out, NN.out, F.out, K.out, by1.out⟩
              case measure =>
                rw [ML.out, rdLen2_of F.out.2.1]
                have p1 := PG.out
                have p2 := LXX.out
                rw [p2] at p1
                simpa using p1
      · by_cases g1 : 0 < ly
        · by_cases g2 : er = 0
          · subst g2
            have g3 : s < f := by omega
            go_wp2_with fail
            have PU := rb_put (s : Nat) v c zs wr D.out.words V.out
            have LN : Hid (zs.length = (s + 63) / 64) := ((mapOK_iff D.out.words).1 D.out.ok).2.1
            rw [LN.out, D.out.ok] at PU
            simp only [if_true, Int.toNat_natCast] at PU
            refine PU.mono ?_
            clear PU
            rintro e w5 ⟨vv, rfl, ho, k⟩
            obtain ⟨V5, lv, C5, rfl, hlv, hnv, hav, -⟩ := ho.rd
            have V6 := Lib.hid (V.out.same k)
            have K' := Lib.hid (K.out.trans k); have F' := Lib.hid (F.out.same k); clear K F p0 f0 z0 p1 f1 z1 p2 f2 z2 k; have K := K'; have F := F'; clear K' F'; obtain ⟨p0, f0, p1, f1, p2, f2, -⟩ := F.out.rules; have z0 := F.out.1.lt; have z1 := F.out.2.1.lt; have z2 := F.out.2.2.1.lt
            have hc1 := conv_str V5 lv C5 (putMap s zs) w5 hlv.out hav.out
            have hc2 := conv_str a l cap b w5 HL.out (AT.out.same K.out)
            by_cases heq : putMap s zs = b
            · have SP : Hid (GetSpec b (some (s, zs))) := ⟨D.out.ok, D.out.words, heq⟩
              have hne : ((strN (putMap s zs)).toList == (strN b).toList) = true := by rw [str_beq (putMap_bytes s zs) HB.out]; exact decide_eq_true heq
              clear heq
              go_wp2_with fail
              have p := (F.out.2.2.1.set 0 (.int .i64 (s : Nat))).set 1 (.slice v ((s + 63) / 64) c)
              have KG := (Kept.refl (fun j => j = w.heap.size) w5).setG 0 (.int .i64 (s : Nat)) |>.setG 1 (.slice v ((s + 63) / 64) c)
              refine bodyPost_ret (results_two_tmp rfl _ _ _ _ #[.int .i64 (s : Nat), .slice v ((s + 63) / 64) c] _ rfl p Tryd.underlying24 rfl (by kernel_rfl)) rfl ?_
              exact ⟨some (s, zs), SP.out, K.out.turn KG (Nat.le_refl _), v, c, by rw [LN.out]; rfl, V6.out.apart F.out.2.2.1 KG (map_none _ _ (by simp)), NV.out⟩
            · have NN := Lib.hid (dcons_done D.out (.inr (.inr g3)) heq)
              have hne : ((strN (putMap s zs)).toList == (strN b).toList) = false := by rw [str_beq (putMap_bytes s zs) HB.out]; exact decide_eq_false heq
              clear heq
              go_wp2_with fail
              have p := (F.out.2.2.1.set 0 (.int .i64 0)).set 1 (.slice none 0 0)
              refine bodyPost_ret (results_two_tmp rfl _ _ _ _ #[.int .i64 0, .slice none 0 0] _ rfl p Tryd.underlying24 rfl (by kernel_rfl)) rfl (got_none NN.out ?_)
              have k := K.out
              (repeat (first | exact Kept.refl _ _ | with_reducible assumption | with_reducible refine Kept.alloc ?_ _ | with_reducible refine Kept.drew ?_ | with_reducible refine Kept.drewN ?_ _ | refine Kept.setNew ?_ (by dsimp only; omega) _ | refine Kept.trans ?_ (by with_reducible assumption)))
          · have b2 : ((er : Int) == 0) = false := by rw [beq_eq_false_iff_ne]; omega
            go_wp2_with fail
            have PU := rb_put (s : Nat) v c zs wr D.out.words V.out
            have LN : Hid (zs.length = (s + 63) / 64) := ((mapOK_iff D.out.words).1 D.out.ok).2.1
            rw [LN.out, D.out.ok] at PU
            simp only [if_true, Int.toNat_natCast] at PU
            refine PU.mono ?_
            clear PU
            rintro e w5 ⟨vv, rfl, ho, k⟩
            obtain ⟨V5, lv, C5, rfl, hlv, hnv, hav, -⟩ := ho.rd
            have V6 := Lib.hid (V.out.same k)
            have K' := Lib.hid (K.out.trans k); have F' := Lib.hid (F.out.same k); clear K F p0 f0 z0 p1 f1 z1 p2 f2 z2 k; have K := K'; have F := F'; clear K' F'; obtain ⟨p0, f0, p1, f1, p2, f2, -⟩ := F.out.rules; have z0 := F.out.1.lt; have z1 := F.out.2.1.lt; have z2 := F.out.2.2.1.lt
            have hc1 := conv_str V5 lv C5 (putMap s zs) w5 hlv.out hav.out
            have hc2 := conv_str a l cap b w5 HL.out (AT.out.same K.out)
            by_cases heq : putMap s zs = b
            · have SP : Hid (GetSpec b (some (s, zs))) := ⟨D.out.ok, D.out.words, heq⟩
              have hne : ((strN (putMap s zs)).toList == (strN b).toList) = true := by rw [str_beq (putMap_bytes s zs) HB.out]; exact decide_eq_true heq
              clear heq
              go_wp2_with fail
              have p := (F.out.2.2.1.set 0 (.int .i64 (s : Nat))).set 1 (.slice v ((s + 63) / 64) c)
              have KG := (Kept.refl (fun j => j = w.heap.size) w5).setG 0 (.int .i64 (s : Nat)) |>.setG 1 (.slice v ((s + 63) / 64) c)
              refine bodyPost_ret (results_two_tmp rfl _ _ _ _ #[.int .i64 (s : Nat), .slice v ((s + 63) / 64) c] _ rfl p Tryd.underlying24 rfl (by kernel_rfl)) rfl ?_
              exact ⟨some (s, zs), SP.out, K.out.turn KG (Nat.le_refl _), v, c, by rw [LN.out]; rfl, V6.out.apart F.out.2.2.1 KG (map_none _ _ (by simp)), NV.out⟩
            · have NN := Lib.hid (dcons_done D.out (.inr (.inl g2)) heq)
              have hne : ((strN (putMap s zs)).toList == (strN b).toList) = false := by rw [str_beq (putMap_bytes s zs) HB.out]; exact decide_eq_false heq
              clear heq
              go_wp2_with fail
              have p := (F.out.2.2.1.set 0 (.int .i64 0)).set 1 (.slice none 0 0)
              refine bodyPost_ret (results_two_tmp rfl _ _ _ _ #[.int .i64 0, .slice none 0 0] _ rfl p Tryd.underlying24 rfl (by kernel_rfl)) rfl (got_none NN.out ?_)
              have k := K.out
              (repeat (first | exact Kept.refl _ _ | with_reducible assumption | with_reducible refine Kept.alloc ?_ _ | with_reducible refine Kept.drew ?_ | with_reducible refine Kept.drewN ?_ _ | refine Kept.setNew ?_ (by dsimp only; omega) _ | refine Kept.trans ?_ (by with_reducible assumption)))
        · go_wp2_with fail
          have PU := rb_put (s : Nat) v c zs wr D.out.words V.out
          have LN : Hid (zs.length = (s + 63) / 64) := ((mapOK_iff D.out.words).1 D.out.ok).2.1
          rw [LN.out, D.out.ok] at PU
          simp only [if_true, Int.toNat_natCast] at PU
          refine PU.mono ?_
          clear PU
          rintro e w5 ⟨vv, rfl, ho, k⟩
          obtain ⟨V5, lv, C5, rfl, hlv, hnv, hav, -⟩ := ho.rd
          have V6 := Lib.hid (V.out.same k)
          have K' := Lib.hid (K.out.trans k); have F' := Lib.hid (F.out.same k); clear K F p0 f0 z0 p1 f1 z1 p2 f2 z2 k; have K := K'; have F := F'; clear K' F'; obtain ⟨p0, f0, p1, f1, p2, f2, -⟩ := F.out.rules; have z0 := F.out.1.lt; have z1 := F.out.2.1.lt; have z2 := F.out.2.2.1.lt
          have hc1 := conv_str V5 lv C5 (putMap s zs) w5 hlv.out hav.out
          have hc2 := conv_str a l cap b w5 HL.out (AT.out.same K.out)
          by_cases heq : putMap s zs = b
          · have SP : Hid (GetSpec b (some (s, zs))) := ⟨D.out.ok, D.out.words, heq⟩
            have hne : ((strN (putMap s zs)).toList == (strN b).toList) = true := by rw [str_beq (putMap_bytes s zs) HB.out]; exact decide_eq_true heq
            clear heq
            go_wp2_with fail
            have p := (F.out.2.2.1.set 0 (.int .i64 (s : Nat))).set 1 (.slice v ((s + 63) / 64) c)
            have KG := (Kept.refl (fun j => j = w.heap.size) w5).setG 0 (.int .i64 (s : Nat)) |>.setG 1 (.slice v ((s + 63) / 64) c)
            refine bodyPost_ret (results_two_tmp rfl _ _ _ _ #[.int .i64 (s : Nat), .slice v ((s + 63) / 64) c] _ rfl p Tryd.underlying24 rfl (by kernel_rfl)) rfl ?_
            exact ⟨some (s, zs), SP.out, K.out.turn KG (Nat.le_refl _), v, c, by rw [LN.out]; rfl, V6.out.apart F.out.2.2.1 KG (map_none _ _ (by simp)), NV.out⟩
          · have NN := Lib.hid (dcons_done D.out (.inl (List.eq_nil_of_length_eq_zero (by rw [LX.out]; omega))) heq)
            have hne : ((strN (putMap s zs)).toList == (strN b).toList) = false := by rw [str_beq (putMap_bytes s zs) HB.out]; exact decide_eq_false heq
            clear heq
            go_wp2_with fail
            have p := (F.out.2.2.1.set 0 (.int .i64 0)).set 1 (.slice none 0 0)
            refine bodyPost_ret (results_two_tmp rfl _ _ _ _ #[.int .i64 0, .slice none 0 0] _ rfl p Tryd.underlying24 rfl (by kernel_rfl)) rfl (got_none NN.out ?_)
            have k := K.out
            (repeat (first | exact Kept.refl _ _ | with_reducible assumption | with_reducible refine Kept.alloc ?_ _ | with_reducible refine Kept.drew ?_ | with_reducible refine Kept.drewN ?_ _ | refine Kept.setNew ?_ (by dsimp only; omega) _ | refine Kept.trans ?_ (by with_reducible assumption)))
  · have gi := Lib.hid (gx.out (by omega))
    clear gn gx gs
    refine (rb_new_bad s _ (by omega)).mono ?_
    rintro e w4 ⟨rfl, k⟩
    have K' := Lib.hid (K.out.trans k); have F' := Lib.hid (F.out.same k); clear K F p0 f0 z0 p1 f1 z1 k; have K := K'; have F := F'; clear K' F'; obtain ⟨p0, f0, p1, f1, -⟩ := F.out.rules; have z0 := F.out.1.lt; have z1 := F.out.2.1.lt
    go_wp2_with fail
    have F4 := Lib.hid (show Fr (w4.alloc (.cells #[.int .i64 0, .slice none 0 0] 24)) [(w4.heap.size, #[.int .i64 0, .slice none 0 0], 24), (w2.heap.size, #[.slice a2 lx c2, .int .i64 (e0 : Nat)], 81), (w.heap.size, #[.int .i64 0, .slice none 0 0], 24)] from ⟨Blk.new w4 _ _, F.out.same ((Kept.refl _ w4).alloc _)⟩)
    have K4 := Lib.hid (K.out.alloc (.cells #[.int .i64 0, .slice none 0 0] 24))
    go_loopw [8, 9, 10, 11] (fun on sn sr si wr => ∃ (u10 u11 : Value), on = .bool false ∧ sn = .int .i64 0 ∧ sr = u10 ∧ si = u11 ∧
        Hid (Fr wr [(w4.heap.size, #[.int .i64 0, .slice none 0 0], 24), (w2.heap.size, #[.slice a2 lx c2, .int .i64 (e0 : Nat)], 81), (w.heap.size, #[.int .i64 0, .slice none 0 0], 24)]) ∧ Hid (Same w wr)) (fun _ _ _ _ _ => 0)
    case atStart => exact ⟨_, _, rfl, rfl, rfl, rfl, F4.out, K4.out⟩
    case round =>
      obtain ⟨u10, u11, rfl, rfl, rfl, rfl, F, K⟩ := hrel
      clear p0 f0 z0 p1 f1 z1
      obtain ⟨p0, f0, p1, f1, p2, f2, -⟩ := F.out.rules; have z0 := F.out.1.lt; have z1 := F.out.2.1.lt; have z2 := F.out.2.2.1.lt
      have PU := fun w' => rb_put 0 none 0 [] w' (by simp [Words]) (.inl rfl)
      rw [show mapOK 0 [] = true from by decide] at PU
      simp only [if_true, List.length_nil] at PU
      have PU := Lib.hid PU
      by_cases g1 : 0 < lx
      · by_cases g2 : e0 = 0
        · subst g2
          go_wp2_with fail
          refine (PU.out _).mono ?_
          rintro e w5 ⟨vv, rfl, ho, k⟩
          obtain ⟨V5, lv, C5, rfl, -⟩ := ho.rd
          have K' := Lib.hid (K.out.trans k); have F' := Lib.hid (F.out.same k); clear K F p0 f0 z0 p1 f1 z1 p2 f2 z2 k; have K := K'; have F := F'; clear K' F'; obtain ⟨p0, f0, p1, f1, p2, f2, -⟩ := F.out.rules; have z0 := F.out.1.lt; have z1 := F.out.2.1.lt; have z2 := F.out.2.2.1.lt
          go_wp2_with fail
          have p := (F.out.2.2.1.set 0 (.int .i64 0)).set 1 (.slice none 0 0)
          refine bodyPost_ret (results_two_tmp rfl _ _ _ _ #[.int .i64 0, .slice none 0 0] _ rfl p Tryd.underlying24 rfl (by kernel_rfl)) rfl (got_none gi.out ?_)
          have k := K.out
          (repeat (first | exact Kept.refl _ _ | with_reducible assumption | with_reducible refine Kept.alloc ?_ _ | with_reducible refine Kept.drew ?_ | with_reducible refine Kept.drewN ?_ _ | refine Kept.setNew ?_ (by dsimp only; omega) _ | refine Kept.trans ?_ (by with_reducible assumption)))
        · have b2 : ((e0 : Int) == 0) = false := by rw [beq_eq_false_iff_ne]; omega
          go_wp2_with fail
          refine (PU.out _).mono ?_
          rintro e w5 ⟨vv, rfl, ho, k⟩
          obtain ⟨V5, lv, C5, rfl, -⟩ := ho.rd
          have K' := Lib.hid (K.out.trans k); have F' := Lib.hid (F.out.same k); clear K F p0 f0 z0 p1 f1 z1 p2 f2 z2 k; have K := K'; have F := F'; clear K' F'; obtain ⟨p0, f0, p1, f1, p2, f2, -⟩ := F.out.rules; have z0 := F.out.1.lt; have z1 := F.out.2.1.lt; have z2 := F.out.2.2.1.lt
          go_wp2_with fail
          have p := (F.out.2.2.1.set 0 (.int .i64 0)).set 1 (.slice none 0 0)
          refine bodyPost_ret (results_two_tmp rfl _ _ _ _ #[.int .i64 0, .slice none 0 0] _ rfl p Tryd.underlying24 rfl (by kernel_rfl)) rfl (got_none gi.out ?_)
          have k := K.out
          (repeat (first | exact Kept.refl _ _ | with_reducible assumption | with_reducible refine Kept.alloc ?_ _ | with_reducible refine Kept.drew ?_ | with_reducible refine Kept.drewN ?_ _ | refine Kept.setNew ?_ (by dsimp only; omega) _ | refine Kept.trans ?_ (by with_reducible assumption)))
      · go_wp2_with fail
        refine (PU.out _).mono ?_
        rintro e w5 ⟨vv, rfl, ho, k⟩
        obtain ⟨V5, lv, C5, rfl, -⟩ := ho.rd
        have K' := Lib.hid (K.out.trans k); have F' := Lib.hid (F.out.same k); clear K F p0 f0 z0 p1 f1 z1 p2 f2 z2 k; have K := K'; have F := F'; clear K' F'; obtain ⟨p0, f0, p1, f1, p2, f2, -⟩ := F.out.rules; have z0 := F.out.1.lt; have z1 := F.out.2.1.lt; have z2 := F.out.2.2.1.lt
        go_wp2_with fail
        have p := (F.out.2.2.1.set 0 (.int .i64 0)).set 1 (.slice none 0 0)
        refine bodyPost_ret (results_two_tmp rfl _ _ _ _ #[.int .i64 0, .slice none 0 0] _ rfl p Tryd.underlying24 rfl (by kernel_rfl)) rfl (got_none gi.out ?_)
        have k := K.out
        (repeat (first | exact Kept.refl _ _ | with_reducible assumption | with_reducible refine Kept.alloc ?_ _ | with_reducible refine Kept.drew ?_ | with_reducible refine Kept.drewN ?_ _ | refine Kept.setNew ?_ (by dsimp only; omega) _ | refine Kept.trans ?_ (by with_reducible assumption)))

end Go.Proofs.YtmolmamfmboeoaaDoor
