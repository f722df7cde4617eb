/- BitmapFinds: next, rank and select of any map are told as the document says. -/
import Derived.Test.YtmolmamfmboeoaaDoorAwk
import Derived.Test.YtmolmamfmboeoaaDoorBmR6
import Derived.Test.YtmolmamfmboeoaaDoorBmR5
import Derived.Test.YtmolmamfmboeoaaDoorBmR2
import Derived.Lib.QuietBelow
namespace Go.Proofs.YtmolmamfmboeoaaDoor
open Go.RowKit Go.Sort

theorem Calls.quiet_same {P : Program} {f : FuncId} {args : Array Value} {w : World} {d : Nat} {os : Array Obj} {v : Value}
    (h : Calls P f args (grow (redrawn w d) os) fun e w' => e = .returned v ∧ Same (grow (redrawn w d) os) w') : Calls P f args (grow (redrawn w d) os) fun e w'' => e = .returned v ∧ ∃ p : Regrown, w'' = grow (redrawn w p.d) p.os :=
  Calls.regrown_of (h.mono fun _ _ ⟨h1, h2⟩ => ⟨h1, h2.below (Nat.le_refl _) (fun _ _ h => h)⟩)

set_option maxRecDepth 100000 in
set_option maxHeartbeats 1000000 in
theorem finds_true (s : Int) (a : Option Addr) (cap : Nat) (ws : List Nat) (n : Int) (on : Bool) (w : World) (hw : Words ws) (hat : NatsAt w .u64 a ws) (hc : ws.length ≤ cap) (hn : n < 9223372036854775808) (hT : TabOK w) :
    Calls Tryd.prog 4 #[mapV s a ws.length cap, .int .i64 n, .bool on] w fun e w' => e = .returned (.bool true) ∧ Same w w' := by
  have LI := Lib.hid fun w' => rb_light s a ws.length cap w'
  have AW := Lib.hid fun w' h => awake_true w' h
  have N1 := Lib.hid fun w' h1 h2 => bm_next s a cap ws n on w' hw h1 h2
  have N2 := Lib.hid fun w' h => rb_next s a cap ws n on w' hw h
  have S1 := Lib.hid fun w' h1 h2 => bm_select s a cap ws n w' hw hn h1 h2
  have S2 := Lib.hid fun w' h => rb_select s a cap ws n w' hw hn h
  have R1 := Lib.hid fun w' h => bm_rank s a cap ws n w' hw hc h
  have R2 := Lib.hid fun w' h => rb_rank s a cap ws n w' hw h
  have AT := Lib.hid hat; have TT := Lib.hid hT
  clear hat hT hw hn hc
  obtain ⟨rk, hrk⟩ : ∃ rk, rankN s ws n = rk := ⟨_, rfl⟩
  rw [hrk] at R1 R2
  clear hrk
  generalize ws.length = l at *
  by_cases h8 : l ≤ 8
  · rw [decide_eq_true h8] at LI
    clear h8
    go_enter Tryd.func4, Tryd.ntmps4
    go_wp2_with fail
    refine Calls.fr1 ?_; intro W F' K' hz'; have F := Lib.hid F'; have K := Lib.hid K'; have hz := Lib.hid hz'; clear F' K' hz'; obtain ⟨p0, f0, -⟩ := F.out.rules; have z0 := F.out.1.lt
    refine (LI.out _).mono ?_
    rintro e w2 ⟨rfl, k⟩
    have K' := Lib.hid (K.out.trans k); have F' := Lib.hid (F.out.same k); clear K F p0 f0 z0 k; have K := K'; have F := F'; clear K' F'; obtain ⟨p0, f0, -⟩ := F.out.rules; have z0 := F.out.1.lt
    go_wp2_with fail
    have F' := Lib.hid (show Fr (w2.alloc (.cells #[.int .i64 s, .slice a l cap] 27)) ((w2.heap.size, #[.int .i64 s, .slice a l cap], 27) :: [(w.heap.size, #[.int .i64 s, .slice a l cap], 24)]) from ⟨Blk.new w2 _ _, F.out.same ((Kept.refl _ w2).alloc _)⟩)
    have K' := Lib.hid (K.out.alloc (.cells #[.int .i64 s, .slice a l cap] 27))
    clear F K p0 f0 z0; have F := F'; have K := K'; clear F' K'
    generalize w2.alloc (.cells #[.int .i64 s, .slice a l cap] 27) = w3 at *
    obtain ⟨p0, f0, p1, f1, -⟩ := F.out.rules; have z0 := F.out.1.lt; have z1 := F.out.2.1.lt
    refine (N1.out _ (TT.out.same K.out) (AT.out.same K.out)).mono ?_
    rintro e w4 ⟨r, rfl, hr, k⟩
    have K' := Lib.hid (K.out.trans k); have F' := Lib.hid (F.out.same k); clear K F p0 f0 z0 p1 f1 z1 k; have K := K'; have F := F'; clear K' F'; obtain ⟨p0, f0, p1, f1, -⟩ := F.out.rules; have z0 := F.out.1.lt; have z1 := F.out.2.1.lt
    go_wp2_with fail
    refine (N2.out _ (AT.out.same K.out)).mono ?_
    rintro e w5 ⟨r', rfl, hr', k⟩
    obtain rfl := next_one hr hr'
    clear hr hr'
    have K' := Lib.hid (K.out.trans k); have F' := Lib.hid (F.out.same k); clear K F p0 f0 z0 p1 f1 z1 k; have K := K'; have F := F'; clear K' F'; obtain ⟨p0, f0, p1, f1, -⟩ := F.out.rules; have z0 := F.out.1.lt; have z1 := F.out.2.1.lt
    go_wp2_with fail
    refine (S1.out _ (TT.out.same K.out) (AT.out.same K.out)).mono ?_
    rintro e w6 ⟨q, rfl, hq, k⟩
    have K' := Lib.hid (K.out.trans k); have F' := Lib.hid (F.out.same k); clear K F p0 f0 z0 p1 f1 z1 k; have K := K'; have F := F'; clear K' F'; obtain ⟨p0, f0, p1, f1, -⟩ := F.out.rules; have z0 := F.out.1.lt; have z1 := F.out.2.1.lt
    go_wp2_with fail
    refine (S2.out _ (AT.out.same K.out)).mono ?_
    rintro e w7 ⟨q', rfl, hq', k⟩
    obtain rfl := sel_one hq hq'
    clear hq hq'
    have K' := Lib.hid (K.out.trans k); have F' := Lib.hid (F.out.same k); clear K F p0 f0 z0 p1 f1 z1 k; have K := K'; have F := F'; clear K' F'; obtain ⟨p0, f0, p1, f1, -⟩ := F.out.rules; have z0 := F.out.1.lt; have z1 := F.out.2.1.lt
    go_wp2_with fail
    have G0 := fun d os i => cell_blk (F.out.1.kept (Kept.of_below (below_regrown _ d os)) (fun h => h)) i; have G1 := fun d os i => cell_blk (F.out.2.1.kept (Kept.of_below (below_regrown _ d os)) (fun h => h)) i
    have C1 : ∀ d os, Calls Tryd.prog 24 #[mapV s a l cap, .int .i64 n] (grow (redrawn w7 d) os) fun e w'' => e = .returned (.int .i64 ((rk : Nat) : Int)) ∧ ∃ p : Regrown, w'' = grow (redrawn w7 p.d) p.os := fun d os => Calls.quiet_same (R1.out _ (AT.out.same (K.out.trans (Kept.of_below (below_regrown _ d os)))))
    have C2 : ∀ d os, Calls Tryd.prog 25 #[mapV s a l cap, .int .i64 n] (grow (redrawn w7 d) os) fun e w'' => e = .returned (.int .i64 ((rk : Nat) : Int)) ∧ ∃ p : Regrown, w'' = grow (redrawn w7 p.d) p.os := fun d os => Calls.quiet_same (R2.out _ (AT.out.same (K.out.trans (Kept.of_below (below_regrown _ d os)))))
    have C3 : ∀ d os, Calls Tryd.prog 10 #[] (grow (redrawn w7 d) os) fun e w'' => e = .returned (.bool true) ∧ ∃ p : Regrown, w'' = grow (redrawn w7 p.d) p.os := fun d os => Calls.quiet_same (AW.out _ (TT.out.same (K.out.trans (Kept.of_below (below_regrown _ d os)))))
    have C1 := Lib.hid C1; have C2 := Lib.hid C2; have C3 := Lib.hid C3
    clear p0 f0 z0 p1 f1 z1
    refine wp_region_quiet_below (by kernel_rfl) (by kernel_rfl) ?_
    repeat (quiet_step (first | exact C1.out _ _ | exact C2.out _ _ | exact C3.out _ _))
    refine wpQuiet_nil ?_
    intro _ hw'
    obtain ⟨⟨dq, osq⟩, hw''⟩ := hw'
    subst hw''
    have kq := Lib.hid (show Same w7 _ from Kept.of_below (below_regrown w7 dq osq))
    go_wp2_with fail
    go_ret
    exact ⟨rfl, K.out.trans kq.out⟩
  · rw [decide_eq_false h8] at LI
    clear h8
    go_enter Tryd.func4, Tryd.ntmps4
    go_wp2_with fail
    refine Calls.fr1 ?_; intro W F' K' hz'; have F := Lib.hid F'; have K := Lib.hid K'; have hz := Lib.hid hz'; clear F' K' hz'; obtain ⟨p0, f0, -⟩ := F.out.rules; have z0 := F.out.1.lt
    refine (LI.out _).mono ?_
    rintro e w2 ⟨rfl, k⟩
    have K' := Lib.hid (K.out.trans k); have F' := Lib.hid (F.out.same k); clear K F p0 f0 z0 k; have K := K'; have F := F'; clear K' F'; obtain ⟨p0, f0, -⟩ := F.out.rules; have z0 := F.out.1.lt
    go_wp2_with fail
    refine (AW.out _ (TT.out.same K.out)).mono ?_
    rintro e w3 ⟨rfl, k⟩
    have K' := Lib.hid (K.out.trans k); have F' := Lib.hid (F.out.same k); clear K F p0 f0 z0 k; have K := K'; have F := F'; clear K' F'; obtain ⟨p0, f0, -⟩ := F.out.rules; have z0 := F.out.1.lt
    go_wp2_with fail
    go_ret
    exact ⟨rfl, K.out⟩

end Go.Proofs.YtmolmamfmboeoaaDoor
