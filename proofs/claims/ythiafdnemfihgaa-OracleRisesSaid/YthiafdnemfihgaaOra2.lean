/- Walks over package oracle: begin and what it calls. -/
import Derived.Test.YthiafdnemfihgaaOra1
import Derived.Deep.RegionWith
import Derived.Deep.RegionHeld3
import Derived.Deep.DeepMust
namespace Go.Proofs.Ythiafdnemfihgaa
open Go.RowKit

/-- The cells of an oracle. -/
abbrev oraC (at_ d ms se st : Int) : Array Value := #[.int .i64 at_, .int .u32 d, .int .i32 ms, .int .u32 se, .int .u32 st]

set_option maxHeartbeats 800000 in
theorem ora_begin1 (b po pf pd : Nat) (n f d ms se st : Int) (x : Value) (w : World)
    (hb : Blk w b (oraC n d ms se st) 55) (ho : Blk w po #[.pointer (some ⟨b, 0, none⟩)] 23) (hf : Blk w pf #[.int .i64 f] 3) (hd : Blk w pd #[x] 4)
    (e1 : po ≠ b) (e2 : pf ≠ b) (e3 : pd ≠ b) (e4 : po ≠ pd) (e5 : pf ≠ pd) :
    Calls Try.prog 23 #[.pointer (some ⟨po, 0, none⟩), .pointer (some ⟨pf, 0, none⟩), .pointer (some ⟨pd, 0, none⟩)] w fun e w' =>
      e = .returned (.tuple #[]) ∧ Blk w' b (oraC f d ms se 1) 55 ∧ Blk w' pd #[.bool true] 4 ∧ Kept (fun k => k = b ∨ k = pd) w w' := by
  have c0 : w.cell? ⟨b, 0, none⟩ = some (.int .i64 n) := hb.cell 0 rfl
  have c4 : w.cell? ⟨b, 4, none⟩ = some (.int .u32 st) := hb.cell 4 rfl
  have f0 := hb.free 0
  have f4 := hb.free 4
  have co : w.cell? ⟨po, 0, none⟩ = some (.pointer (some ⟨b, 0, none⟩)) := ho.cell 0 rfl
  have cf : w.cell? ⟨pf, 0, none⟩ = some (.int .i64 f) := hf.cell 0 rfl
  have cd : w.cell? ⟨pd, 0, none⟩ = some x := hd.cell 0 rfl
  have fd := hd.free 0
  have HB : Hid (Blk w b (oraC n d ms se st) 55) := hb
  have HD : Hid (Blk w pd #[x] 4) := hd
  clear hb ho hf hd
  go_enter Try.func23, Try.ntmps23
  go_wp2_with fail
  go_region_with (go_at_call 24; refine (at_store64 _ _ _ _ (by exact c0) (by exact f0)).mono ?_; rintro e w' ⟨rfl, rfl⟩)
  all_goals
    go_wp2_with (go_at_call 25; refine (at_storeB _ (.int .u32 st) _ (by go_simp) (by go_simp)).mono ?_; rintro e w' ⟨rfl, rfl⟩)
    go_end0
    refine ⟨rfl, ?_, ?_, ?_⟩
    · exact ((HB.out.set 0 _).set 4 _).other e3.symm _
    · exact ((HD.out.other e3 _).other e3 _).set 0 _
    · repeat (first | exact Kept.refl _ _ | refine Kept.drew ?_ | refine Kept.setCell ?_ (by simp) _)

/-- 'doSlow', not yet done and the lock free. -/
theorem ora_slow (b po pf pd : Nat) (n f se st : Int) (x : Value) (w : World)
    (hb : Blk w b (oraC n 0 0 se st) 55) (ho : Blk w po #[.pointer (some ⟨b, 0, none⟩)] 23) (hf : Blk w pf #[.int .i64 f] 3) (hd : Blk w pd #[x] 4)
    (e1 : po ≠ b) (e2 : pf ≠ b) (e3 : pd ≠ b) (e4 : po ≠ pd) (e5 : pf ≠ pd) :
    Calls Try.prog 29 #[.pointer (some ⟨b, 1, none⟩), .func (.func 23) #[] #[.pointer (some ⟨po, 0, none⟩), .pointer (some ⟨pf, 0, none⟩), .pointer (some ⟨pd, 0, none⟩)]] w fun e w' =>
      e = .returned (.tuple #[]) ∧ Blk w' b (oraC f 1 0 se 1) 55 ∧ Blk w' pd #[.bool true] 4 ∧ Kept (fun k => k = b ∨ k = pd) w w' := by
  have hnot : ∀ (x : Bool) (w : World), (Op.unary .not (.bool x)).run Try.prog w = .ok (.bool (!x)) w := fun _ _ => rfl
  have HB : Hid (Blk w b (oraC n 0 0 se st) 55) := hb
  have HO : Hid (Blk w po #[.pointer (some ⟨b, 0, none⟩)] 23) := ho
  have HF : Hid (Blk w pf #[.int .i64 f] 3) := hf
  have HD : Hid (Blk w pd #[x] 4) := hd
  clear hb ho hf hd
  go_enter_defers Try.func29, Try.ntmps29
  go_wp2_with fail

  go_wp2_with (go_at_call 33; go_must (refine (mu_lock _ _ (by exact HB.out.cell 2 rfl) (by exact HB.out.free 2)).mono ?_); rintro e w' ⟨rfl, rfl⟩)
  have h1 : Blk (w.setCell ⟨b, 2, none⟩ (.int .i32 1)) b (oraC n 0 1 se st) 55 := HB.out.set 2 _
  have h2 : Blk (w.setCell ⟨b, 2, none⟩ (.int .i32 1)) po #[.pointer (some ⟨b, 0, none⟩)] 23 := HO.out.other e1 _
  have h3 : Blk (w.setCell ⟨b, 2, none⟩ (.int .i32 1)) pf #[.int .i64 f] 3 := HF.out.other e2 _
  have h4 : Blk (w.setCell ⟨b, 2, none⟩ (.int .i32 1)) pd #[x] 4 := HD.out.other e3 _
  have k1 : Kept (fun k => k = b ∨ k = pd) w (w.setCell ⟨b, 2, none⟩ (.int .i32 1)) := (Kept.refl _ w).setCell (fun _ => .inl rfl) _
  generalize w.setCell ⟨b, 2, none⟩ (.int .i32 1) = w1 at *
  have H1 := Lib.hid h1; clear h1
  have H2 := Lib.hid h2; clear h2
  have H3 := Lib.hid h3; clear h3
  have H4 := Lib.hid h4; clear h4
  have K1 := Lib.hid k1; clear k1
  go_wp2_with (go_at_call 20; go_must (refine (at_loadB _ 0 _ (by exact H1.out.cell 1 rfl)).mono ?_); rintro e w' ⟨rfl, rfl⟩)
  go_wp2_with (go_at_call 23; go_must (refine (ora_begin1 b po pf pd n f 0 1 se st x _ H1.out H2.out H3.out H4.out e1 e2 e3 e4 e5).mono ?_); rintro e w2 ⟨rfl, hb2, hd2, hk2⟩)
  have H1 := Lib.hid hb2; clear hb2
  have H4 := Lib.hid hd2; clear hd2
  have K2 := Lib.hid (K1.out.trans hk2); clear hk2 K1
  go_wp2
  -- the two deferred calls, the last laid first
  refine leaves_cons (f := 25) (args := #[.pointer (some ⟨b, 1, none⟩), .bool true]) (by simp) (by simp [go_sem]) ?_
  refine (at_storeB_d ⟨b, 1, none⟩ (.int .u32 0) .returning _ (H1.out.cell 1 rfl) (H1.out.free 1)).mono ?_
  rintro e u' w3 ⟨rfl, rfl, rfl⟩
  refine leaves_cons (f := 34) (args := #[.pointer (some ⟨b, 2, none⟩)]) (by simp [settle]) (by simp [go_sem]) ?_
  refine (mu_unlock_d ⟨b, 2, none⟩ _ _ ((H1.out.drew.set 1 _).cell 2 rfl) ((H1.out.drew.set 1 _).free 2)).mono ?_
  rintro e u' w3 ⟨rfl, rfl, rfl⟩
  refine ⟨_, results_none rfl _ _ _, rfl, ?_, ?_, ?_⟩
  · exact (H1.out.drew.set 1 _).set 2 _
  · exact (H4.out.drew.other e3 _).other e3 _
  · exact (K2.out.drew.setCell (fun _ => .inl rfl) _).setCell (fun _ => .inl rfl) _

/-- 'Do', not yet done. -/
theorem ora_do_first (b po pf pd : Nat) (n f se st : Int) (x : Value) (w : World)
    (hb : Blk w b (oraC n 0 0 se st) 55) (ho : Blk w po #[.pointer (some ⟨b, 0, none⟩)] 23) (hf : Blk w pf #[.int .i64 f] 3) (hd : Blk w pd #[x] 4)
    (e1 : po ≠ b) (e2 : pf ≠ b) (e3 : pd ≠ b) (e4 : po ≠ pd) (e5 : pf ≠ pd) :
    Calls Try.prog 22 #[.pointer (some ⟨b, 1, none⟩), .func (.func 23) #[] #[.pointer (some ⟨po, 0, none⟩), .pointer (some ⟨pf, 0, none⟩), .pointer (some ⟨pd, 0, none⟩)]] w fun e w' =>
      e = .returned (.tuple #[]) ∧ Blk w' b (oraC f 1 0 se 1) 55 ∧ Blk w' pd #[.bool true] 4 ∧ Kept (fun k => k = b ∨ k = pd) w w' := by
  have hnot : ∀ (x : Bool) (w : World), (Op.unary .not (.bool x)).run Try.prog w = .ok (.bool (!x)) w := fun _ _ => rfl
  have HB : Hid (Blk w b (oraC n 0 0 se st) 55) := hb
  have HO : Hid (Blk w po #[.pointer (some ⟨b, 0, none⟩)] 23) := ho
  have HF : Hid (Blk w pf #[.int .i64 f] 3) := hf
  have HD : Hid (Blk w pd #[x] 4) := hd
  clear hb ho hf hd
  go_enter Try.func22, Try.ntmps22
  go_wp2_with (go_at_call 20; go_must (refine (at_loadB _ 0 _ (by exact HB.out.cell 1 rfl)).mono ?_); rintro e w' ⟨rfl, rfl⟩)
  go_wp2_with (go_at_call 29; go_must (refine (ora_slow b po pf pd n f se st x _ HB.out HO.out HF.out HD.out e1 e2 e3 e4 e5).mono ?_); rintro e w2 ⟨rfl, hb2, hd2, hk2⟩)
  go_end0
  exact ⟨rfl, hb2, hd2, hk2⟩

/-- 'Do', done already. -/
theorem ora_do_done (b : Nat) (n d ms se st : Int) (fv : Value) (w : World) (hn : ¬ d = 0)
    (hb : Blk w b (oraC n d ms se st) 55) :
    Calls Try.prog 22 #[.pointer (some ⟨b, 1, none⟩), fv] w fun e w' => e = .returned (.tuple #[]) ∧ w = w' := by
  have hnot : ∀ (x : Bool) (w : World), (Op.unary .not (.bool x)).run Try.prog w = .ok (.bool (!x)) w := fun _ _ => rfl
  have hd' : (d != 0) = true := by simp [hn]
  have HB : Hid (Blk w b (oraC n d ms se st) 55) := hb
  clear hb
  go_enter Try.func22, Try.ntmps22
  go_wp2_with (go_at_call 20; go_must (refine (at_loadB _ d _ (by exact HB.out.cell 1 rfl)).mono ?_); rintro e w' ⟨rfl, rfl⟩)
  go_end0
  exact ⟨rfl, rfl⟩

/-- 'begin', a clock that was not started. -/
theorem ora_begin_first (b : Nat) (n f se st : Int) (w : World)
    (hb : Blk w b (oraC n 0 0 se st) 55) :
    Calls Try.prog 16 #[.pointer (some ⟨b, 0, none⟩), .int .i64 f] w fun e w' =>
      e = .returned (.bool true) ∧ Blk w' b (oraC f 1 0 se 1) 55 ∧ Kept (fun k => k = b) w w' := by
  have hmf : ∀ (fn : Fn) (first cap : Array Value) (w : World), (Instr.makeFunc fn first cap).run Try.prog w = .ok (.func fn first cap) w := fun _ _ _ _ => rfl
  have hlt := hb.lt
  have HB : Hid (Blk w b (oraC n 0 0 se st) 55) := hb
  clear hb
  go_enter Try.func16, Try.ntmps16
  go_wp2_with (go_at_call 22; go_must (refine (ora_do_first b w.heap.size (w.heap.size + 1) (w.heap.size + 1 + 1) n f se st (.bool false) _ (((HB.out.alloc _).alloc _).alloc _) (((Blk.new w _ _).alloc _).alloc _) (by have := (Blk.new (w.alloc (.cells #[.pointer (some ⟨b, 0, none⟩)] 23)) #[.int .i64 f] 3); simp at this; exact this.alloc _) (by have := (Blk.new ((w.alloc (.cells #[.pointer (some ⟨b, 0, none⟩)] 23)).alloc (.cells #[.int .i64 f] 3)) #[.bool false] 4); simp at this; exact this) (by omega) (by omega) (by omega) (by omega) (by omega)).mono ?_); rintro e w2 ⟨rfl, hb2, hd2, hk2⟩; have H1 := Lib.hid hb2; have cd : w2.cell? ⟨w.heap.size + 1 + 1, 0, none⟩ = some (.bool true) := hd2.cell 0 rfl; have K1 := Lib.hid hk2; clear hb2 hd2 hk2)
  go_ret
  refine ⟨rfl, H1.out, ?_⟩
  refine Kept.step (fq := fun k => k = b ∨ k = w.heap.size + 1 + 1) ?_ K1.out (by intro i hi h; omega)
  exact (((Kept.refl _ w).alloc _).alloc _).alloc _

end Go.Proofs.Ythiafdnemfihgaa
