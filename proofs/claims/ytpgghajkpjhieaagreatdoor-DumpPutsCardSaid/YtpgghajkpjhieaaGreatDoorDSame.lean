/- DumpSame: two lists of pairs are compared as the document does it. -/
import Derived.Test.YtpgghajkpjhieaaGreatDoorPr1
import Derived.Test.YtpgghajkpjhieaaGreatDoorEvA30
namespace Go.Proofs.YtpgghajkpjhieaaGreatDoor
open Go.RowKit Go.Sort

set_option maxRecDepth 100000 in
theorem dump_same (a a' : Option Addr) (n m c c' : Nat) (L M : List HPr) (hn : n = L.length) (hm : m = M.length) (hl : n ≤ 1000000) (w : World) (hat : ElsAt prE w a L) (hat' : ElsAt prE w a' M) :
    Calls Tryz.prog 15 #[.slice a n c, .slice a' m c'] w fun e w' => e = .returned (.bool (decide (L = M))) ∧ Same w w' := by
  have S := Lib.hid (sl_equalP a a' n m c c' L M hn hm hl w hat hat')
  clear hn hm hat hat'
  go_enter Tryz.func15, Tryz.ntmps15
  go_wp2_with fail
  with_reducible refine S.out.mono ?_
  rintro e w1 ⟨rfl, k1⟩
  go_wp2_with fail
  go_ret
  exact ⟨rfl, k1⟩
set_option maxRecDepth 100000 in
theorem rdump_same (a a' : Option Addr) (n m c c' : Nat) (L M : List HPr) (hn : n = L.length) (hm : m = M.length) (hl : n ≤ 1000000) (w : World) (hat : ElsAt prE w a L) (hat' : ElsAt prE w a' M) :
    Calls Tryz.prog 14 #[.slice a n c, .slice a' m c'] w fun e w' => e = .returned (.bool (decide (L = M))) ∧ Same w w' := by
  have S := Lib.hid (ref_samePairs a a' n m c c' L M hn hm hl w hat hat')
  clear hn hm hat hat'
  go_enter Tryz.func14, Tryz.ntmps14
  go_wp2_with fail
  with_reducible refine S.out.mono ?_
  rintro e w1 ⟨rfl, k1⟩
  go_wp2_with fail
  go_ret
  exact ⟨rfl, k1⟩
set_option maxRecDepth 100000 in
theorem same_any (w : World) (hT : TabOK w) (a a' : Option Addr) (n m c c' : Nat) (L M : List HPr) (hn : n = L.length) (hm : m = M.length) (hat : ElsAt prE w a L) (hat' : ElsAt prE w a' M) :
    Calls Tryz.prog 4 #[.slice a n c, .slice a' m c'] w fun e w' => e = .returned (.bool true) ∧ Same w w' := by
  have AW := Lib.hid (fun w' (k : Same w w') => aw30 w' (hT.same k))
  by_cases h1 : n ≤ 40
  · by_cases h2 : m ≤ 40
    · have DS := Lib.hid (dump_same a a' n m c c' L M hn hm (by omega) w hat hat')
      have RS := Lib.hid (fun w' (k : Same w w') => rdump_same a a' n m c c' L M hn hm (by omega) w' (hat.same k) (hat'.same k))
      have g1 : ¬ (40 : Int) < (n : Int) := by omega
      have g2 : ¬ (40 : Int) < (m : Int) := by omega
      obtain ⟨q, hq⟩ : ∃ q, decide (L = M) = q := ⟨_, rfl⟩
      rw [hq] at DS RS
      clear hn hm hat hat' hT hq
      go_enter Tryz.func4, Tryz.ntmps4
      go_wp2_with fail
      with_reducible refine DS.out.mono ?_
      rintro e w1 ⟨rfl, k1⟩
      have K1 := Lib.hid k1
      clear k1
      go_wp2_with fail
      with_reducible refine (RS.out _ K1.out).mono ?_
      rintro e w2 ⟨rfl, k2⟩
      have K2 := Lib.hid (K1.out.trans k2)
      clear k2
      go_wp2_with fail
      with_reducible refine (AW.out _ K2.out).mono ?_
      rintro e w3 ⟨rfl, k3⟩
      have K3 := Lib.hid (K2.out.trans k3)
      clear k3
      go_wp2_with fail
      go_ret
      exact ⟨rfl, K3.out⟩
    · have g1 : ¬ (40 : Int) < (n : Int) := by omega
      have g2 : (40 : Int) < (m : Int) := by omega
      clear hn hm hat hat' hT
      go_enter Tryz.func4, Tryz.ntmps4
      go_wp2_with fail
      with_reducible refine (AW.out _ (Kept.refl _ _)).mono ?_
      rintro e w3 ⟨rfl, k3⟩
      go_wp2_with fail
      go_ret
      exact ⟨rfl, k3⟩
  · have g1 : (40 : Int) < (n : Int) := by omega
    clear hn hm hat hat' hT
    go_enter Tryz.func4, Tryz.ntmps4
    go_wp2_with fail
    with_reducible refine (AW.out _ (Kept.refl _ _)).mono ?_
    rintro e w3 ⟨rfl, k3⟩
    go_wp2_with fail
    go_ret
    exact ⟨rfl, k3⟩
end Go.Proofs.YtpgghajkpjhieaaGreatDoor
