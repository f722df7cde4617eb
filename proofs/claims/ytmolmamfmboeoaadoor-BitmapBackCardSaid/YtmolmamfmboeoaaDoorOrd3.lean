/- Package ordkey's reader takes a number off. -/
import Derived.Test.YtmolmamfmboeoaaDoorOrd2
namespace Go.Proofs.YtmolmamfmboeoaaDoor
open Go.RowKit

set_option maxHeartbeats 1600000 in
theorem ord_small (g : Nat) (a : Option Addr) (cap : Nat) (xs : List Nat) (er : Nat) (w : World) (hr : Rdr w g a cap xs er) (hb : Bytes xs) :
    Calls Tryd.prog 52 #[.pointer (some ⟨g, 0, none⟩)] w fun e w' => e = .returned (.int .i64 ((rdSmall xs er).2.2 : Nat)) ∧
      (∃ a' cap', Rdr w' g a' cap' (rdSmall xs er).1 (rdSmall xs er).2.1 ∧ ∀ x, a' = some x → ∃ y, a = some y ∧ x.block = y.block) ∧ Kept (fun k => k = g) w w' := by
  obtain ⟨hB, hat, hc, hm, hne⟩ := hr
  have HB := Lib.hid hB; have HA := Lib.hid hat; have HN := Lib.hid hne
  have c0 : w.cell? ⟨g, 0, none⟩ = some (.slice a xs.length cap) := hB.cell 0 rfl
  have c1 : w.cell? ⟨g, 1, none⟩ = some (.int .i64 (er : Nat)) := hB.cell 1 rfl
  have f0 := hB.free 0
  have f1 := hB.free 1
  have S := Lib.hid (ord_state g er _ w hB)
  have G := Lib.hid (ord_getSmall a cap xs w hb hat hc hm)
  have HOK := Lib.hid (getSmall_ok xs)
  have hbs : Bytes xs := hb
  clear hB hat hne hb
  by_cases he : er = 0
  · subst he
    have HD : Hid (rdSmall xs 0 = if (getSmall xs).2.2 ≠ 0 then (xs, (getSmall xs).2.2, 0) else if 1099511627776 < (getSmall xs).1 then (xs, 9, 0) else (xs.drop (getSmall xs).2.1, 0, (getSmall xs).1)) := rfl
    have HU : (getSmall xs).2.2 = 0 → (getSmall xs).1 < 18446744073709551616 := fun _ => getSmall_lt xs hbs
    generalize getSmall xs = q at *
    obtain ⟨u, n, e2⟩ := q
    by_cases h2 : e2 = 0
    · subst h2
      obtain ⟨hn1, hn2, _⟩ := HOK.out rfl
      simp only at hn1 hn2
      by_cases hu : 1099511627776 < u
      · have HE : Hid (rdSmall xs 0 = (xs, 9, 0)) := by show _ = _; rw [HD.out]; simp [hu]
        clear HD HOK HU
        go_enter Tryd.func52, Tryd.ntmps52
        go_wp2_with (first | (go_at_call 62; refine S.out.mono ?_; rintro e w1 ⟨rfl, rfl⟩) | (go_at_call 63; refine G.out.mono ?_; rintro e w1 ⟨rfl, rfl⟩))
        go_ret
        rw [HE.out]
        exact ⟨rfl, ⟨a, cap, ⟨HB.out.set 1 _, HA.out.kept ((Kept.refl (fun k => k = g) w).setCell (p := ⟨g, 1, none⟩) (fun _ => rfl) _) (fun x hx => HN.out x hx), hc, hm, HN.out⟩, fun x hx => ⟨x, hx, rfl⟩⟩, (Kept.refl _ w).setG _ _⟩
      · have HE : Hid (rdSmall xs 0 = (xs.drop n, 0, u)) := by show _ = _; rw [HD.out]; simp [hu]
        have hlt : u < 18446744073709551616 := HU rfl
        obtain ⟨b, off, _, ha, _⟩ := HA.out.at (i := 0) (by omega)
        subst ha
        clear HD HOK HU
        rcases Nat.lt_or_ge n cap with hcap | hcap
        · go_enter Tryd.func52, Tryd.ntmps52
          go_wp2_with (first | (go_at_call 62; refine S.out.mono ?_; rintro e w1 ⟨rfl, rfl⟩) | (go_at_call 63; refine G.out.mono ?_; rintro e w1 ⟨rfl, rfl⟩))
          go_ret
          rw [HE.out]
          refine ⟨rfl, ⟨some ⟨b, off + n, none⟩, cap - n, ⟨by rw [List.length_drop]; exact HB.out.set 0 _, (HA.out.drop n).kept ((Kept.refl (fun k => k = g) w).setG 0 _) (fun x hx => by simp at hx; subst hx; exact HN.out ⟨b, off, none⟩ rfl), by rw [List.length_drop]; omega, by omega, fun x hx => by simp at hx; subst hx; exact HN.out ⟨b, off, none⟩ rfl⟩, fun x hx => ⟨_, rfl, by simp at hx; subst hx; rfl⟩⟩, (Kept.refl _ w).setG _ _⟩
        · obtain rfl : n = cap := by omega
          have hlen : xs.length = n := by omega
          have HLn := Lib.hid hlen; clear hlen
          go_enter Tryd.func52, Tryd.ntmps52
          go_wp2_with (first | (go_at_call 62; refine S.out.mono ?_; rintro e w1 ⟨rfl, rfl⟩) | (go_at_call 63; refine G.out.mono ?_; rintro e w1 ⟨rfl, rfl⟩))
          go_ret
          rw [HE.out]
          have hnil : xs.drop n = [] := List.drop_of_length_le (by rw [HLn.out]; omega)
          refine ⟨rfl, ⟨some ⟨b, off, none⟩, 0, ⟨by rw [List.length_drop, HLn.out, Nat.sub_self]; exact HB.out.set 0 _, by rw [hnil]; exact .inl rfl, by rw [hnil]; simp, by omega, fun x hx => by simp at hx; subst hx; exact HN.out ⟨b, off, none⟩ rfl⟩, fun x hx => ⟨_, rfl, by simp at hx; subst hx; rfl⟩⟩, (Kept.refl _ w).setG _ _⟩
    · have HE : Hid (rdSmall xs 0 = (xs, e2, 0)) := by show _ = _; rw [HD.out]; simp [h2]
      have hbe : (((e2 : Nat) : Int) == 0) = false := by simp [h2]
      have hbn : (((e2 : Nat) : Int) != 0) = true := by simp [h2]
      clear HD HOK HU
      go_enter Tryd.func52, Tryd.ntmps52
      go_wp2_with (first | (go_at_call 62; refine S.out.mono ?_; rintro e w1 ⟨rfl, rfl⟩) | (go_at_call 63; refine G.out.mono ?_; rintro e w1 ⟨rfl, rfl⟩))
      go_ret
      rw [HE.out]
      exact ⟨rfl, ⟨a, cap, ⟨HB.out.set 1 _, HA.out.kept ((Kept.refl (fun k => k = g) w).setCell (p := ⟨g, 1, none⟩) (fun _ => rfl) _) (fun x hx => HN.out x hx), hc, hm, HN.out⟩, fun x hx => ⟨x, hx, rfl⟩⟩, (Kept.refl _ w).setG _ _⟩
  · have HE : Hid (rdSmall xs er = (xs, er, 0)) := by show _ = _; simp [rdSmall, he]
    have hbn : (((er : Nat) : Int) != 0) = true := by simp [he]
    go_enter Tryd.func52, Tryd.ntmps52
    go_wp2_with (first | (go_at_call 62; refine S.out.mono ?_; rintro e w1 ⟨rfl, rfl⟩))
    go_ret
    rw [HE.out]
    exact ⟨rfl, ⟨a, cap, ⟨HB.out, HA.out, hc, hm, HN.out⟩, fun x hx => ⟨x, hx, rfl⟩⟩, Kept.refl _ _⟩

end Go.Proofs.YtmolmamfmboeoaaDoor
