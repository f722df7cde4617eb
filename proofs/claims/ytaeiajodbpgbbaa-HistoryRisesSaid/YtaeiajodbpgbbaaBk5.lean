/- Has an event just its fields? -/
import Derived.Test.YtaeiajodbpgbbaaBk4
namespace Go.Proofs.Ytaeiajodbpgbbaa
open Go.RowKit Go.Sort Go.Shelf

theorem enc_cat (x y : List UInt8) : ((⟨x.toArray⟩ : ByteArray) ++ (⟨y.toArray⟩ : ByteArray)).toList.isEmpty = decide (x ++ y = []) := by
  have h : ((⟨x.toArray⟩ : ByteArray) ++ (⟨y.toArray⟩ : ByteArray)) = ⟨(x ++ y).toArray⟩ := by
    rw [ByteArray.ext_iff]
    simp
  rw [h, encB_list]
  cases x ++ y <;> simp
theorem val_emp (x : List UInt8) : x.isEmpty = decide (x = []) := by cases x <;> simp
set_option maxRecDepth 100000 in
set_option maxHeartbeats 4000000 in
theorem bk_own (x : HEv) (hk : x.key.length ≤ 100) (hv : x.val.length ≤ 100) (w : World) :
    Calls Try.prog 36 #[.agg #[.int .u8 (x.k : Nat), .int .i64 x.x, .int .i64 x.t, encStr x.key, encStr x.val, .bool x.is]] w fun e w' => e = .returned (.bool (ownB x)) ∧ Same w w' := by
  obtain ⟨k, id, t, key, val, is⟩ := x
  dsimp only at hk hv ⊢
  obtain ⟨r, hr⟩ : ∃ r, ownB ⟨k, id, t, key, val, is⟩ = r := ⟨_, rfl⟩
  rw [hr]
  unfold ownB at hr
  dsimp only at hr
  obtain ⟨tb, ht⟩ : ∃ tb, decide (t = 0) = tb := ⟨_, rfl⟩
  obtain ⟨cb, hc⟩ : ∃ cb, decide (key ++ val = []) = cb := ⟨_, rfl⟩
  obtain ⟨vb, hvb⟩ : ∃ vb, decide (val = []) = vb := ⟨_, rfl⟩
  rw [ht, hc, hvb] at hr
  have ec := enc_cat key val
  have ev := val_emp val
  rw [hc] at ec
  rw [hvb] at ev
  have gt : (t == 0) = tb := by rw [← ht, Bool.eq_iff_iff]; simp
  have gl : ¬ 9223372036854775807 < key.length + val.length := by omega
  clear hc hvb ht hk hv
  have HR := Lib.hid hr
  clear hr
  go_enter Try.func36, Try.ntmps36
  go_upto_region 2 with fail
  refine cutWl (fun wn => Fr wn [(w.heap.size, #[.int .u8 (k : Nat), .int .i64 id, .int .i64 t, encStr key, encStr val, .bool is], 42)] ∧ Same w wn) ⟨⟨Blk.new _ _ _, trivial⟩, (Kept.refl _ _).alloc _⟩ ?_
  rintro w4 ⟨hf4, k4⟩
  have F4 := Lib.hid hf4
  have K4 := Lib.hid k4
  obtain ⟨p0, f0, -⟩ := F4.out.rules
  have z0 := F4.out.1.lt
  clear hf4 k4
  by_cases k0 : k = 0
  · subst k0
    cases tb <;> cases cb <;> cases vb <;> cases is
    all_goals
      (go_wp2_with fail)
      go_ret
      exact ⟨by rw [← HR.out]; rfl, K4.out⟩
  · have n0 : ((k : Int) == 0) = false := by simp; omega
    by_cases k1 : k = 1
    · subst k1
      clear n0
      cases tb <;> cases cb <;> cases vb <;> cases is
      all_goals
        (go_wp2_with fail)
        go_ret
        exact ⟨by rw [← HR.out]; rfl, K4.out⟩
    · have n1 : ((k : Int) == 1) = false := by simp; omega
      by_cases k2 : k = 2
      · subst k2
        clear n0 n1
        cases tb <;> cases cb <;> cases vb <;> cases is
        all_goals
          (go_wp2_with fail)
          go_ret
          exact ⟨by rw [← HR.out]; rfl, K4.out⟩
      · have n2 : ((k : Int) == 2) = false := by simp; omega
        by_cases k3 : k = 3
        · subst k3
          clear n0 n1 n2
          cases tb <;> cases cb <;> cases vb <;> cases is
          all_goals
            (go_wp2_with fail)
            go_ret
            exact ⟨by rw [← HR.out]; rfl, K4.out⟩
        · have n3 : ((k : Int) == 3) = false := by simp; omega
          have HR2 := Lib.hid (show ((false || tb) && (false || cb && !is) && (is || vb)) = r from by rw [← HR.out, decide_eq_false (show ¬ (k = 0 ∨ k = 3) by omega), decide_eq_false (show ¬ (k = 1 ∨ k = 2) by omega)])
          clear HR k0 k1 k2 k3
          have HR := HR2
          cases tb <;> cases cb <;> cases vb <;> cases is
          all_goals
            (go_wp2_with fail)
            go_ret
            exact ⟨by rw [← HR.out]; rfl, K4.out⟩
end Go.Proofs.Ytaeiajodbpgbbaa
