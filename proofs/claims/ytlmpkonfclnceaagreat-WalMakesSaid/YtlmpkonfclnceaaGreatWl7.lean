/- A log in memory: Open. -/
import Derived.Test.YtlmpkonfclnceaaGreatWl6
namespace Go.Proofs.YtlmpkonfclnceaaGreat
open Go.RowKit Go.Sort

theorem ringS_ok {D : Dsk} (h : D.OK) (f c : Nat) : ∀ b ∈ ringS D f c, Bts b ∧ b.length ≤ 1000000 := by
  intro b hb
  obtain ⟨i, _, rfl⟩ := List.mem_map.1 hb
  show Bts (readD D ((f + i : Nat) : Int)).1 ∧ (readD D ((f + i : Nat) : Int)).1.length ≤ 1000000
  unfold readD
  by_cases h0 : errD D ((f + i : Nat) : Int) = 0
  · rw [if_pos h0]
    have := getD_ok h.secs ((f + i : Nat) : Int).toNat
    exact ⟨this.hasB, by rw [this.hasL]; decide⟩
  · rw [if_neg h0]
    exact ⟨fun x hx => (by cases hx), Nat.zero_le _⟩
set_option maxRecDepth 100000 in
set_option maxHeartbeats 1600000 in
theorem wl_open {w : World} {d bs cap m : Nat} {D : Dsk} (h : DiskIn w d bs cap m D) (f c e : Int) :
    Calls Tryz.prog 14 #[.pointer (some ⟨d, 0, none⟩), .int .i64 f, .int .i64 c, .int .i64 e] w (NewPost w d bs m (newE D f c e) (openL D f c e)) := by
  have NW := Lib.hid (wl_new h f c e)
  have HD := Lib.hid h
  have few := h.ok.few
  obtain ⟨E, hE⟩ : ∃ E, newE D f c e = E := ⟨_, rfl⟩
  have HE := Lib.hid hE
  rw [hE] at NW
  rw [hE]
  clear hE h
  by_cases h0 : E = 0
  · subst h0
    have hb : 0 ≤ f ∧ 0 ≤ c ∧ c ≤ 256 ∧ f + c ≤ (D.s.length : Int) := by
      have := HE.out
      unfold newE at this
      split at this
      · omega
      · split at this
        · omega
        · omega
    obtain ⟨b1, b2, b3, b4⟩ := hb
    obtain ⟨F, rfl⟩ : ∃ F : Nat, f = (F : Int) := ⟨f.toNat, by omega⟩
    obtain ⟨C, rfl⟩ : ∃ C : Nat, c = (C : Int) := ⟨c.toNat, by omega⟩
    have hC : C ≤ 256 := by omega
    have hF : F ≤ 5000 := by omega
    clear b1 b2 b3 b4 few
    go_enter Tryz.func14, Tryz.ntmps14
    go_wp2_with fail
    with_reducible refine NW.out.mono ?_
    rintro r w2 ⟨hp, k2⟩
    rw [if_pos rfl] at hp
    obtain ⟨g, rfl, hl, hg⟩ := hp
    obtain ⟨ha, hc, wa, wc, hin⟩ := hl
    have IN := Lib.hid hin
    have K2 := Lib.hid k2
    have p0 := cell_blk hin.box
    have f0 := fun i => hin.box.free i
    have z0 := hin.box.lt
    simp only [lgC, newL] at p0
    have D2 := Lib.hid (HD.out.same k2)
    clear hin k2 NW
    have RG := Lib.hid (wl_ring D2.out F C hF hC)
    have few2 := ringS_ok D2.out.ok F C
    have RO := Lib.hid few2
    clear few2
    go_wp2_with fail
    with_reducible refine RG.out.mono ?_
    rintro r w3 ⟨⟨ra, rfl, hra⟩, k3⟩
    have RA := Lib.hid hra
    have K3 := Lib.hid k3
    have SC := Lib.hid (ws_scan ra C C (ringS D F C) (ringS_len D F C).symm hC RO.out e w3 RA.out)
    clear hra k3 p0 f0 RG
    obtain ⟨Z, hZ⟩ : ∃ Z, scanS e 0 (ringS D F C) = Z := ⟨_, rfl⟩
    rw [hZ] at SC
    have HZ := Lib.hid hZ
    clear hZ
    go_wp2_with fail
    with_reducible refine SC.out.mono ?_
    rintro r w4 ⟨⟨v, rfl, ho⟩, k4⟩
    obtain ⟨a5, l5, c5, rfl, hl5, hn5, ha5, hc5⟩ := OwnE.rd ho
    have OW := Lib.hid ho
    have K4 := Lib.hid (K3.out.trans k4)
    have B4 := Lib.hid (IN.out.box.kept (K3.out.trans k4) (fun h => h))
    have hks := K3.out.size
    have p0 := cell_blk B4.out
    have f0 := fun i => B4.out.free i
    have z4 := B4.out.lt
    simp only [lgC, newL] at p0
    clear k4 ho SC
    go_wp2_with fail
    go_ret2
    have hH : openL D (F : Int) (C : Int) e = { newL F C e with has := Z.1, closed := true } := by
      unfold openL
      rw [← HZ.out]
      rfl
    rw [hH]
    have kz : Kept (fun j => j = g) w4 ((w4.setCell ⟨g, 5, none⟩ (.slice a5 l5 c5)).setCell ⟨g, 7, none⟩ (.bool true)) := ((Kept.refl _ _).setG _ _).setG _ _
    have hi := IN.out
    have K34 : Same w2 w4 := K4.out
    have F5 : ∀ y, a5 = some y → w3.heap.size ≤ y.block ∧ y.block < w4.heap.size ∧ ∃ b o, y = ⟨b, o, none⟩ := by
      intro y hy
      have := World.ownsRow.lt OW.out y.block (by rw [hy]; rfl)
      refine ⟨this.1, this.2, ?_⟩
      rcases OW.out.2 with ⟨q, _⟩ | ⟨g', cap, cur, q, _⟩
      · simp at q; rw [q.1] at hy; cases hy
      · simp at q; rw [q.1] at hy; cases hy; exact ⟨_, _, rfl⟩
    have l1 := D2.out.box.lt; have l2 := D2.out.safe.lt; have l3 := D2.out.map.lt
    refine ⟨?_, (K2.out.trans K34).step kz (fun j hj q => by omega)⟩
    rw [if_pos rfl]
    refine ⟨g, rfl, ⟨a5, c5, wa, wc, ⟨?_, ha5.out.kept kz (fun y hy => ?_), ?_, hn5.out, .inl rfl, hi.wcap, hi.wnil, hi.og, fun y hy => ?_, fun y hy => ?_⟩⟩, hg⟩
    · have := (B4.out.set 5 (.slice a5 l5 c5)).set 7 (.bool true)
      rw [hl5.out] at this
      rw [hl5.out]
      simpa [lgC, newL] using this
    · have := (F5 y hy).1
      omega
    · show Z.1.length ≤ c5
      rw [← hl5.out]
      exact hc5.out.1
    · have q := F5 y hy
      refine ⟨by rintro (z | z | z) <;> omega, by omega, Nat.lt_of_lt_of_le q.2.1 kz.size, q.2.2⟩
    · have q := hi.ow y hy
      exact ⟨q.1, q.2.1, Nat.lt_of_lt_of_le q.2.2.1 (Nat.le_trans K34.size kz.size), q.2.2.2⟩
  · have h0' : ¬ (E : Int) = 0 := by omega
    go_enter Tryz.func14, Tryz.ntmps14
    go_wp2_with fail
    with_reducible refine NW.out.mono ?_
    rintro r w2 ⟨hp, k2⟩
    rw [if_neg h0] at hp
    subst hp
    go_wp2_with fail
    go_ret2
    exact newPost_err h0 k2
end Go.Proofs.YtlmpkonfclnceaaGreat
