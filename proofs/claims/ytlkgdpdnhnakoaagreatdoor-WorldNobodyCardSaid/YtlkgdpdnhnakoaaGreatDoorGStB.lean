/- GStB: St8, StQ, St15, St16, StF, St11, St12. -/
import Derived.Test.YtlkgdpdnhnakoaaGreatDoorGStA
import Derived.Test.YtlkgdpdnhnakoaaGreatDoorGBx
import Derived.Test.YtlkgdpdnhnakoaaGreatDoorGBmA
import Derived.Test.YtlkgdpdnhnakoaaGreatDoorGFm
import Derived.Test.YtlkgdpdnhnakoaaGreatDoorGBz
namespace Go.Proofs.YtlkgdpdnhnakoaaGreatDoor
open Go.RowKit Go.Sort Go.Shelf

def Sto.free (S : Sto) (n : Int) : Sto × Nat := if S.hasE n ≠ 0 then (S, S.hasE n) else ({ S with nwords := setN (S.nsize : Nat) S.nwords n false }, 0)
theorem setN_len' (s : Int) (ws : List Nat) (n : Int) (on : Bool) : (setN s ws n on).length = ws.length := by
  unfold setN; split
  · exact putN_length _ _ _
  · rfl
theorem setN_words' {s : Int} {ws : List Nat} (hw : Words ws) (n : Int) (on : Bool) : Words (setN s ws n on) := by
  unfold setN; split
  · exact putN_words hw _ _
  · exact hw
end Go.Proofs.YtlkgdpdnhnakoaaGreatDoor

namespace Go.Proofs.YtlkgdpdnhnakoaaGreatDoor
open Go.RowKit

theorem OwnN.natsA {w : World} {base : Nat} {e : TypeId} {k : IntKind} {a : Option Addr} {n cap : Nat} {xs : List Nat} (h : OwnN w base e k (.slice a n cap) xs) : NatsAt w k a xs := by
  obtain ⟨a', cap', e', _, _, _, h4, _⟩ := h.read
  injection e' with e1
  subst e1
  exact h4
/-- The next number that is in, or not. -/
def nextF (s : Int) (ws : List Nat) (f : Int) (on : Bool) : Option Nat := if mapOK s ws = true then (List.range s.toNat).find? (fun j : Nat => decide (f ≤ (j : Int)) && (bitN ws j == on)) else none
theorem find_range (p : Nat → Bool) (n : Nat) : match (List.range n).find? p with
    | some k => k < n ∧ p k = true ∧ ∀ j, j < k → p j = false
    | none => ∀ j, j < n → p j = false := by
  induction n with
  | zero => simp
  | succ n ih =>
    rw [List.range_succ, List.find?_append]
    cases h : (List.range n).find? p with
    | some k => rw [h] at ih; simp only [Option.some_or]; exact ⟨by omega, ih.2⟩
    | none =>
      rw [h] at ih
      have ih' : ∀ j, j < n → p j = false := ih
      simp only [Option.none_or, List.find?_singleton]
      cases hp : p n with
      | true =>
        simp only [if_true]
        exact ⟨by omega, hp, ih'⟩
      | false =>
        simp only [Bool.false_eq_true, if_false]
        intro j hj
        by_cases e : j = n
        · rw [e, hp]
        · exact ih' j (by omega)
theorem nextF_spec (s : Int) (ws : List Nat) (f : Int) (on : Bool) : NextSpec s ws f on (nextF s ws f on) := by
  unfold nextF
  split
  · rename_i hm
    have hp := (mapOK_pos hm).1
    have hf := find_range (fun j : Nat => decide (f ≤ (j : Int)) && (bitN ws j == on)) s.toNat
    cases h : (List.range s.toNat).find? (fun j : Nat => decide (f ≤ (j : Int)) && (bitN ws j == on)) with
    | some k =>
      rw [h] at hf
      obtain ⟨h1, h2, h3⟩ := hf
      simp at h2
      refine ⟨hm, h2.1, by omega, h2.2, fun j hj hjk => ?_⟩
      have := h3 j hjk
      simp [hj] at this
      cases hb : bitN ws j <;> cases on <;> simp_all
    | none =>
      rw [h] at hf
      intro _ j hj hjs
      have := hf j (by omega)
      simp [hj] at this
      cases hb : bitN ws j <;> cases on <;> simp_all
  · rename_i hm
    intro h
    exact absurd h hm
theorem mixS_on {s : Nat} {xs ys : List Nat} (h1 : mapOK (s : Nat) xs = true) (h2 : mapOK (s : Nat) ys = true) : mixS s s xs ys = s := by simp [mixS, h1, h2]
theorem mixW_on (op : Nat → Nat → Nat) {s : Nat} {xs ys : List Nat} (h1 : mapOK (s : Nat) xs = true) (h2 : mapOK (s : Nat) ys = true) : mixW op s s xs ys = mixK op xs ys ((s + 63) / 64) ((s + 63) / 64) := by simp [mixW, h1, h2]
theorem or_bits (xs ys : List Nat) (L j : Nat) (hj : j < 64 * L) : bitN (mixK (· ||| ·) xs ys L L) j = (bitN xs j || bitN ys j) := by
  rw [mixK_bit _ _ _ _ _ hj, Nat.testBit_or]; rfl
theorem or_wordsM {xs ys : List Nat} (hx : Words xs) (hy : Words ys) (L : Nat) : Words (mixK (· ||| ·) xs ys L L) := by
  rw [← combN_false]; exact mixK_words false hx hy L
theorem or_okM {s : Nat} {xs ys : List Nat} (hx : Words xs) (hy : Words ys) (h1 : mapOK (s : Nat) xs = true) (h2 : mapOK (s : Nat) ys = true) : mapOK (s : Nat) (mixK (· ||| ·) xs ys ((s + 63) / 64) ((s + 63) / 64)) = true := by
  have k1 := (mapOK_iff hx).1 h1
  have k2 := (mapOK_iff hy).1 h2
  refine (mapOK_iff (or_wordsM hx hy _)).2 ⟨k1.1, mixK_len _ _ _ _ _, fun n h3 h4 => ?_⟩
  rw [mixK_len] at h4
  rw [or_bits _ _ _ _ h4, k1.2.2 n h3 (by rw [k1.2.1]; exact h4), k2.2.2 n h3 (by rw [k2.2.1]; exact h4)]
  rfl
/-- The maps of a store are maps of one size. -/
structure Sto.Fit (S : Sto) : Prop where
  now : mapOK (S.nsize : Nat) S.nwords = true
  cnt : mapOK (S.nsize : Nat) S.r.words = true
  one : S.r.size = S.nsize
  four : 4 ≤ S.nsize
  nw : Words S.nwords
  rw_ : Words S.r.words
  gen : S.r.gen ≤ 1099511627776
def Sto.both (S : Sto) : List Nat := mixK (· ||| ·) S.nwords S.r.words ((S.nsize + 63) / 64) ((S.nsize + 63) / 64)
def Sto.pick (S : Sto) : Option Nat := nextF (S.nsize : Nat) S.both 0 false
def Sto.alloc (S : Sto) : Sto × Nat × Nat := if S.bad = true then (S, 0, 11) else match S.pick with
  | none => (S, 0, 7)
  | some n => ({ S with nwords := setN (S.nsize : Nat) S.nwords (n : Nat) true }, n, 0)
def Sto.roomS (S : Sto) : Nat := S.nsize - rankN (S.nsize : Nat) S.both (S.nsize : Nat)
theorem Sto.Fit.mixs {S : Sto} (h : S.Fit) : mixS (S.nsize : Nat) (S.r.size : Nat) S.nwords S.r.words = (S.nsize : Nat) ∧ mixW (· ||| ·) (S.nsize : Nat) (S.r.size : Nat) S.nwords S.r.words = S.both := by
  rw [h.one]
  exact ⟨mixS_on h.now h.cnt, mixW_on _ h.now h.cnt⟩
theorem Sto.Fit.bothW {S : Sto} (h : S.Fit) : Words S.both := or_wordsM h.nw h.rw_ _
theorem Sto.Fit.bothOK {S : Sto} (h : S.Fit) : mapOK (S.nsize : Nat) S.both = true := or_okM h.nw h.rw_ h.now h.cnt
theorem setN_ok' {s : Nat} {ws : List Nat} (hw : Words ws) (h : mapOK (s : Nat) ws = true) (n : Int) (on : Bool) : mapOK (s : Nat) (setN (s : Nat) ws n on) = true := by
  unfold setN
  split
  · rename_i hin
    have hix := inB_index hin
    have k := (mapOK_iff hw).1 h
    refine (mapOK_iff (putN_words hw _ _)).2 ⟨k.1, (putN_length _ _ _).trans k.2.1, fun j h1 h2 => ?_⟩
    rw [putN_length] at h2
    rw [putN_bit _ _ _ hix.2.2.2.1, if_neg (by omega)]
    exact k.2.2 j h1 h2
  · exact h
theorem Sto.Fit.setNow {S : Sto} (h : S.Fit) (n : Int) (on : Bool) : ({ S with nwords := setN (S.nsize : Nat) S.nwords n on } : Sto).Fit :=
  ⟨setN_ok' h.nw h.now n on, h.cnt, h.one, h.four, setN_words' h.nw n on, h.rw_, h.gen⟩
theorem Sto.Fit.pick_lt {S : Sto} (_h : S.Fit) {n : Nat} (hp : S.pick = some n) : n < S.nsize := by
  have := nextF_spec (S.nsize : Nat) S.both 0 false
  unfold Sto.pick at hp
  rw [hp] at this
  have := this.2.2.1
  omega
end Go.Proofs.YtlkgdpdnhnakoaaGreatDoor

namespace Go.Proofs.YtlkgdpdnhnakoaaGreatDoor
open Go.RowKit Go.Sort Go.Shelf

def Sto.synD (S : Sto) : Dsk := (syncD S.D).1
def Sto.nextR (S : Sto) (body : List Nat) : Rt := ⟨max S.r.gen (seenD S.synD) + 1, 1 - S.r.slot, S.r.ring, S.nsize, S.nwords, body⟩
def Sto.commit (S : Sto) (body : List Nat) : Sto × Nat :=
  if S.bad = true then (S, 11) else if 700 < body.length then (S, 5)
  else if (syncD S.D).2 ≠ 0 then (S.did (syncD S.D), (syncD S.D).2)
  else ({ S with D := S.synD } : Sto).write (S.nextR body)
theorem seenD_le (D : Dsk) : seenD D ≤ 1099511627776 := by
  unfold seenD
  have h1 := seenSl_le (secsS D 0)
  have h2 := seenSl_le (secsS D 1)
  omega
set_option maxRecDepth 100000 in
set_option maxHeartbeats 3200000 in
theorem st_Commit {w : World} {p d bs m : Nat} {S : Sto} (h : StoIn w p d bs m S) (hf : S.Fit) (a : Option Addr) (l c : Nat) (body : List Nat) (hl : l = body.length) (hb : Bts body) (hc : l ≤ c) (hat : NatsAt w .u8 a body) (hA : body = [] ∨ Apt a (FS p d bs m)) :
    Calls Tryz.prog 96 #[.pointer (some ⟨p, 0, none⟩), .slice a l c] w (StPost w p d bs m (S.commit body).1 (.int .i64 (((S.commit body).2 : Nat) : Int)) (FS p d bs m)) := by
  obtain ⟨R, hR⟩ : ∃ R, StPost w p d bs m (S.commit body).1 (.int .i64 (((S.commit body).2 : Nat) : Int)) (FS p d bs m) = R := ⟨_, rfl⟩
  rw [hR]
  have HR := Lib.hid hR
  clear hR
  have H := Lib.hid h
  have FT := Lib.hid hf
  obtain ⟨cap, wa, wc, ba, bc, na, nc, h1, h2, h3, h4, h5, h6, h7, h8, h9, h10, h11, h12⟩ := h
  have AL := Lib.hid (st_alive h1)
  have SY := Lib.hid (sd_sync h2)
  have HB := Lib.hid (And.intro hb (And.intro hat hA))
  have HC := Lib.hid hc
  have HN := Lib.hid (show a = none → body = [] from fun q => by rcases hat with z | ⟨_, _, z, _⟩; exact z; rw [q] at z; cases z)
  have PC := Lib.hid (cell_blk h1)
  have GB := Lib.hid h1
  have GP := Lib.hid (show ¬ dod d bs m p from h12)
  have FL := Lib.hid (show ∀ g, FS p d bs m g → g < w.heap.size from fun g hg => hg.elim (fun q => q ▸ h1.lt) (fun q => h2.lt3 g q))
  have HW := Lib.hid (And.intro h3.few (And.intro h3.w64 (And.intro h5 (And.intro h6 (And.intro h7 h8)))))
  have MK := Lib.hid (fun W (D' : Dsk) (bad : Bool) (hb : Blk W p (stC d S.r wa wc ba bc S.nsize na S.nwords.length nc bad) 169) (hd : DiskIn W d bs cap m D') (k : Kept (FS p d bs m) w W) => show StoIn W p d bs m { S with D := D', bad := bad } from
    ⟨cap, wa, wc, ba, bc, na, nc, hb, hd, h3.kept k h9 h10, h4.kept k h11, h5, h6, h7, h8, h9, h10, h11, h12⟩)
  have NK := Lib.hid (fun W (k : Kept (FS p d bs m) w W) => h4.kept k h11)
  have NA := Lib.hid h11
  unfold stC at PC
  by_cases hbad : S.bad = true
  · have e : S.commit body = (S, 11) := by unfold Sto.commit; rw [if_pos hbad]
    rw [e] at HR
    rw [hbad, if_pos rfl] at AL
    have FIN := Lib.hid (show R (.returned (.int .i64 11)) w from by rw [← HR.out]; exact ⟨rfl, H.out, Kept.refl _ _⟩)
    clear h1 h2 h3 h4 h5 h6 h7 h8 h9 h10 h11 h12 e hb hat hl hA hbad hf hc
    go_enter Tryz.func96, Tryz.ntmps96
    go_wp2_with fail
    with_reducible refine AL.out.mono ?_
    rintro e w1 ⟨rfl, rfl⟩
    clear AL
    go_wp2_with fail
    exact FIN.out
  rw [if_neg hbad] at AL
  have hbf : S.bad = false := by simpa using hbad
  by_cases h700 : 700 < body.length
  · have e : S.commit body = (S, 5) := by unfold Sto.commit; rw [if_neg hbad, if_pos h700]
    rw [e] at HR
    have FIN := Lib.hid (show R (.returned (.int .i64 5)) w from by rw [← HR.out]; exact ⟨rfl, H.out, Kept.refl _ _⟩)
    rw [← hl] at h700
    clear h1 h2 h3 h4 h5 h6 h7 h8 h9 h10 h11 h12 e hb hat hl hA hbad hf hbf hc
    go_enter Tryz.func96, Tryz.ntmps96
    go_wp2_with fail
    with_reducible refine AL.out.mono ?_
    rintro e w1 ⟨rfl, rfl⟩
    clear AL
    go_wp2_with fail
    exact FIN.out
  have HE : Hid (S.commit body = if (syncD S.D).2 ≠ 0 then (S.did (syncD S.D), (syncD S.D).2) else ({ S with D := S.synD } : Sto).write (S.nextR body)) := by show _ = _; unfold Sto.commit; rw [if_neg hbad, if_neg h700]
  obtain ⟨q, hq⟩ : ∃ q, syncD S.D = q := ⟨_, rfl⟩
  have HD := Lib.hid (show S.synD = q.1 from by rw [← hq]; rfl)
  rw [hq] at SY HE
  obtain ⟨D1, er⟩ := q
  dsimp only at SY HE HD
  rw [hbf] at PC GB
  rw [← hl] at h700
  have HL := Lib.hid hl
  clear h1 h2 h3 h4 h5 h6 h7 h8 h9 h10 h11 h12 hb hat hl hA hbad hf hq hc
  go_enter Tryz.func96, Tryz.ntmps96
  go_wp2_with fail
  with_reducible refine AL.out.mono ?_
  rintro e w1 ⟨rfl, rfl⟩
  have pc := PC.out
  clear AL
  go_wp2_with fail
  with_reducible refine SY.out.mono ?_
  rintro e w2 ⟨rfl, hd2, k2⟩
  have D2 := Lib.hid hd2
  have K2 := Lib.hid k2
  have B2 := Lib.hid (GB.out.kept k2 GP.out)
  have DO := Lib.hid (st_done B2.out er)
  clear pc hd2 k2 SY
  go_wp2_with fail
  with_reducible refine DO.out.mono ?_
  rintro e w3 ⟨rfl, hb3, k3⟩
  have K3 := Lib.hid (show Kept (FS p d bs m) w1 w3 from (K2.out.mono (fun _ _ q => .inr q)).trans (k3.mono (fun _ _ q => .inl q)))
  have D3 := Lib.hid (D2.out.kept k3 (fun q => GP.out (.inl q.symm)) (fun q => GP.out (.inr (.inl q.symm))) (fun q => GP.out (.inr (.inr q.symm))))
  have B3 := Lib.hid hb3
  clear k3 hb3 DO D2 B2
  by_cases he : er = 0
  rotate_left
  · have FI := Lib.hid (show R (.returned (.int .i64 (er : Nat))) w3 from by
      rw [← HR.out, HE.out, if_pos he]
      have := MK.out w3 D1 (false || decide (er ≠ 0)) B3.out D3.out K3.out
      refine ⟨rfl, ?_, K3.out⟩
      unfold Sto.did
      rw [hbf]
      exact this)
    have g3 : ((er : Int) != 0) = true := by simp; omega
    clear he
    go_wp2_with fail
    exact FI.out
  subst he
  have B3b := Lib.hid (show Blk w3 p (stC d S.r wa wc ba bc S.nsize na S.nwords.length nc false) 169 from by have := B3.out; simpa using this)
  have I3 := Lib.hid (show StoIn w3 p d bs m { S with D := D1 } from by have := MK.out w3 D1 false B3b.out D3.out K3.out; rw [← hbf] at this; exact this)
  have HE2 := Lib.hid (show S.commit body = ({ S with D := D1 } : Sto).write (S.nextR body) from by rw [HE.out, if_neg (by simp), HD.out])
  have SE := Lib.hid (fun w' (k : Same w3 w') => st_seen (D3.out.same k))
  have CL := Lib.hid (fun w' (k : Same w3 w') => by_clone a c body w' ((HB.out.2.1.kept' K3.out HB.out.2.2).same k) (by have := h700; have := HL.out; omega) HN.out)
  have HG := Lib.hid (show S.nextR body = ⟨max S.r.gen (seenD D1) + 1, 1 - S.r.slot, S.r.ring, S.nsize, S.nwords, body⟩ from by unfold Sto.nextR; rw [HD.out])
  have SL := Lib.hid (seenD_le D1)
  obtain ⟨sn, hsn⟩ : ∃ sn, seenD D1 = sn := ⟨_, rfl⟩
  rw [hsn] at SE HG SL
  rw [← HL.out] at CL
  have hg := FT.out.gen
  have hsl := HW.out.1.2.1
  have hnl := SL.out
  obtain ⟨G, hG⟩ : ∃ G, max S.r.gen sn + 1 = G := ⟨_, rfl⟩
  obtain ⟨T, hT⟩ : ∃ T, 1 - S.r.slot = T := ⟨_, rfl⟩
  rw [hG, hT] at HG
  have gm : max (S.r.gen : Int) (sn : Int) = ((G - 1 : Nat) : Int) := by omega
  have gw : IntKind.i64.wrap (((G - 1 : Nat) : Int) + 1) = (G : Int) := by rw [IntKind.wrap_i64]; omega
  have gw2 : IntKind.i64.wrap (1 - (S.r.slot : Int)) = (T : Int) := by rw [IntKind.wrap_i64]; omega
  have GT := Lib.hid (show G ≤ 1099511627777 ∧ T ≤ 1 from by omega)
  have QX := Lib.hid (show ∀ w', Same w3 w' → (∀ i, w'.cell? ⟨p, i, none⟩ = _) from fun w' k => cell_blk (B3b.out.kept k (fun h => h)))
  unfold stC at QX
  clear hG hT hg hsl hnl hsn D3 K2 B3 HE HD
  go_wp2_with fail
  refine wp_region_T (S := fun w' => Same w3 w') 31 (by kernel_rfl) (Kept.refl _ _).drew (fun hHeld hDn => ?_)
  refine wpT_z 0 25 QX hHeld hDn fun hDn => ?_
  refine wpT_z 1 26 QX hHeld hDn fun hDn => ?_
  refine wpT_z 2 27 QX hHeld hDn fun hDn => ?_
  refine wpT_z 3 28 QX hHeld hDn fun hDn => ?_
  refine wpT_z 4 29 QX hHeld hDn fun hDn => ?_
  refine wpT_z 5 30 QX hHeld hDn fun hDn => ?_
  refine wpT_z 6 31 QX hHeld hDn fun hDn => ?_
  refine wpT_z 7 32 QX hHeld hDn fun hDn => ?_
  refine wpT_z 8 33 QX hHeld hDn fun hDn => ?_
  refine wpT_z 9 34 QX hHeld hDn fun hDn => ?_
  refine wpT_z 13 38 QX hHeld hDn fun hDn => ?_
  refine wpT_z 14 39 QX hHeld hDn fun hDn => ?_
  refine wpT_z 15 40 QX hHeld hDn fun hDn => ?_
  refine wpT_z 16 41 QX hHeld hDn fun hDn => ?_
  refine wpT_z 17 42 QX hHeld hDn fun hDn => ?_
  refine wpT_z 18 43 QX hHeld hDn fun hDn => ?_
  refine wpT_z 19 44 QX hHeld hDn fun hDn => ?_
  refine wpT_z 20 45 QX hHeld hDn fun hDn => ?_
  refine wpT_z 21 46 QX hHeld hDn fun hDn => ?_
  refine wpT_z 22 47 QX hHeld hDn fun hDn => ?_
  refine wpT_z 23 48 QX hHeld hDn fun hDn => ?_
  refine wpT_z 24 49 QX hHeld hDn fun hDn => ?_
  refine wpT_z 25 50 QX hHeld hDn fun hDn => ?_
  refine wpT_z 26 51 QX hHeld hDn fun hDn => ?_
  refine wpT_z 27 52 QX hHeld hDn fun hDn => ?_
  refine wpT_z 28 53 QX hHeld hDn fun hDn => ?_
  refine wpT_one (i := 10) rfl (by kernel_rfl) hDn (fun K' hK => ?_)
  go_simp
  with_reducible refine (SE.out _ ((Kept.refl _ _).drew)).mono ?_
  rintro e w5 ⟨rfl, k5⟩
  have K5 := Lib.hid (show Same w3 w5 from ((Kept.refl _ _).drew).trans k5)
  refine hK.out _ _ K5.out (fun hHeld2 hDn2 => ?_)
  clear hK K' hHeld hDn k5
  have hHeld := hHeld2; have hDn := hDn2
  clear hHeld2 hDn2
  refine wpT_z 11 36 QX hHeld hDn fun hDn => ?_
  refine wpT_z 12 37 QX hHeld hDn fun hDn => ?_
  refine wpT_one (i := 29) rfl (by kernel_rfl) hDn (fun K' hK => ?_)
  go_simp
  with_reducible refine (CL.out _ K5.out).mono ?_
  rintro e w6 ⟨v6, rfl, o6, k6⟩
  have K6 := Lib.hid (show Same w3 w6 from K5.out.trans k6)
  obtain ⟨a6, c6, rfl, q1, q2, q3, q4, q5⟩ := o6.read
  have RT := Lib.hid (show RtAt w6 ⟨G, T, S.r.ring, S.nsize, S.nwords, body⟩ na nc a6 c6 from
    ⟨(NK.out w3 K3.out).same K6.out, q4, HW.out.2.2.1, q1, q3, HW.out.2.2.2.1, HB.out.1, GT.out.1, GT.out.2, HW.out.1.2.2.1, HW.out.2.2.2.2.1, HW.out.2.2.2.2.2, by rw [← HL.out]; omega⟩)
  have AP := Lib.hid (show Apt a6 (FS p d bs m) from fun x hx q => by have h1 := (q5 x hx).1; have h2 := FL.out _ q; have := K5.out.size; have := K3.out.size; omega)
  have WR := Lib.hid (fun w' (k : Same w6 w') => st_write (I3.out.same (K6.out.trans k)) ⟨G, T, S.r.ring, S.nsize, S.nwords, body⟩ na nc a6 c6 (RT.out.same k) NA.out AP.out)
  unfold rtC at WR
  dsimp only at WR
  rw [← HL.out] at WR ⊢
  refine hK.out _ _ K6.out (fun hHeld2 hDn2 => ?_)
  clear hK K' hHeld hDn k6 o6 q1 q2 q3 q4 q5
  have hHeld := hHeld2; have hDn := hDn2
  clear hHeld2 hDn2
  refine wpT_z 30 55 QX hHeld hDn fun hDn => ?_
  refine wpT_last rfl (by kernel_rfl) hDn (fun K' hK => ?_)
  go_simp
  have HE3 := Lib.hid (show S.commit body = ({ S with D := D1 } : Sto).write ⟨G, T, S.r.ring, S.nsize, S.nwords, body⟩ from by rw [HE2.out, HG.out])
  generalize ({ S with D := D1 } : Sto).write ⟨G, T, S.r.ring, S.nsize, S.nwords, body⟩ = Q at WR HE3
  with_reducible refine (WR.out _ (Kept.refl _ _)).mono ?_
  rintro e w7 ⟨rfl, s7, k7⟩
  have FI := Lib.hid (show R (.returned (.int .i64 (Q.2 : Nat))) w7 from by
    rw [← HR.out, HE3.out]
    exact ⟨rfl, s7, K3.out.trans ((K6.out.mono (fun _ _ q => q.elim)).trans k7)⟩)
  refine hK.out _ _ (fun hDn2 => ?_)
  clear hK K' hHeld hDn k7 s7
  have hDn := hDn2
  clear hDn2
  refine wpT_ze 32 4 hDn fun hDn => ?_
  refine wpT_done (by kernel_rfl) ?_ _
  clear hDn QX
  go_wp2_with fail
  exact FI.out
end Go.Proofs.YtlkgdpdnhnakoaaGreatDoor

namespace Go.Proofs.YtlkgdpdnhnakoaaGreatDoor
open Go.RowKit Go.Sort Go.Shelf

def sto0 (D : Dsk) : Sto := ⟨D, rt0, 0, [], false⟩
def fmtR (D : Dsk) (log : Nat) : Rt := ⟨seenD D + 1, 0, log, roomN D.s.length log, List.replicate ((roomN D.s.length log + 63) / 64) 0, []⟩
/-- A store is made: the disk that is left, the store, the error. -/
def fmtS (D : Dsk) (log : Int) : Dsk × Option Sto × Nat :=
  if D.off = true then (D, none, 8)
  else if log < 0 ∨ 256 < log ∨ roomN D.s.length log.toNat < 4 then (D, none, 2)
  else if ((sto0 D).write (fmtR D log.toNat)).2 ≠ 0 then (((sto0 D).write (fmtR D log.toNat)).1.D, none, ((sto0 D).write (fmtR D log.toNat)).2)
  else (((sto0 D).write (fmtR D log.toNat)).1.D, some ((sto0 D).write (fmtR D log.toNat)).1, 0)
/-- What Format tells. -/
def FmtPost (w : World) (d bs m : Nat) (q : Dsk × Option Sto × Nat) (e : Ending) (w' : World) : Prop :=
  (match q.2.1 with
    | none => e = .returned (.tuple #[.pointer none, .int .i64 (q.2.2 : Nat)]) ∧ ∃ cap, DiskIn w' d bs cap m q.1
    | some S => ∃ p, e = .returned (.tuple #[.pointer (some ⟨p, 0, none⟩), .int .i64 0]) ∧ StoIn w' p d bs m S ∧ w.heap.size ≤ p) ∧ Kept (dod d bs m) w w'
theorem OwnN.not_blk {w : World} {base : Nat} {e : TypeId} {k : IntKind} {g n c : Nat} {xs : List Nat} {cs : Array Value} {t : TypeId} (h : OwnN w base e k (.slice (some ⟨g, 0, none⟩) n c) xs) (hb : Blk w g cs t) (hne : t ≠ e) : False :=
  hb.not_row hne h (by simp [Value.ownBlock])
theorem apt_none {fp : Nat → Prop} : Apt none fp := fun _ h => by cases h
theorem words_nil : Words [] := fun _ h => by cases h
theorem bts_nil : Bts [] := fun _ h => by cases h
theorem seenD_lo (D : Dsk) : seenD D ≤ 1099511627776 := by
  unfold seenD
  have h1 := seenSl_le (secsS D 0)
  have h2 := seenSl_le (secsS D 1)
  omega
theorem zero_words (n : Nat) : Words (List.replicate n 0) := fun x hx => by rw [List.eq_of_mem_replicate hx]; decide
set_option maxRecDepth 100000 in
set_option maxHeartbeats 3200000 in
theorem st_Format {w : World} {d bs cap m : Nat} {D : Dsk} (h : DiskIn w d bs cap m D) (log : Int) :
    Calls Tryz.prog 34 #[.pointer (some ⟨d, 0, none⟩), .int .i64 log] w (FmtPost w d bs m (fmtS D log)) := by
  obtain ⟨R, hR⟩ : ∃ R, FmtPost w d bs m (fmtS D log) = R := ⟨_, rfl⟩
  rw [hR]
  have HR := Lib.hid hR
  clear hR
  have AS := Lib.hid (st_asked h)
  have H := Lib.hid h
  by_cases hoff : D.off = true
  · have FIN := Lib.hid (show R (.returned (.tuple #[.pointer none, .int .i64 8])) w from by
      rw [← HR.out]
      unfold fmtS
      rw [if_pos hoff]
      exact ⟨⟨rfl, cap, H.out⟩, Kept.refl _ _⟩)
    rw [hoff, if_pos rfl] at AS
    clear h hoff
    go_enter Tryz.func34, Tryz.ntmps34
    go_wp2_with fail
    with_reducible refine AS.out.mono ?_
    rintro e w1 ⟨rfl, rfl⟩
    clear AS
    go_wp2_with fail
    exact FIN.out
  have ho : D.off = false := by simpa using hoff
  rw [ho, if_neg (by decide)] at AS
  have F2 := Lib.hid (fun (hb : log < 0 ∨ 256 < log ∨ roomN D.s.length log.toNat < 4) => show R (.returned (.tuple #[.pointer none, .int .i64 2])) w from by
    rw [← HR.out]
    unfold fmtS
    rw [if_neg hoff, if_pos hb]
    exact ⟨⟨rfl, cap, H.out⟩, Kept.refl _ _⟩)
  by_cases hneg : log < 0
  · have FI := Lib.hid (F2.out (.inl hneg))
    clear h hoff ho F2
    go_enter Tryz.func34, Tryz.ntmps34
    go_wp2_with fail
    with_reducible refine AS.out.mono ?_
    rintro e w1 ⟨rfl, rfl⟩
    clear AS
    go_wp2_with fail
    exact FI.out
  obtain ⟨L, rfl⟩ := Int.eq_ofNat_of_zero_le (show 0 ≤ log by omega)
  clear hneg
  rw [Int.toNat_natCast] at F2
  by_cases hbig : 256 < L
  · have FI := Lib.hid (F2.out (.inr (.inl (by omega))))
    have g1 : (256 : Int) < (L : Int) := by omega
    have g2 : ¬ (L : Int) < 0 := by omega
    clear h hoff ho F2 hbig
    go_enter Tryz.func34, Tryz.ntmps34
    go_wp2_with fail
    with_reducible refine AS.out.mono ?_
    rintro e w1 ⟨rfl, rfl⟩
    clear AS
    go_wp2_with fail
    exact FI.out
  have RM := Lib.hid (fun w' (k : Same w w') => (st_room (h.same k) L (by omega)).mono (R' := fun e w'' => e = .returned (.int .i64 (((fmtR D L).size : Nat) : Int)) ∧ w'' = w') fun _ _ q => q)
  have g1 : ¬ (256 : Int) < (L : Int) := by omega
  have g2 : ¬ (L : Int) < 0 := by omega
  by_cases hfew : roomN D.s.length L < 4
  · have FI := Lib.hid (F2.out (.inr (.inr hfew)))
    obtain ⟨rm, hrm⟩ : ∃ rm, (fmtR D L).size = rm := ⟨_, rfl⟩
    have g3 : (rm : Int) < 4 := by have : (fmtR D L).size < 4 := hfew; omega
    rw [hrm] at RM
    have RW := Lib.hid (RM.out w (Kept.refl _ _))
    clear h hoff ho F2 hbig hfew hrm RM
    go_enter Tryz.func34, Tryz.ntmps34
    go_wp2_with fail
    with_reducible refine AS.out.mono ?_
    rintro e w1 ⟨rfl, rfl⟩
    clear AS
    go_wp2_with fail
    with_reducible refine RW.out.mono ?_
    rintro e w1 ⟨rfl, rfl⟩
    go_wp2_with fail
    exact FI.out
  have HF : Hid (fmtS D (L : Nat) = if ((sto0 D).write (fmtR D L)).2 ≠ 0 then (((sto0 D).write (fmtR D L)).1.D, none, ((sto0 D).write (fmtR D L)).2) else (((sto0 D).write (fmtR D L)).1.D, some ((sto0 D).write (fmtR D L)).1, 0)) := by
    show _ = _
    unfold fmtS
    rw [if_neg hoff, if_neg (by rw [Int.toNat_natCast]; omega), Int.toNat_natCast]
  have hR5 : (fmtR D L).size ≤ 512 := roomN_le _ _
  have HQ := Lib.hid (show fmtR D L = ⟨seenD D + 1, 0, L, (fmtR D L).size, List.replicate (((fmtR D L).size + 63) / 64) 0, []⟩ from rfl)
  have h4 : ¬ (fmtR D L).size < 4 := hfew
  obtain ⟨rm, hrm⟩ : ∃ rm, (fmtR D L).size = rm := ⟨_, rfl⟩
  rw [hrm] at RM HQ h4 hR5
  have g3 : ¬ (rm : Int) < 4 := by omega
  have NW := Lib.hid (fun w' => bm_new_ok rm w' (by omega))
  unfold mapV at NW
  have SE := Lib.hid (fun w' (k : Same w w') => st_seen (h.same k))
  have SL := Lib.hid (seenD_lo D)
  obtain ⟨sn, hsn⟩ : ∃ sn, seenD D = sn := ⟨_, rfl⟩
  rw [hsn] at SE HQ SL
  have gl := SL.out
  have gw : IntKind.i64.wrap ((sn : Int) + 1) = (sn : Int) + 1 := by rw [IntKind.wrap_i64]; omega
  have R5 := Lib.hid hR5; have L5 := Lib.hid hbig
  have DL := Lib.hid h.lt3
  clear h hoff ho F2 hbig hfew hrm h4 hR5 hsn gl
  go_enter Tryz.func34, Tryz.ntmps34
  go_wp2_with fail
  with_reducible refine AS.out.mono ?_
  rintro e w1 ⟨rfl, rfl⟩
  clear AS
  go_wp2_with fail
  with_reducible refine (RM.out _ (Kept.refl _ _)).mono ?_
  rintro e w2 ⟨rfl, rfl⟩
  go_wp2_with fail
  with_reducible refine (RM.out _ (Kept.refl _ _)).mono ?_
  rintro e w2 ⟨rfl, rfl⟩
  go_wp2_with fail
  with_reducible refine (NW.out _).mono ?_
  rintro e w3 ⟨g, rfl, o3, k3⟩
  have K3 := Lib.hid k3
  have O3 := Lib.hid o3
  clear k3 o3 RM NW
  go_upto_region 10 with fail
  obtain ⟨y, hy⟩ : ∃ y, w3.heap.size = y := ⟨_, rfl⟩
  rw [hy]
  refine cutWl (fun wn => Fr wn [(y, #[.int .i64 (rm : Nat), .slice (some ⟨g, 0, none⟩) ((rm + 63) / 64) ((rm + 63) / 64)], 124), (y + 1, stC d rt0 none 0 none 0 0 none 0 0 false, 169)] ∧ Same w3 wn) ⟨⟨(Blk.new' _ _ _ hy.symm).alloc _, Blk.new' _ _ _ (by simp [hy]), trivial⟩, ((Kept.refl _ _).alloc _).alloc _⟩ ?_
  rintro w4 ⟨hf4, k4⟩
  have F4 := Lib.hid hf4
  have K4 := Lib.hid (K3.out.trans k4)
  have HY := Lib.hid hy
  have O4 := Lib.hid (O3.out.same k4)
  clear hf4 k4 hy O3
  have HD : ∀ j, dod d bs m j → ¬ j = y + 1 := fun j hj q => by have h1 := DL.out j hj; have := HY.out; have := K3.out.size; omega
  have ND : ¬ dod d bs m (y + 1) := fun q => HD _ q rfl
  have HFS : ∀ j, FS (y + 1) d bs m j → w2.heap.size ≤ j ∨ dod d bs m j := fun j hj => hj.elim (fun q => .inl (by have := HY.out; have := K3.out.size; omega)) .inr
  have SI := Lib.hid (show StoIn w4 (y + 1) d bs m (sto0 D) from ⟨cap, none, 0, none, 0, none, 0, F4.out.2.1, H.out.same K4.out, ⟨.inl rfl, .inl rfl, Nat.le_refl _, Nat.le_refl _, fun _ => rfl, words_nil, bts_nil, by simp [sto0, rt0]⟩, .inl rfl, Nat.le_refl _, words_nil, by simp [sto0], by simp [sto0], apt_none, apt_none, apt_none, ND⟩)
  have AG := Lib.hid (show Apt (some ⟨g, 0, none⟩) (FS (y + 1) d bs m) from fun x hx q => by
    cases hx
    have h1 := (World.ownsRow.lt O4.out g rfl).1
    have h2 := F4.out.2.1
    rcases q with q | q
    · have hgy : g = y + 1 := q
      rw [hgy] at O4
      exact O4.out.not_blk h2 (by dsimp only; decide)
    · have := DL.out _ q
      dsimp only at this
      omega)
  have RT := Lib.hid (fun w' (k : Same w4 w') => show RtAt w' (fmtR D L) (some ⟨g, 0, none⟩) ((rm + 63) / 64) none 0 from by
    rw [HQ.out]
    have := R5.out; have := SL.out; have := L5.out
    exact ⟨O4.out.natsA.same k, .inl rfl, by simp, Nat.le_refl _, fun _ => rfl, zero_words _, bts_nil, by dsimp only; omega, by simp, by dsimp only; omega, by dsimp only; omega, by simp; omega, by simp⟩)
  have WR := Lib.hid (fun w' (k : Same w4 w') => st_write (SI.out.same k) (fmtR D L) (some ⟨g, 0, none⟩) ((rm + 63) / 64) none 0 (RT.out w' k) AG.out apt_none)
  unfold rtC at WR
  generalize (sto0 D).write (fmtR D L) = Q at WR HF
  rw [HQ.out] at WR
  simp only [List.length_replicate, List.length_nil, Int.natCast_zero, Int.natCast_add, Int.natCast_one] at WR
  have FE := Lib.hid (fun (he : Q.2 ≠ 0) W (hs : StoIn W (y + 1) d bs m Q.1) (k : Kept (FS (y + 1) d bs m) w4 W) => show R (.returned (.tuple #[.pointer none, .int .i64 (Q.2 : Nat)])) W from by
    rw [← HR.out, HF.out, if_pos he]
    obtain ⟨cap', _, _, _, _, _, _, _, hd, -⟩ := hs
    exact ⟨⟨rfl, cap', hd⟩, (K4.out.mono (fun _ _ q => q.elim)).step k (fun i hi q => (HFS i q).elim (fun z => by omega) (fun z => z))⟩)
  have FG := Lib.hid (fun (he : ¬ Q.2 ≠ 0) W (hs : StoIn W (y + 1) d bs m Q.1) (k : Kept (FS (y + 1) d bs m) w4 W) => show R (.returned (.tuple #[.pointer (some ⟨y + 1, 0, none⟩), .int .i64 0])) W from by
    rw [← HR.out, HF.out, if_neg he]
    exact ⟨⟨y + 1, rfl, hs, by have := HY.out; have := K3.out.size; omega⟩, (K4.out.mono (fun _ _ q => q.elim)).step k (fun i hi q => (HFS i q).elim (fun z => by omega) (fun z => z))⟩)
  have QX := Lib.hid (show ∀ w', Same w4 w' → (∀ i, w'.cell? ⟨y, i, none⟩ = (#[.int .i64 (rm : Nat), .slice (some ⟨g, 0, none⟩) ((rm + 63) / 64) ((rm + 63) / 64)] : Array Value)[i]?) from fun w' k => cell_blk (F4.out.1.kept k (fun h => h)))
  obtain ⟨rl, hrl⟩ : ∃ rl, (rm + 63) / 64 = rl := ⟨_, rfl⟩
  rw [hrl] at WR QX ⊢
  obtain ⟨er, her⟩ : ∃ er, Q.2 = er := ⟨_, rfl⟩
  rw [her] at WR FE FG
  obtain ⟨Q1, hQ1⟩ : ∃ Q1, Q.1 = Q1 := ⟨_, rfl⟩
  rw [hQ1] at WR FE FG
  clear hrl HFS HD ND HF her hQ1
  refine wp_region_T (S := fun w' => Same w4 w') 7 (by kernel_rfl) (Kept.refl _ _).drew (fun hHeld hDn => ?_)
  refine wpT_z 0 41 QX hHeld hDn fun hDn => ?_
  refine wpT_z 1 42 QX hHeld hDn fun hDn => ?_
  refine wpT_z 4 45 QX hHeld hDn fun hDn => ?_
  refine wpT_z 5 46 QX hHeld hDn fun hDn => ?_
  refine wpT_one (i := 2) rfl (by kernel_rfl) hDn (fun K' hK => ?_)
  go_simp
  with_reducible refine (SE.out _ (K4.out.trans (Kept.refl _ _).drew)).mono ?_
  rintro e w5 ⟨rfl, k5⟩
  have K5 := Lib.hid (show Same w4 w5 from ((Kept.refl _ _).drew).trans k5)
  refine hK.out _ _ K5.out (fun hHeld2 hDn2 => ?_)
  clear hK K' hHeld hDn k5
  have hHeld := hHeld2; have hDn := hDn2
  clear hHeld2 hDn2
  refine wpT_z 3 44 QX hHeld hDn fun hDn => ?_
  refine wpT_z 6 47 QX hHeld hDn fun hDn => ?_
  refine wpT_last rfl (by kernel_rfl) hDn (fun K' hK => ?_)
  go_simp
  with_reducible refine (WR.out _ K5.out).mono ?_
  rintro e w7 ⟨rfl, s7, k7⟩
  have K7 := Lib.hid (show Kept (FS (y + 1) d bs m) w4 w7 from (K5.out.mono (fun _ _ q => q.elim)).trans k7)
  have S7 := Lib.hid s7
  refine hK.out _ _ (fun hDn2 => ?_)
  clear hK K' hHeld hDn k7 s7
  have hDn := hDn2
  clear hDn2
  refine wpT_ze 8 10 hDn fun hDn => ?_
  refine wpT_done (by kernel_rfl) ?_ _
  clear hDn QX gw
  by_cases he : er = 0
  · have FI := Lib.hid (FG.out (by rw [he]; decide) w7 S7.out K7.out)
    subst he
    go_wp2_with fail
    exact FI.out
  · have FI := Lib.hid (FE.out he w7 S7.out K7.out)
    have g5 : ((er : Int) != 0) = true := by simp; omega
    clear he
    go_wp2_with fail
    exact FI.out
end Go.Proofs.YtlkgdpdnhnakoaaGreatDoor

namespace Go.Proofs.YtlkgdpdnhnakoaaGreatDoor
open Go.RowKit

theorem Sto.Fit.disk {S : Sto} (h : S.Fit) (D : Dsk) (b : Bool) : ({ S with D := D, bad := b } : Sto).Fit := ⟨h.now, h.cnt, h.one, h.four, h.nw, h.rw_, h.gen⟩
theorem Sto.Fit.alloc {S : Sto} (h : S.Fit) : S.alloc.1.Fit := by
  unfold Sto.alloc
  split
  · exact h
  · split
    · exact h
    · exact h.setNow _ _
theorem Sto.Fit.free {S : Sto} (h : S.Fit) (n : Int) : (S.free n).1.Fit := by
  unfold Sto.free
  split
  · exact h
  · exact h.setNow _ _
theorem Sto.Fit.wr {S : Sto} (h : S.Fit) (n : Int) (b : List Nat) : (S.wr n b).1.Fit := by
  unfold Sto.wr
  split
  · exact h
  · split
    · exact h
    · split
      · exact h.disk _ _
      · exact h.disk _ _
theorem Sto.Fit.rd {S : Sto} (h : S.Fit) (n : Int) : (S.rd n).1.Fit := by
  unfold Sto.rd
  split
  · exact h
  · exact h.disk _ _
theorem putSlE_zero {g : Nat} {n : Nat} (h : putSlE (g : Int) n = 0) : 1 ≤ g ∧ g ≤ 1099511627776 ∧ n ≤ 954 := by
  unfold putSlE at h
  split at h
  · cases h
  · split at h
    · cases h
    · omega
theorem Sto.Fit.write {S : Sto} (h : S.Fit) {r : Rt} (h1 : mapOK (r.size : Nat) r.words = true) (h2 : 4 ≤ r.size) (h3 : Words r.words) : (S.write r).1.Fit := by
  unfold Sto.write
  split
  · exact h
  · split
    · exact h.disk _ _
    · split
      · exact h.disk _ _
      · rename_i he _ _
        have hg := putSlE_zero (by simpa using he)
        exact ⟨h1, h1, rfl, h2, h3, h3, hg.2.1⟩
theorem Sto.Fit.commit {S : Sto} (h : S.Fit) (b : List Nat) : (S.commit b).1.Fit := by
  unfold Sto.commit
  split
  · exact h
  · split
    · exact h
    · split
      · exact h.disk _ _
      · exact (h.disk _ _).write h.now h.four h.nw
theorem bitN_zero (n j : Nat) : bitN (List.replicate n 0) j = false := by
  unfold bitN
  rw [List.getD_eq_getElem?_getD, List.getElem?_replicate]
  split <;> simp
theorem zeros_ok {n : Nat} (h : n ≤ 4096) : mapOK (n : Nat) (List.replicate ((n + 63) / 64) 0) = true :=
  (mapOK_iff (zero_words _)).2 ⟨h, by simp, fun j _ _ => bitN_zero _ j⟩
theorem fmtS_fit {D : Dsk} {log : Int} {S : Sto} (h : (fmtS D log).2.1 = some S) : S.Fit := by
  unfold fmtS at h
  split at h
  · cases h
  · split at h
    · cases h
    · rename_i hn
      split at h
      · cases h
      · rename_i he
        injection h with h
        subst h
        generalize hL : log.toNat = L at *
        have hr : 4 ≤ roomN D.s.length L := by omega
        have hr2 := roomN_le D.s.length L
        unfold Sto.write at he ⊢
        split
        · rename_i q; rw [if_pos q] at he; exact absurd q (by simpa using he)
        · rename_i q
          rw [if_neg q] at he
          split
          · rename_i q2; rw [if_pos q2] at he; exact absurd q2 (by simpa using he)
          · rename_i q2
            rw [if_neg q2] at he
            split
            · rename_i q3; rw [if_pos q3] at he; exact absurd q3 (by simpa using he)
            · have hg := putSlE_zero (by simpa using q)
              have hz := zeros_ok (n := roomN D.s.length L) (by omega)
              exact ⟨hz, hz, rfl, hr, zero_words _, zero_words _, hg.2.1⟩
end Go.Proofs.YtlkgdpdnhnakoaaGreatDoor

namespace Go.Proofs.YtlkgdpdnhnakoaaGreatDoor
open Go.RowKit Go.Sort Go.Shelf

set_option maxRecDepth 100000 in
set_option maxHeartbeats 1600000 in
theorem st_Alloc {w : World} {p d bs m : Nat} {S : Sto} (h : StoIn w p d bs m S) (hf : S.Fit) (hT : TabOK w) :
    Calls Tryz.prog 309 #[.pointer (some ⟨p, 0, none⟩)] w (StPost w p d bs m S.alloc.1 (.tuple #[.int .i64 (S.alloc.2.1 : Nat), .int .i64 (S.alloc.2.2 : Nat)]) (fun g => g = p)) := by
  obtain ⟨R, hR⟩ : ∃ R, StPost w p d bs m S.alloc.1 (.tuple #[.int .i64 (S.alloc.2.1 : Nat), .int .i64 (S.alloc.2.2 : Nat)]) (fun g => g = p) = R := ⟨_, rfl⟩
  rw [hR]
  have HR := Lib.hid hR
  clear hR
  have H := Lib.hid h
  have FT := Lib.hid hf
  have TB := Lib.hid hT
  obtain ⟨cap, wa, wc, ba, bc, na, nc, h1, h2, h3, h4, h5, h6, h7, h8, h9, h10, h11, h12⟩ := h
  have AL := Lib.hid (st_alive h1)
  have EI := Lib.hid (fun w' (k : Same w w') => bm_either (S.nsize : Nat) (S.r.size : Nat) na wa nc wc S.nwords S.r.words w' h6 h3.w64 (h4.same k) (h3.ws.same k))
  rw [hf.mixs.1, hf.mixs.2] at EI
  unfold MadeMap at EI
  have PC := Lib.hid (fun w' (k : Same w w') => cell_blk (h1.kept k (fun h => h)))
  have B := Lib.hid h1
  have ZP := Lib.hid h1.lt
  have N4 := Lib.hid (And.intro h4 h6)
  have H8 := Lib.hid (And.intro h7 h8)
  unfold stC at PC
  by_cases hb : S.bad = true
  · have e : S.alloc = (S, 0, 11) := by unfold Sto.alloc; rw [if_pos hb]
    rw [e] at HR
    rw [hb, if_pos rfl] at AL
    have FIN := Lib.hid (show R (.returned (.tuple #[.int .i64 0, .int .i64 11])) w from by rw [← HR.out]; exact ⟨rfl, H.out, Kept.refl _ _⟩)
    clear EI PC B hb e hf hT h1 h2 h3 h4 h5 h6 h7 h8 h9 h10 h11 h12
    go_enter Tryz.func309, Tryz.ntmps309
    go_wp2_with fail
    with_reducible refine AL.out.mono ?_
    rintro e w1 ⟨rfl, rfl⟩
    clear AL
    go_wp2_with fail
    exact FIN.out
  rw [if_neg hb] at AL
  have HE : Hid (S.alloc = match S.pick with
    | none => (S, 0, 7)
    | some n => ({ S with nwords := setN (S.nsize : Nat) S.nwords (n : Nat) true }, n, 0)) := by show _ = _; unfold Sto.alloc; rw [if_neg hb] <;> (cases S.pick <;> rfl)
  have NS := Lib.hid (nextF_spec (S.nsize : Nat) S.both 0 false)
  have PK := Lib.hid (show nextF (S.nsize : Nat) S.both 0 false = S.pick from rfl)
  have BW := Lib.hid hf.bothW
  have PL := Lib.hid (fun n => hf.pick_lt (n := n))
  obtain ⟨W2, hW2⟩ : ∃ W2, S.both = W2 := ⟨_, rfl⟩
  rw [hW2] at EI NS PK BW
  have BS := Lib.hid (fun n (hn : inB (S.nsize : Nat) S.nwords n = true) w' (k : Same w w') => show Calls Tryz.prog 134 #[mapV (S.nsize : Nat) na S.nwords.length nc, .int .i64 n, .bool true] w' fun e w'' => ∃ g c, e = .returned (mapV (S.nsize : Nat) (some ⟨g, 0, none⟩) S.nwords.length c) ∧ OwnN w'' w'.heap.size 251 .u64 (.slice (some ⟨g, 0, none⟩) S.nwords.length c) (setN (S.nsize : Nat) S.nwords n true) ∧ Same w' w'' from by
    have hix := inB_index hn
    obtain ⟨b, off, rfl⟩ : ∃ b off, na = some ⟨b, off, none⟩ := by
      rcases N4.out.1 with q | ⟨x1, x2, q, _⟩
      · rw [q] at hix; simp at hix
      · exact ⟨x1, x2, q⟩
    exact bm_set (S.nsize : Nat) b off nc S.nwords n true w' N4.out.2 (by omega) (N4.out.1.same k))
  have IB := Lib.hid (fun n (hn : S.pick = some n) => show inB (S.nsize : Nat) S.nwords (n : Nat) = true from by
    have := hf.pick_lt hn
    simp only [inB, hf.now, Bool.true_and, Bool.and_eq_true, decide_eq_true_eq]
    omega)
  have FN := Lib.hid (fun (hp : S.pick = none) W (k : Same w W) => show R (.returned (.tuple #[.int .i64 0, .int .i64 7])) W from by
    rw [← HR.out, HE.out, hp]
    exact ⟨rfl, H.out.same k, k.mono (fun _ _ q => q.elim)⟩)
  have FS' := Lib.hid (fun n (hp : S.pick = some n) W (hs : StoIn W p d bs m { S with nwords := setN (S.nsize : Nat) S.nwords (n : Nat) true }) (k : Kept (fun g => g = p) w W) => show R (.returned (.tuple #[.int .i64 (n : Nat), .int .i64 0])) W from by
    rw [← HR.out, HE.out, hp]
    exact ⟨rfl, hs, k⟩)
  have MKN := Lib.hid (fun n w2 (k : Same w w2) W g c (ho : OwnN w2 w.heap.size 251 .u64 (.slice (some ⟨g, 0, none⟩) S.nwords.length c) (setN (S.nsize : Nat) S.nwords (n : Nat) true)) (hB : Blk W p (stC d S.r wa wc ba bc S.nsize (some ⟨g, 0, none⟩) S.nwords.length c S.bad) 169) (k2 : Kept (fun g => g = p) w2 W) => show StoIn W p d bs m { S with nwords := setN (S.nsize : Nat) S.nwords (n : Nat) true } from by
    have kk : Kept (fun g => g = p) w W := (k.mono (fun _ _ q => q.elim)).trans k2
    have hl := ho.len
    have hlt := ho.lt
    have hpl := h1.lt
    have hFS : ∀ j, FS p d bs m j → j < w.heap.size := fun j hj => hj.elim (fun q => q ▸ hpl) (fun q => h2.lt3 j q)
    refine ⟨cap, wa, wc, ba, bc, some ⟨g, 0, none⟩, c, ?_, h2.kept kk (fun e : d = p => h12 (.inl e.symm)) (fun e : bs = p => h12 (.inr (.inl e.symm))) (fun e : m = p => h12 (.inr (.inr e.symm))), h3.kept kk (h9.mono (fun g e => .inl e)) (h10.mono (fun g e => .inl e)), ho.nats.kept k2 (fun x hx (e : x.block = p) => by cases hx; dsimp only at e; omega), ?_, setN_words' h6 _ _, h7, ?_, h9, h10, fun x hx q => by cases hx; have := hFS _ q; dsimp only at this; omega, h12⟩
    · dsimp only
      rw [setN_len']
      exact hB
    · dsimp only
      exact hl.2.1
    · dsimp only
      rw [setN_len']
      exact h8)
  clear h1 h2 h3 h4 h5 h6 h7 h8 h9 h10 h11 h12 hf hT hb hW2 FT H H8 N4
  unfold mapV at EI BS
  obtain ⟨ns, hns⟩ : ∃ ns, S.nsize = ns := ⟨_, rfl⟩
  have HNS := Lib.hid hns
  rw [hns] at EI NS PK PC BS IB
  clear hns
  go_enter Tryz.func309, Tryz.ntmps309
  go_wp2_with fail
  with_reducible refine AL.out.mono ?_
  rintro e w1 ⟨rfl, rfl⟩
  clear AL
  have QX := PC
  go_wp2_with fail
  refine wp_region_T (S := fun w' => Same w1 w') 10 (by kernel_rfl) (Kept.refl _ _).drew (fun hHeld hDn => ?_)
  refine wpT_z 0 13 QX hHeld hDn fun hDn => ?_
  refine wpT_z 1 14 QX hHeld hDn fun hDn => ?_
  refine wpT_z 2 15 QX hHeld hDn fun hDn => ?_
  refine wpT_z 3 16 QX hHeld hDn fun hDn => ?_
  refine wpT_z 4 17 QX hHeld hDn fun hDn => ?_
  refine wpT_z 5 18 QX hHeld hDn fun hDn => ?_
  refine wpT_z 6 19 QX hHeld hDn fun hDn => ?_
  refine wpT_z 7 20 QX hHeld hDn fun hDn => ?_
  refine wpT_z 8 21 QX hHeld hDn fun hDn => ?_
  refine wpT_one (i := 9) rfl (by kernel_rfl) hDn (fun K' hK => ?_)
  go_simp
  with_reducible refine (EI.out _ ((Kept.refl _ _).drew)).mono ?_
  rintro e w5 ⟨v5, c5, rfl, o5, k5⟩
  have K5 := Lib.hid (show Same w1 w5 from ((Kept.refl _ _).drew).trans k5)
  have BN := Lib.hid (fun w' (k : Same w5 w') => bm_next (ns : Nat) v5 c5 W2 0 false w' BW.out (TB.out.same (K5.out.trans k)) (o5.natsA.same k))
  unfold mapV foundV at BN
  refine hK.out _ _ K5.out (fun hHeld2 hDn2 => ?_)
  clear hK K' hHeld hDn o5 k5
  have hHeld := hHeld2; have hDn := hDn2
  clear hHeld2 hDn2
  refine wpT_last rfl (by kernel_rfl) hDn (fun K' hK => ?_)
  go_simp
  with_reducible refine (BN.out _ (Kept.refl _ _)).mono ?_
  rintro e w6 ⟨r, rfl, hr, k6⟩
  have HP := Lib.hid (show S.pick = r from PK.out.symm.trans (next_one NS.out hr))
  have K6 := Lib.hid (show Same w1 w6 from K5.out.trans k6)
  refine hK.out _ _ (fun hDn2 => ?_)
  clear hK K' hHeld hDn hr k6 BN
  have hDn := hDn2
  clear hDn2
  refine wpT_ze 11 12 hDn fun hDn => ?_
  refine wpT_ze 12 24 hDn fun hDn => ?_
  refine wpT_ze 13 25 hDn fun hDn => ?_
  refine wpT_ze 14 5 hDn fun hDn => ?_
  refine wpT_ze 15 6 hDn fun hDn => ?_
  refine wpT_done (by kernel_rfl) ?_ _
  clear hDn QX EI
  cases r with
  | none =>
    have FI := Lib.hid (FN.out HP.out w6 K6.out)
    go_wp2_with fail
    exact FI.out
  | some n =>
    have pc := PC.out w6 K6.out
    have FI := Lib.hid (FS'.out n HP.out)
    have MK := Lib.hid (MKN.out n)
    have BB := Lib.hid (BS.out (n : Nat) (IB.out n HP.out))
    clear BS IB MKN FN FS' HP
    go_wp2_with fail
    with_reducible refine (BB.out w6 K6.out).mono ?_
    rintro e w2 ⟨g, c, rfl, ho, k2⟩
    have K2 := Lib.hid (K6.out.trans k2)
    have O2 := Lib.hid (OwnN.base ho K6.out.size)
    have B2 := Lib.hid (B.out.kept K2.out (fun h => h))
    have pc2 := PC.out w2 K2.out
    have z2 := B2.out.lt
    have f2 := fun i => B2.out.free i
    clear k2 ho BB pc
    go_wp2_with fail
    exact FI.out _ (MK.out w2 K2.out _ g c (by rw [HNS.out]; exact O2.out) (by have b2 := B2.out; unfold stC at b2 ⊢; rw [HNS.out] at b2 ⊢; with_reducible exact Blk.setNow b2) (by with_reducible exact ((Kept.refl _ _).setG 7 _).setG 8 _)) (by with_reducible exact ((K2.out.mono (fun _ _ q => q.elim)).setG 7 _).setG 8 _)
end Go.Proofs.YtlkgdpdnhnakoaaGreatDoor

namespace Go.Proofs.YtlkgdpdnhnakoaaGreatDoor
open Go.RowKit Go.Sort Go.Shelf

end Go.Proofs.YtlkgdpdnhnakoaaGreatDoor
