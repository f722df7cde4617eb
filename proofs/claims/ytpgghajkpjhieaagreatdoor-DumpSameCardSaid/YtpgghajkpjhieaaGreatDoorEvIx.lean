/- EvIx: all that the db's calls reach beyond the program's own functions: by the evaluator; the start of a run. -/
import Derived.Test.YtpgghajkpjhieaaGreatDoorGEvD
import Derived.Test.YtpgghajkpjhieaaGreatDoorEvSo
import Derived.Test.YtpgghajkpjhieaaGreatDoorOra1
import Derived.Test.YtpgghajkpjhieaaGreatDoorBits
import Derived.Test.YtpgghajkpjhieaaGreatDoorCrA
namespace Go.Proofs.YtpgghajkpjhieaaGreatDoor
namespace Ev

/-- The program's variable with the table of math/bits. -/
def tabG : Nat := 1
def numG : Nat := 64
noncomputable def tzO (args : List AV) (h : Hp Unit) : Option (AV × Hp Unit) := match args with
  | [.V (.C (.I .u64 (.ofNat x)))] => match h.t.get tabG, Nat.ble x (nat_lit 18446744073709551615) with
    | some (.x _), true => some (.V (.C (.I .i64 (.ofNat (Lib.ctz 64 x)))), h)
    | _, _ => none
  | _ => none
def natsC : List Ce → Option (List Nat)
  | [] => some []
  | .I .u8 (.ofNat n) :: l => match Nat.ble n (nat_lit 255), natsC l with
    | true, some r => some (n :: r)
    | _, _ => none
  | _ => none
theorem natsC_spec : ∀ {l : List Ce} {xs : List Nat}, natsC l = some xs → l = xs.map (fun n => .I .u8 (.ofNat n)) ∧ Bts xs
  | [], xs, h => by cases h; exact ⟨rfl, fun x hx => by cases hx⟩
  | c :: l, xs, h => by
    unfold natsC at h
    split at h
    · cases ‹_ = []›
    · rename_i n l' e
      injection e with e1 e2
      subst e1; subst e2
      split at h
      · rename_i r hn hr
        injection h with h; subst h
        obtain ⟨q1, q2⟩ := natsC_spec hr
        refine ⟨by rw [q1]; rfl, fun x hx => ?_⟩
        rcases List.mem_cons.1 hx with rfl | hx
        · have : x ≤ 255 := Nat.le_of_ble_eq_true hn
          omega
        · exact q2 x hx
      · cases h
    · cases h
/-- A register's step. -/
noncomputable def st1 (r : Nat) : Nat := match Nat.ble (nat_lit 2147483648) r with
  | true => Nat.xor (Nat.mod (Nat.mul (nat_lit 2) r) (nat_lit 4294967296)) (nat_lit 79764919)
  | false => Nat.mod (Nat.mul (nat_lit 2) r) (nat_lit 4294967296)
noncomputable def st8 (r : Nat) : Nat := nseq (st1 r) fun r => nseq (st1 r) fun r => nseq (st1 r) fun r => nseq (st1 r) fun r => nseq (st1 r) fun r => nseq (st1 r) fun r => nseq (st1 r) fun r => st1 r
noncomputable def regN : List Nat → Nat → Nat
  | [], r => r
  | c :: l, r => nseq (st8 (Nat.xor r (Nat.mul c (nat_lit 16777216)))) fun r => tick (regN l r)
theorem st1_eq (r : Nat) : st1 r = step1 r := by
  unfold st1 step1 poly
  split
  · rename_i h; rw [if_pos (Nat.le_of_ble_eq_true h)]; rfl
  · rename_i h
    rw [if_neg]
    · rfl
    · intro h'; rw [Nat.ble_eq_true_of_le h'] at h; cases h
theorem st8_eq (r : Nat) : st8 r = itS 8 r := by
  unfold st8
  simp only [nseq_eq, st1_eq]
  rfl
theorem regN_eq (l : List Nat) (r : Nat) : regN l r = l.foldl (fun r c => itS 8 (r ^^^ c * 16777216)) r := by
  induction l generalizing r with
  | nil => rfl
  | cons c l ih =>
    have e : regN (c :: l) r = regN l (st8 (Nat.xor r (Nat.mul c (nat_lit 16777216)))) := by
      show nseq _ _ = _
      rw [nseq_eq]
    rw [e, st8_eq, ih, List.foldl_cons]
    have e2 : Nat.xor r (Nat.mul c (nat_lit 16777216)) = r ^^^ c * 16777216 := rfl
    rw [e2]
/-- The sum of a slice's bytes. -/
noncomputable def sumO (args : List AV) (h : Hp Unit) : Option (AV × Hp Unit) := match args with
  | [.V (.C (.L (some (b, o)) n _))] => match h.t.get b with
    | some (.cells t m _) => match Nat.ble (Nat.add o n) m, Nat.ble n (nat_lit 1000000), t.getL o n with
      | true, true, some l => match natsC l with
        | some xs => some (.V (.C (.I .u32 (.ofNat (Nat.xor (regN xs (nat_lit 4294967295)) (nat_lit 4294967295))))), h)
        | none => none
      | _, _, _ => none
    | _ => none
  | _ => none
theorem sum_run {E : Xs Unit} {G : Nat} {args : List AV} {h h' : Hp Unit} {z : AV} (q : sumO args h = some (z, h')) {V : Vn} {w : World} {xs : List Value} (s : Sim E G V h w) (hr : All2 (AV.rel V) args xs) :
    Calls Tryz.prog 47 xs.toArray w fun e w' => ∃ u, e = .returned u ∧ Post E G V h w z h' u w' := by
  unfold sumO at q
  split at q
  case h_2 => cases q
  rename_i b o n cp
  split at q
  case h_2 => cases q
  rename_i t m ext hg
  split at q
  case h_2 => cases q
  rename_i l q1 q2 q3
  split at q
  case h_2 => cases q
  rename_i is q4
  injection q with q; injection q with q5 q6; subst q5; subst q6
  match xs, hr with
  | [v], hr =>
    have r1 : (Ce.L (some (b, o)) n cp).rel V v := hr.1
    have hp : ∃ p : Pl, V b = some p ∧ ∃ cap, v = .slice (some ⟨p.bl, p.of + o, none⟩) n cap := by
      cases cp with
      | k c => obtain ⟨y, ⟨p, hp, rfl⟩, e⟩ := r1; exact ⟨p, hp, c, e⟩
      | e d => obtain ⟨p, hp, _, e⟩ := r1; exact ⟨p, hp, _, e⟩
    obtain ⟨p, hp, cap, rfl⟩ := hp
    obtain ⟨p', hp', c, ty, fz, hc, _, hcr⟩ := s.ob _ _ hg
    rw [hp] at hp'; cases hp'
    obtain ⟨vs, s1, s2, s3⟩ := hcr.getL (Nat.le_of_ble_eq_true q1) q3
    obtain ⟨hl, hb⟩ := natsC_spec q4
    subst hl
    have hlen : n = is.length := by have := s1.length; simp at this; omega
    have hat : NatsAt w .u8 (some ⟨p.bl, p.of + o, none⟩) is := .inr ⟨p.bl, p.of + o, rfl, (Array.getElem?_eq_some_iff.1 hc).1, fun i x hx => by
      rw [cell_at hc]
      have hy : (is.map fun n => Ce.I .u8 (.ofNat n))[i]? = some (.I .u8 (.ofNat x)) := by rw [List.getElem?_map, hx]; rfl
      obtain ⟨u, u1, u2⟩ := s1.get hy
      have : u = .int .u8 (x : Nat) := u2
      subst this
      exact s3 i _ u1⟩
    refine (cr_of (some ⟨p.bl, p.of + o, none⟩) n cap is hlen hb w hat (Nat.le_of_ble_eq_true q2)).mono ?_
    rintro e w' ⟨rfl, rfl⟩
    refine ⟨_, rfl, V, ?_, s, .refl _ V _ _⟩
    show Value.int .u32 ((crcOf is : Nat) : Int) = .int .u32 ((Nat.xor (regN is 4294967295) 4294967295 : Nat) : Int)
    rw [regN_eq]; rfl
noncomputable def ixP : Ix Unit := fun f args h =>
  match Nat.beq f 116 with
  | true => ixK (.load .i64) args h
  | false => match Nat.beq f 207 with
    | true => ixK (.load .u32) args h
    | false => match Nat.beq f 157 with
      | true => ixK .store args h
      | false => match Nat.beq f 158 with
        | true => ixK .store args h
        | false => match Nat.beq f 117 with
          | true => ixK (.cas .i64) args h
          | false => match Nat.beq f 124 with
            | true => ibO args h
            | false => none
noncomputable def iyP : Iy Unit := fun f =>
  match Nat.beq f 47 with
  | true => some sumO
  | false => match Nat.beq f 336 with
    | true => some tzO
    | false => match Nat.beq f 171 with
      | true => some settleO
      | false => match Nat.beq f 208 with
        | true => some (muTurn 0 1)
        | false => match Nat.beq f 209 with
          | true => some (fun _ _ => none)
          | false => none
noncomputable def izP : Iy Unit := fun f =>
  match Nat.beq f 209 with
  | true => some (muTurn 1 0)
  | false => none

theorem beq_of {a b : Nat} (h : Nat.beq a b = true) : a = b := Nat.eq_of_beq_eq_true h
theorem ixP_ok {ob : Obj} : IxOk (varX tabG ob) numG (tabOf Tryz.prog) ixP := by
  intro f F args h h' z hF hb q V w xs s hr
  unfold ixP at q
  split at q
  case h_1 hf =>
    obtain rfl := beq_of hf
    exact ixK_run Tryz.func116 (by kernel_rfl) (by kernel_rfl) (by kernel_rfl) (i := .load .i64) (show Extern.find _ = _ by kernel_rfl) q s hr
  split at q
  case h_1 hf =>
    obtain rfl := beq_of hf
    exact ixK_run Tryz.func207 (by kernel_rfl) (by kernel_rfl) (by kernel_rfl) (i := .load .u32) (show Extern.find _ = _ by kernel_rfl) q s hr
  split at q
  case h_1 hf =>
    obtain rfl := beq_of hf
    exact ixK_run Tryz.func157 (by kernel_rfl) (by kernel_rfl) (by kernel_rfl) (i := .store) (show Extern.find _ = _ by kernel_rfl) q s hr
  split at q
  case h_1 hf =>
    obtain rfl := beq_of hf
    exact ixK_run Tryz.func158 (by kernel_rfl) (by kernel_rfl) (by kernel_rfl) (i := .store) (show Extern.find _ = _ by kernel_rfl) q s hr
  split at q
  case h_1 hf =>
    obtain rfl := beq_of hf
    exact ixK_run Tryz.func117 (by kernel_rfl) (by kernel_rfl) (by kernel_rfl) (i := .cas .i64) (show Extern.find _ = _ by kernel_rfl) q s hr
  split at q
  case h_1 hf =>
    obtain rfl := beq_of hf
    exact ib_run Tryz.func124 (by kernel_rfl) (by kernel_rfl) (by kernel_rfl) (by kernel_rfl) q s hr
  cases q
theorem tab_at {ob : Obj} {V : Vn} {h : Hp Unit} {w : World} (s : Sim (varX tabG ob) numG V h w) {u : Unit} (hx : h.t.get tabG = some (.x u)) : w.heap[tabG]? = some ob := by
  obtain ⟨p, _, _, q⟩ := s.ob _ _ hx
  exact q
theorem iyP_ok {ob : Obj} (hT : ∀ w : World, w.heap[tabG]? = some ob → TabOK w) : IyOk (varX tabG ob) numG (tabOf Tryz.prog) iyP := by
  intro f g args h h' z hj q V w xs s hr
  unfold iyP at hj
  split at hj
  case h_1 hf =>
    obtain rfl := beq_of hf
    injection hj with hj; subst hj
    exact sum_run q s hr
  split at hj
  case h_1 hf =>
    obtain rfl := beq_of hf
    injection hj with hj; subst hj
    unfold tzO at q
    split at q
    case h_2 => cases q
    split at q
    case h_2 => cases q
    rename_i x _ _ u hx hle
    injection q with q; injection q with q1 q2; subst q1; subst q2
    match xs, hr with
    | [v], hr =>
      have : v = .int .u64 (x : Nat) := hr.1
      subst this
      have hle : x ≤ 18446744073709551615 := Nat.le_of_ble_eq_true hle
      refine (bits_tz x w (by omega) (hT w (tab_at s hx))).mono ?_
      rintro e w' ⟨rfl, rfl⟩
      exact ⟨_, rfl, V, rfl, s, .refl _ V _ _⟩
  split at hj
  case h_1 hf =>
    obtain rfl := beq_of hf
    injection hj with hj; subst hj
    exact settle_run q s hr
  split at hj
  case h_1 hf =>
    obtain rfl := beq_of hf
    injection hj with hj; subst hj
    obtain ⟨a, rfl, h1, h2, rfl, s1, x1⟩ := muTurn_run Tryz.prog q s hr
    refine (mu_lock a w h1 h2).mono ?_
    rintro e w' ⟨rfl, rfl⟩
    exact ⟨_, rfl, V, ⟨[], trivial, rfl⟩, s1, x1⟩
  split at hj
  case h_1 hf =>
    injection hj with hj; subst hj
    cases q
  cases hj
theorem izP_ok {ob : Obj} : IyDOk (varX tabG ob) numG (tabOf Tryz.prog) izP := by
  intro f g args h h' z hj q V w xs s hr
  unfold izP at hj
  split at hj
  case h_1 hf =>
    obtain rfl := beq_of hf
    injection hj with hj; subst hj
    obtain ⟨a, rfl, h1, h2, rfl, s1, x1⟩ := muTurn_run Tryz.prog q s hr
    refine ⟨⟨_, _, Tryz.func209, rfl, by kernel_rfl⟩, fun c cs hc => ?_⟩
    obtain ⟨e, u', w', fr, ⟨rfl, rfl, rfl⟩, hcm, hk, hg⟩ := mu_unlock_d a .returning w h1 h2 c cs hc
    have hcc : ({ c with mode := FrameMode.returning } : Frame) = c := by rw [← hc]
    rw [hcc] at hcm
    obtain ⟨g1, g2, g3⟩ := hg
    exact ⟨_, _, fr, ⟨V, ⟨[], trivial, rfl⟩, s1, x1⟩, hcm, hk, g1, g2, g3⟩
  cases hj
/-- A run from the start: what it tells; all that was there is as it was. -/
theorem run0 {n N : Nat} {f : FuncId} {z : AV} {h : Hp Unit} (q : (clO (tabOf Tryz.prog) numG ixP iyP izP N n).call f [] (h0 numG tabG) = some (z, h)) (hx : h.t.get tabG = some (.x ()))
    (hP : Tryz.prog.funcs.toList.all (fun F => !(F.name == "runtime.NumGoroutine")) = true) {w : World} (hT : TabOK w) :
    Calls Tryz.prog f #[] w fun e w' => ∃ u V, e = .returned u ∧ z.rel V u ∧ Same w w' := by
  obtain ⟨ob, hob⟩ : ∃ ob, w.heap[tabG]? = some ob := by
    have := hT 0 (by decide)
    unfold World.cell? at this
    cases h : w.heap[tabG]? with
    | none => rw [show w.heap[(⟨1, 0, none⟩ : Addr).block]? = w.heap[tabG]? from rfl, h] at this; cases this
    | some o => exact ⟨o, rfl⟩
  have hT' : ∀ w' : World, w'.heap[tabG]? = some ob → TabOK w' := fun w' hw' i hi => by
    have := hT i hi
    rw [← this]
    simp only [World.cell?, show w'.heap[1]? = w.heap[1]? from hw'.trans hob.symm]
  have hA := tab_ok hP
  have s := sim0 (G := numG) (g := tabG) (by decide +kernel) hob
  have ok := clO_ok (N := N) hA (ixP_ok (ob := ob)) (iyP_ok hT') izP_ok (fun C hC => drawO_ok hA ixP_ok hC (by kernel_rfl)) n
  refine (ok.call q s (xs := []) trivial).mono ?_
  rintro e w' ⟨u, rfl, V, hz, s', x'⟩
  exact ⟨u, V, rfl, hz, same0 hob s' x' hx⟩
end Ev
end Go.Proofs.YtpgghajkpjhieaaGreatDoor
