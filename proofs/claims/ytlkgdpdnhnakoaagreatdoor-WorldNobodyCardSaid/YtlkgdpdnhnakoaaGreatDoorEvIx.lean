/- EvIx: all that the db's calls reach beyond the program's own functions: by the evaluator; the start of a run. -/
import Derived.Test.YtlkgdpdnhnakoaaGreatDoorGEvD
import Derived.Test.YtlkgdpdnhnakoaaGreatDoorGEs
import Derived.Test.YtlkgdpdnhnakoaaGreatDoorOra1
import Derived.Test.YtlkgdpdnhnakoaaGreatDoorBits
import Derived.Test.YtlkgdpdnhnakoaaGreatDoorCrA
namespace Go.Proofs.YtlkgdpdnhnakoaaGreatDoor
namespace Ev

/-- The program's variable with the table of math/bits. -/
def tabG : Nat := 1
def numG : Nat := 64
noncomputable def tzO (args : List AV) (h : Hp Xo) : Option (AV × Hp Xo) := match args with
  | [.V (.C (.I .u64 (.ofNat x)))] => match h.t.get tabG, Nat.ble x (nat_lit 18446744073709551615) with
    | some (.x .tab), true => some (.V (.C (.I .i64 (.ofNat (Lib.ctz 64 x)))), h)
    | _, _ => none
  | _ => none
def natsC : List Ce → Option (List Nat)
  | [] => some []
  | .I .u8 (.ofNat n) :: l => match Nat.ble n (nat_lit 255), natsC l with
    | true, some r => some (n :: r)
    | _, _ => none
  | _ => none
theorem natsC_spec : ∀ {l : List Ce} {xs : List Nat}, natsC l = some xs → l = xs.map (fun n => .I .u8 (.ofNat n)) ∧ Bts xs
  | [], xs, h => by cases h; exact ⟨rfl, fun x hx => by cases hx⟩
  | c :: l, xs, h => by
    unfold natsC at h
    split at h
    · cases ‹_ = []›
    · rename_i n l' e
      injection e with e1 e2
      subst e1; subst e2
      split at h
      · rename_i r hn hr
        injection h with h; subst h
        obtain ⟨q1, q2⟩ := natsC_spec hr
        refine ⟨by rw [q1]; rfl, fun x hx => ?_⟩
        rcases List.mem_cons.1 hx with rfl | hx
        · have : x ≤ 255 := Nat.le_of_ble_eq_true hn
          omega
        · exact q2 x hx
      · cases h
    · cases h
/-- A register's step. -/
noncomputable def st1 (r : Nat) : Nat := match Nat.ble (nat_lit 2147483648) r with
  | true => Nat.xor (Nat.mod (Nat.mul (nat_lit 2) r) (nat_lit 4294967296)) (nat_lit 79764919)
  | false => Nat.mod (Nat.mul (nat_lit 2) r) (nat_lit 4294967296)
noncomputable def st8 (r : Nat) : Nat := nseq (st1 r) fun r => nseq (st1 r) fun r => nseq (st1 r) fun r => nseq (st1 r) fun r => nseq (st1 r) fun r => nseq (st1 r) fun r => nseq (st1 r) fun r => st1 r
noncomputable def regN : List Nat → Nat → Nat
  | [], r => r
  | c :: l, r => nseq (st8 (Nat.xor r (Nat.mul c (nat_lit 16777216)))) fun r => tick (regN l r)
theorem st1_eq (r : Nat) : st1 r = step1 r := by
  unfold st1 step1 poly
  split
  · rename_i h; rw [if_pos (Nat.le_of_ble_eq_true h)]; rfl
  · rename_i h
    rw [if_neg]
    · rfl
    · intro h'; rw [Nat.ble_eq_true_of_le h'] at h; cases h
theorem st8_eq (r : Nat) : st8 r = itS 8 r := by
  unfold st8
  simp only [nseq_eq, st1_eq]
  rfl
theorem regN_eq (l : List Nat) (r : Nat) : regN l r = l.foldl (fun r c => itS 8 (r ^^^ c * 16777216)) r := by
  induction l generalizing r with
  | nil => rfl
  | cons c l ih =>
    have e : regN (c :: l) r = regN l (st8 (Nat.xor r (Nat.mul c (nat_lit 16777216)))) := by
      show nseq _ _ = _
      rw [nseq_eq]
    rw [e, st8_eq, ih, List.foldl_cons]
    have e2 : Nat.xor r (Nat.mul c (nat_lit 16777216)) = r ^^^ c * 16777216 := rfl
    rw [e2]
/-- The sum of a slice's bytes. -/
noncomputable def sumO (args : List AV) (h : Hp Xo) : Option (AV × Hp Xo) := match args with
  | [.V (.C (.L (some (b, o)) n _))] => match h.t.get b with
    | some (.cells t m _) => match Nat.ble (Nat.add o n) m, Nat.ble n (nat_lit 1000000), t.getL o n with
      | true, true, some l => match natsC l with
        | some xs => some (.V (.C (.I .u32 (.ofNat (Nat.xor (regN xs (nat_lit 4294967295)) (nat_lit 4294967295))))), h)
        | none => none
      | _, _, _ => none
    | _ => none
  | _ => none
theorem sum_run {E : Xs Xo} {G : Nat} {args : List AV} {h h' : Hp Xo} {z : AV} (q : sumO args h = some (z, h')) {V : Vn} {w : World} {xs : List Value} (s : Sim E G V h w) (hr : All2 (AV.rel V) args xs) :
    Calls Tryz.prog 420 xs.toArray w fun e w' => ∃ u, e = .returned u ∧ Post E G V h w z h' u w' := by
  unfold sumO at q
  split at q
  case h_2 => cases q
  rename_i b o n cp
  split at q
  case h_2 => cases q
  rename_i t m ext hg
  split at q
  case h_2 => cases q
  rename_i l q1 q2 q3
  split at q
  case h_2 => cases q
  rename_i is q4
  injection q with q; injection q with q5 q6; subst q5; subst q6
  match xs, hr with
  | [v], hr =>
    have r1 : (Ce.L (some (b, o)) n cp).rel V v := hr.1
    have hp : ∃ p : Pl, V b = some p ∧ ∃ cap, v = .slice (some ⟨p.bl, p.of + o, none⟩) n cap := by
      cases cp with
      | k c => obtain ⟨y, ⟨p, hp, rfl⟩, e⟩ := r1; exact ⟨p, hp, c, e⟩
      | e d => obtain ⟨p, hp, _, e⟩ := r1; exact ⟨p, hp, _, e⟩
    obtain ⟨p, hp, cap, rfl⟩ := hp
    obtain ⟨p', hp', c, ty, fz, hc, _, hcr⟩ := s.ob _ _ hg
    rw [hp] at hp'; cases hp'
    obtain ⟨vs, s1, s2, s3⟩ := hcr.getL (Nat.le_of_ble_eq_true q1) q3
    obtain ⟨hl, hb⟩ := natsC_spec q4
    subst hl
    have hlen : n = is.length := by have := s1.length; simp at this; omega
    have hat : NatsAt w .u8 (some ⟨p.bl, p.of + o, none⟩) is := .inr ⟨p.bl, p.of + o, rfl, (Array.getElem?_eq_some_iff.1 hc).1, fun i x hx => by
      rw [cell_at hc]
      have hy : (is.map fun n => Ce.I .u8 (.ofNat n))[i]? = some (.I .u8 (.ofNat x)) := by rw [List.getElem?_map, hx]; rfl
      obtain ⟨u, u1, u2⟩ := s1.get hy
      have : u = .int .u8 (x : Nat) := u2
      subst this
      exact s3 i _ u1⟩
    refine (cr_of (some ⟨p.bl, p.of + o, none⟩) n cap is hlen hb w hat (Nat.le_of_ble_eq_true q2)).mono ?_
    rintro e w' ⟨rfl, rfl⟩
    refine ⟨_, rfl, V, ?_, s, .refl _ V _ _⟩
    show Value.int .u32 ((crcOf is : Nat) : Int) = .int .u32 ((Nat.xor (regN is 4294967295) 4294967295 : Nat) : Int)
    rw [regN_eq]; rfl
/-- A body-less function, and what it does. -/
inductive Ik2 where
  | k (i : Ik)
  | ib
noncomputable def ix2 : Ik2 → List AV → Hp Xo → Option (AV × Hp Xo)
  | .k i, args, h => ixK i args h
  | .ib, args, h => ibO args h
def Ik2Ok (fn : Func) : Ik2 → Prop
  | .k i => IkOk fn i
  | .ib => Extern.find fn = some Extern.BytealgIndexByte.indexByte
structure Ent where
  f : FuncId
  k : Ik2
  ok : ∃ fn, Tryz.prog.funcs[f]? = some fn ∧ (fn.name == "runtime.NumGoroutine") = false ∧ fn.body.isNone = true ∧ Extern.findNext fn = none ∧ Ik2Ok fn k
noncomputable def ixL : List Ent :=
⟨225, .k (.load .i64), _, Tryz.func225, by kernel_rfl, by kernel_rfl, by kernel_rfl, show Extern.find _ = _ by kernel_rfl⟩ ::
⟨399, .k (.load .u32), _, Tryz.func399, by kernel_rfl, by kernel_rfl, by kernel_rfl, show Extern.find _ = _ by kernel_rfl⟩ ::
⟨324, .k .store, _, Tryz.func324, by kernel_rfl, by kernel_rfl, by kernel_rfl, show Extern.find _ = _ by kernel_rfl⟩ ::
⟨325, .k .store, _, Tryz.func325, by kernel_rfl, by kernel_rfl, by kernel_rfl, show Extern.find _ = _ by kernel_rfl⟩ ::
⟨232, .k (.cas .i64), _, Tryz.func232, by kernel_rfl, by kernel_rfl, by kernel_rfl, show Extern.find _ = _ by kernel_rfl⟩ ::
  ⟨415, .ib, _, Tryz.func415, by kernel_rfl, by kernel_rfl, by kernel_rfl, show Extern.find _ = _ by kernel_rfl⟩ :: []
noncomputable def findE (f : FuncId) : List Ent → Option Ent
  | [] => none
  | e :: l => match Nat.beq f e.f with
    | true => some e
    | false => findE f l
theorem findE_at {f : FuncId} {e : Ent} : ∀ {l : List Ent}, findE f l = some e → f = e.f
  | [], h => by cases h
  | x :: l, h => by
    unfold findE at h
    split at h
    · rename_i q; cases h; exact Nat.eq_of_beq_eq_true q
    · exact findE_at h
noncomputable def ixC (f : FuncId) (args : List AV) (h : Hp Xo) : Option (AV × Hp Xo) := match findE f ixL with
  | some e => ix2 e.k args h
  | none => none
/-- With what binary operations tell of values that are not known ahead. -/
noncomputable def ixF (F : BinOp → TypeId → AV → AV → Hp Xo → Option AV) (B : Builtin → List TypeId → List AV → Hp Xo → Option AV) : Ix Xo := ⟨ixC, F, B⟩
/-- The greater one of two texts. -/
noncomputable def maxB (b : Builtin) (_ : List TypeId) (args : List AV) (_ : Hp Xo) : Option AV := match b, args with
  | .max, [.V (.C (.S x)), .V (.C (.S y))] => match Op.bytesLess x y with
    | true => some (.V (.C (.S y)))
    | false => some (.V (.C (.S x)))
  | _, _ => none
noncomputable def ixP : Ix Xo := ixF (fun _ _ _ _ _ => none) maxB
/-- What is asked of what binary operations tell. -/
def BinOk (ob : Obj) (vals : Nat → Nat × Nat) (ks : List (Nat × Obj)) (F : BinOp → TypeId → AV → AV → Hp Xo → Option AV) : Prop := ∀ {op : BinOp} {t : TypeId} {x y z : AV} {h : Hp Xo}, F op t x y h = some z → ∀ {V : Vn} {w : World} {u v : Value}, Sim (varX tabG ob vals ks) numG V h w → x.rel V u → y.rel V v → ∀ a b : Operand,
    ∃ m, (eqGuard op t a b u v).run Tryz.prog w = .ok () w ∧ (binOp op t u v).run Tryz.prog w = .ok m w ∧ z.rel V m
def BiOk (ob : Obj) (vals : Nat → Nat × Nat) (ks : List (Nat × Obj)) (B : Builtin → List TypeId → List AV → Hp Xo → Option AV) : Prop := ∀ {b : Builtin} {ts : List TypeId} {args : List AV} {z : AV} {h : Hp Xo}, B b ts args h = some z → ∀ {V : Vn} {w : World} {xs : List Value}, Sim (varX tabG ob vals ks) numG V h w → All2 (AV.rel V) args xs → ∀ (ty : TypeId) (consts : Array Bool),
    ∃ (e : Sem Value) (m : Value), builtin b ts.toArray ty consts xs.toArray = (e >>= fun v => (pure (.value v) : Sem Next)) ∧ e.run Tryz.prog w = .ok m w ∧ z.rel V m
theorem ixF_ok {ob : Obj} {vals : Nat → Nat × Nat} {ks : List (Nat × Obj)} {F : BinOp → TypeId → AV → AV → Hp Xo → Option AV} (hF : BinOk ob vals ks F) {B : Builtin → List TypeId → List AV → Hp Xo → Option AV} (hB : BiOk ob vals ks B) : IxOk (varX tabG ob vals ks) numG (tabOf Tryz.prog) (ixF F B) := by
  refine ⟨fun {f F' args h h' z} _ hb q0 {V w xs} s hr => ?_, fun {op t x y z h} q {V w u v} s h1 h2 a b => hF q s h1 h2 a b, fun {b ts args z h} q {V w xs} s hr ty cs => hB q s hr ty cs⟩
  have q : ixC f args h = some (z, h') := q0
  clear q0
  unfold ixC at q
  split at q
  case h_2 => cases q
  rename_i e he
  obtain rfl := findE_at he
  obtain ⟨fn, h1, h2, h3, h4, h5⟩ := e.ok
  generalize e.k = kk at q h5
  cases kk with
  | k i => exact ixK_run h1 h2 h3 h4 h5 q s hr
  | ib => exact ib_run h1 h2 h3 h4 h5 q s hr
theorem max_strs (x y : List UInt8) (ts : Array TypeId) (ty : TypeId) (w : World) : (Builtin.max_ ts ty #[.string ⟨x.toArray⟩, .string ⟨y.toArray⟩]).run Tryz.prog w = .ok (.string ⟨(if Op.bytesLess x y = true then y else x).toArray⟩) w := by
  simp only [Builtin.max_, List.foldlM_cons, List.foldlM_nil, Builtin.max2, Op.stringOp, asBool, Lib.toList_data]
  cases Op.bytesLess x y <;> rfl
theorem maxB_ok {ob : Obj} {vals : Nat → Nat × Nat} {ks : List (Nat × Obj)} : BiOk ob vals ks maxB := by
  intro b ts args z h q V w xs s hr ty cs
  unfold maxB at q
  split at q
  case h_2 => cases q
  rename_i x y
  match xs, hr with
  | [u, v], ⟨h1, h2, _⟩ =>
    have h1 : u = .string ⟨x.toArray⟩ := h1
    have h2 : v = .string ⟨y.toArray⟩ := h2
    subst h1; subst h2
    refine ⟨Builtin.max_ ts.toArray ty #[.string ⟨x.toArray⟩, .string ⟨y.toArray⟩], _, rfl, max_strs x y _ _ w, ?_⟩
    split at q
    · rename_i hh; injection q with q; subst q; rw [hh]; rfl
    · rename_i hh; injection q with q; subst q; rw [hh]; rfl
theorem ixP_ok {ob : Obj} {vals : Nat → Nat × Nat} {ks : List (Nat × Obj)} : IxOk (varX tabG ob vals ks) numG (tabOf Tryz.prog) ixP := ixF_ok (fun q => by cases q) maxB_ok
theorem tab_at {ob : Obj} {vals : Nat → Nat × Nat} {ks : List (Nat × Obj)} {V : Vn} {h : Hp Xo} {w : World} (s : Sim (varX tabG ob vals ks) numG V h w) (hx : h.t.get tabG = some (.x .tab)) : w.heap[tabG]? = some ob := by
  obtain ⟨p, _, _, q, _⟩ := s.ob _ _ hx
  exact q
/-- What is asked of a function that is met by a law of its own. -/
def YOk (f : FuncId) (g : List AV → Hp Xo → Option (AV × Hp Xo)) : Prop := ∀ {ob : Obj} {vals : Nat → Nat × Nat} {ks : List (Nat × Obj)}, (∀ w : World, w.heap[tabG]? = some ob → TabOK w) → ∀ {args : List AV} {h h' : Hp Xo} {z : AV}, g args h = some (z, h') → ∀ {V : Vn} {w : World} {xs : List Value}, Sim (varX tabG ob vals ks) numG V h w → All2 (AV.rel V) args xs →
  Calls Tryz.prog f xs.toArray w (fun e w' => ∃ u, e = .returned u ∧ Post (varX tabG ob vals ks) numG V h w z h' u w')
structure Eny where
  f : FuncId
  g : List AV → Hp Xo → Option (AV × Hp Xo)
  ok : YOk f g
theorem sum_ok : YOk 420 sumO := by
  intro ob vals ks _ args h h' z q V w xs s hr
  exact sum_run q s hr
theorem tz_ok : YOk 443 tzO := by
  intro ob vals ks hT args h h' z q V w xs s hr
  unfold tzO at q
  split at q
  case h_2 => cases q
  split at q
  case h_2 => cases q
  rename_i x _ _ hx hle
  injection q with q; injection q with q1 q2; subst q1; subst q2
  match xs, hr with
  | [v], hr =>
    have : v = .int .u64 (x : Nat) := hr.1
    subst this
    have hle : x ≤ 18446744073709551615 := Nat.le_of_ble_eq_true hle
    refine (bits_tz x w (by omega) (hT w (tab_at s hx))).mono ?_
    rintro e w' ⟨rfl, rfl⟩
    exact ⟨_, rfl, V, rfl, s, .refl _ V _ _⟩
theorem settle_ok : YOk 84 settleO := by
  intro ob vals ks _ args h h' z q V w xs s hr
  exact settle_run q s hr
theorem lock_ok : YOk 400 (muTurn 0 1) := by
  intro ob vals ks hT args h h' z q V w xs s hr
  obtain ⟨a, rfl, h1, h2, rfl, s1, x1⟩ := muTurn_run Tryz.prog q s hr
  refine (mu_lock a w h1 h2).mono ?_
  rintro e w' ⟨rfl, rfl⟩
  exact ⟨_, rfl, V, ⟨[], trivial, rfl⟩, s1, x1⟩
theorem none_ok (f : FuncId) : YOk f (fun _ _ => none) := by
  intro ob vals ks _ args h h' z q
  cases q
noncomputable def iyL : List Eny :=
⟨400, muTurn 0 1, lock_ok⟩ ::
⟨401, fun _ _ => none, none_ok _⟩ ::
  ⟨420, sumO, sum_ok⟩ :: ⟨443, tzO, tz_ok⟩ :: ⟨84, settleO, settle_ok⟩ :: []
noncomputable def findY (f : FuncId) : List Eny → Option (List AV → Hp Xo → Option (AV × Hp Xo))
  | [] => none
  | e :: l => match Nat.beq f e.f with
    | true => some e.g
    | false => findY f l
theorem findY_at {f : FuncId} {g : List AV → Hp Xo → Option (AV × Hp Xo)} : ∀ {l : List Eny}, findY f l = some g → YOk f g
  | [], h => by cases h
  | x :: l, h => by
    unfold findY at h
    split at h
    · rename_i q; cases h; obtain rfl : f = x.f := Nat.eq_of_beq_eq_true q; exact x.ok
    · exact findY_at h
def ZOk (f : FuncId) (g : List AV → Hp Xo → Option (AV × Hp Xo)) : Prop := ∀ {ob : Obj} {vals : Nat → Nat × Nat} {ks : List (Nat × Obj)} {args : List AV} {h h' : Hp Xo} {z : AV}, g args h = some (z, h') → ∀ {V : Vn} {w : World} {xs : List Value}, Sim (varX tabG ob vals ks) numG V h w → All2 (AV.rel V) args xs →
  (∃ F c, Tryz.prog.funcs[f]? = some F ∧ F.body = some c ∧ (F.name == "runtime.NumGoroutine") = false) ∧ DRet Tryz.prog f xs.toArray w (Post (varX tabG ob vals ks) numG V h w z h')
structure Enz where
  f : FuncId
  g : List AV → Hp Xo → Option (AV × Hp Xo)
  ok : ZOk f g
theorem unlock_ok : ZOk 401 (muTurn 1 0) := by
  intro ob vals ks args h h' z q V w xs s hr
  obtain ⟨a, rfl, h1, h2, rfl, s1, x1⟩ := muTurn_run Tryz.prog q s hr
  refine ⟨⟨_, _, Tryz.func401, rfl, by kernel_rfl⟩, fun c cs hc => ?_⟩
  obtain ⟨e, u', w', fr, ⟨rfl, rfl, rfl⟩, hcm, hk, hg⟩ := mu_unlock_d a .returning w h1 h2 c cs hc
  have hcc : ({ c with mode := FrameMode.returning } : Frame) = c := by rw [← hc]
  rw [hcc] at hcm
  obtain ⟨g1, g2, g3⟩ := hg
  exact ⟨_, _, fr, ⟨V, ⟨[], trivial, rfl⟩, s1, x1⟩, hcm, hk, g1, g2, g3⟩
noncomputable def izL : List Enz :=
⟨401, muTurn 1 0, unlock_ok⟩ ::
  []
noncomputable def findZ (f : FuncId) : List Enz → Option (List AV → Hp Xo → Option (AV × Hp Xo))
  | [] => none
  | e :: l => match Nat.beq f e.f with
    | true => some e.g
    | false => findZ f l
theorem findZ_at {f : FuncId} {g : List AV → Hp Xo → Option (AV × Hp Xo)} : ∀ {l : List Enz}, findZ f l = some g → ZOk f g
  | [], h => by cases h
  | x :: l, h => by
    unfold findZ at h
    split at h
    · rename_i q; cases h; obtain rfl : f = x.f := Nat.eq_of_beq_eq_true q; exact x.ok
    · exact findZ_at h
noncomputable def izP : Iy Xo := fun f => findZ f izL
theorem izP_ok {ob : Obj} {vals : Nat → Nat × Nat} {ks : List (Nat × Obj)} : IyDOk (varX tabG ob vals ks) numG (tabOf Tryz.prog) izP :=
  fun {_ _ _ _ _ _} hj q {_ _ _} s hr => findZ_at hj q s hr
end Ev
end Go.Proofs.YtlkgdpdnhnakoaaGreatDoor
