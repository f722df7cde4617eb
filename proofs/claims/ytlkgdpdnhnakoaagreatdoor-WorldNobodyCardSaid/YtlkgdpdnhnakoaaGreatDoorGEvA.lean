/- GEvA: EvA, EvB, EvC, EvD, EvE, EvF, EvG. -/
import Derived.WalkKit
import Derived.Wp
import Derived.ChangeKeysEq
import Derived.Lib.SmallJoins
namespace Go.Proofs.YtlkgdpdnhnakoaaGreatDoor
namespace Ev

/-- A trie keyed by numbers. -/
inductive T (α : Type) where
  | e
  | nd (v : Option α) (l r : T α)

/-- A step of its own for the kernel's loop (its stack would grow else). -/
def tick {α : Type} (x : α) : α := x

namespace T
variable {α : Type}

noncomputable def get (t : T α) : Nat → Option α :=
  T.rec (motive := fun _ => Nat → Option α) (fun _ => none)
    (fun v _ _ gl gr k => Nat.rec (motive := fun _ => Option α) v
      (fun k _ => Nat.rec (motive := fun _ => Option α) (gl (Nat.div k (nat_lit 2))) (fun _ _ => gr (Nat.div k (nat_lit 2))) (Nat.mod k (nat_lit 2))) k) t
/-- A full trie without values. -/
noncomputable def full (n : Nat) : T α := Nat.rec (motive := fun _ => T α) .e (fun _ t => .nd none t t) n
noncomputable def put (t : T α) : Nat → α → T α :=
  T.rec (motive := fun _ => Nat → α → T α) (fun _ _ => .e)
    (fun v l r pl pr k a => Nat.rec (motive := fun _ => T α) (.nd (some a) l r)
      (fun k _ => Nat.rec (motive := fun _ => T α)
        (T.rec (motive := fun _ => T α) (.nd v .e r) (fun v' l' r' _ _ => .nd v (.nd v' l' r') r) (pl (Nat.div k (nat_lit 2)) a))
        (fun _ _ => T.rec (motive := fun _ => T α) (.nd v l .e) (fun v' l' r' _ _ => .nd v l (.nd v' l' r')) (pr (Nat.div k (nat_lit 2)) a))
        (Nat.mod k (nat_lit 2))) k) t
noncomputable def drop (t : T α) : Nat → T α :=
  T.rec (motive := fun _ => Nat → T α) (fun _ => .e)
    (fun v l r pl pr k => Nat.rec (motive := fun _ => T α) (.nd none l r)
      (fun k _ => Nat.rec (motive := fun _ => T α)
        (T.rec (motive := fun _ => T α) (.nd v .e r) (fun v' l' r' _ _ => .nd v (.nd v' l' r') r) (pl (Nat.div k (nat_lit 2))))
        (fun _ _ => T.rec (motive := fun _ => T α) (.nd v l .e) (fun v' l' r' _ _ => .nd v l (.nd v' l' r')) (pr (Nat.div k (nat_lit 2))))
        (Nat.mod k (nat_lit 2))) k) t
noncomputable def putL (l : List α) : T α → Nat → T α :=
  List.rec (motive := fun _ => T α → Nat → T α) (fun t _ => t)
    (fun a _ again t k => T.rec (motive := fun _ => T α) .e
      (fun v l r _ _ => Nat.rec (motive := fun _ => T α) (tick (again (.nd v l r) (nat_lit 1))) (fun k _ => tick (again (.nd v l r) (Nat.add k (nat_lit 2)))) k) (put t k a)) l
noncomputable def ofL (l : List α) : T α := putL l (full (nat_lit 16)) (nat_lit 0)
noncomputable def getL (t : T α) (k n : Nat) : Option (List α) :=
  Nat.rec (motive := fun _ => Nat → Option (List α)) (fun _ => some [])
    (fun _ again k => Option.rec (motive := fun _ => Option (List α)) none
      (fun a => Option.rec (motive := fun _ => Option (List α)) none (fun l => some (a :: l)) (again (Nat.add k (nat_lit 1)))) (t.get k)) n k

theorem get_e (k : Nat) : (T.e : T α).get k = none := rfl
theorem get_zero (v : Option α) (l r : T α) : (T.nd v l r).get 0 = v := rfl
theorem rec_mod {β : Type} (k : Nat) (a b : β) : Nat.rec (motive := fun _ => β) a (fun _ _ => b) (Nat.mod k 2) = if k % 2 = 0 then a else b := by
  show Nat.rec (motive := fun _ => β) a (fun _ _ => b) (k % 2) = _
  rcases Nat.mod_two_eq_zero_or_one k with h | h <;> rw [h] <;> rfl
theorem get_succ (v : Option α) (l r : T α) (k : Nat) : (T.nd v l r).get (k + 1) = if k % 2 = 0 then l.get (k / 2) else r.get (k / 2) := rec_mod k _ _
theorem nd_of (f : T α → T α) (t : T α) : T.rec (motive := fun _ => T α) (f .e) (fun v' l' r' _ _ => f (.nd v' l' r')) t = f t := by cases t <;> rfl
theorem put_zero (v : Option α) (l r : T α) (a : α) : (T.nd v l r).put 0 a = .nd (some a) l r := rfl
theorem put_succ (v : Option α) (l r : T α) (k : Nat) (a : α) : (T.nd v l r).put (k + 1) a = if k % 2 = 0 then .nd v (l.put (k / 2) a) r else .nd v l (r.put (k / 2) a) := by
  refine (rec_mod k _ _).trans ?_
  by_cases h : k % 2 = 0
  · rw [if_pos h, if_pos h]; exact nd_of (fun x => T.nd v x r) (put l (k / 2) a)
  · rw [if_neg h, if_neg h]; exact nd_of (fun x => T.nd v l x) (put r (k / 2) a)
theorem drop_zero (v : Option α) (l r : T α) : (T.nd v l r).drop 0 = .nd none l r := rfl
theorem drop_succ (v : Option α) (l r : T α) (k : Nat) : (T.nd v l r).drop (k + 1) = if k % 2 = 0 then .nd v (l.drop (k / 2)) r else .nd v l (r.drop (k / 2)) := by
  refine (rec_mod k _ _).trans ?_
  by_cases h : k % 2 = 0
  · rw [if_pos h, if_pos h]; exact nd_of (fun x => T.nd v x r) (drop l (k / 2))
  · rw [if_neg h, if_neg h]; exact nd_of (fun x => T.nd v l x) (drop r (k / 2))

/-- What is found behind a store: what was stored, or what was there. -/
theorem get_put {t : T α} {k : Nat} {a : α} {j : Nat} {x : α} (h : (t.put k a).get j = some x) : (j = k ∧ x = a) ∨ (j ≠ k ∧ t.get j = some x) := by
  induction t generalizing k j with
  | e => cases h
  | nd v l r il ir =>
    cases k with
    | zero =>
      rw [put_zero] at h
      cases j with
      | zero => exact .inl ⟨rfl, (Option.some.inj h).symm⟩
      | succ j => exact .inr ⟨by omega, h⟩
    | succ k =>
      rw [put_succ] at h
      cases j with
      | zero => refine .inr ⟨by omega, ?_⟩; split at h <;> exact h
      | succ j =>
        by_cases hk : k % 2 = 0
        · rw [if_pos hk, get_succ] at h
          rw [get_succ]
          by_cases hj : j % 2 = 0
          · rw [if_pos hj] at h ⊢
            rcases il h with ⟨e, q⟩ | ⟨e, q⟩
            · exact .inl ⟨by omega, q⟩
            · exact .inr ⟨by omega, q⟩
          · rw [if_neg hj] at h ⊢
            exact .inr ⟨by omega, h⟩
        · rw [if_neg hk, get_succ] at h
          rw [get_succ]
          by_cases hj : j % 2 = 0
          · rw [if_pos hj] at h ⊢
            exact .inr ⟨by omega, h⟩
          · rw [if_neg hj] at h ⊢
            rcases ir h with ⟨e, q⟩ | ⟨e, q⟩
            · exact .inl ⟨by omega, q⟩
            · exact .inr ⟨by omega, q⟩
theorem get_drop {t : T α} {k j : Nat} {x : α} (h : (t.drop k).get j = some x) : j ≠ k ∧ t.get j = some x := by
  induction t generalizing k j with
  | e => cases h
  | nd v l r il ir =>
    cases k with
    | zero =>
      rw [drop_zero] at h
      cases j with
      | zero => cases h
      | succ j => exact ⟨by omega, h⟩
    | succ k =>
      rw [drop_succ] at h
      cases j with
      | zero => refine ⟨by omega, ?_⟩; split at h <;> exact h
      | succ j =>
        by_cases hk : k % 2 = 0
        · rw [if_pos hk, get_succ] at h
          rw [get_succ]
          by_cases hj : j % 2 = 0
          · rw [if_pos hj] at h ⊢
            have := il h
            exact ⟨by omega, this.2⟩
          · rw [if_neg hj] at h ⊢
            exact ⟨by omega, h⟩
        · rw [if_neg hk, get_succ] at h
          rw [get_succ]
          by_cases hj : j % 2 = 0
          · rw [if_pos hj] at h ⊢
            exact ⟨by omega, h⟩
          · rw [if_neg hj] at h ⊢
            have := ir h
            exact ⟨by omega, this.2⟩
theorem get_full (n j : Nat) : (full n : T α).get j = none := by
  induction n generalizing j with
  | zero => rfl
  | succ n ih =>
    show (T.nd none (full n) (full n)).get j = none
    cases j with
    | zero => rfl
    | succ j => rw [get_succ, ih]; exact ite_self _
theorem putL_cons (a : α) (l : List α) (t : T α) (k : Nat) : putL (a :: l) t k = .e ∨ putL (a :: l) t k = putL l (t.put k a) (k + 1) := by
  have e : putL (a :: l) t k = T.rec (motive := fun _ => T α) .e
      (fun v l' r' _ _ => Nat.rec (motive := fun _ => T α) (tick (putL l (.nd v l' r') 1)) (fun k _ => tick (putL l (.nd v l' r') (k + 2))) k) (put t k a) := rfl
  rw [e]
  generalize put t k a = q
  cases q with
  | e => exact .inl rfl
  | nd v l' r' => cases k <;> exact .inr rfl
theorem get_putL {l : List α} {t : T α} {k j : Nat} {x : α} (h : (putL l t k).get j = some x) :
    (k ≤ j ∧ l[j - k]? = some x) ∨ ((j < k ∨ k + l.length ≤ j) ∧ t.get j = some x) := by
  induction l generalizing t k with
  | nil => exact .inr ⟨by simp; omega, h⟩
  | cons a l ih =>
    rcases putL_cons a l t k with e | e
    · rw [e] at h; cases h
    · rw [e] at h
      rcases ih h with ⟨q, g⟩ | ⟨q, g⟩
      · refine .inl ⟨by omega, ?_⟩
        rw [show j - k = (j - (k + 1)) + 1 by omega]; exact g
      · rcases get_put g with ⟨rfl, rfl⟩ | ⟨q', g'⟩
        · exact .inl ⟨Nat.le_refl _, by simp⟩
        · exact .inr ⟨by simp only [List.length_cons]; omega, g'⟩
theorem get_ofL {l : List α} {j : Nat} {x : α} (h : (ofL l).get j = some x) : l[j]? = some x := by
  rcases get_putL h with ⟨_, g⟩ | ⟨_, g⟩
  · exact g
  · rw [get_full] at g; cases g
theorem getL_succ (t : T α) (k n : Nat) : t.getL k (n + 1) = (t.get k).bind fun a => (t.getL (k + 1) n).bind fun l => some (a :: l) := by
  show Option.rec (motive := fun _ => Option (List α)) none _ (t.get k) = _
  cases t.get k with
  | none => rfl
  | some a =>
    show Option.rec (motive := fun _ => Option (List α)) none _ (t.getL (k + 1) n) = _
    cases t.getL (k + 1) n <;> rfl
theorem getL_spec {t : T α} {k n : Nat} {l : List α} (h : t.getL k n = some l) : l.length = n ∧ ∀ i, i < n → t.get (k + i) = l[i]? := by
  induction n generalizing k l with
  | zero => cases h; exact ⟨rfl, fun i hi => absurd hi (Nat.not_lt_zero _)⟩
  | succ n ih =>
    rw [getL_succ] at h
    cases ha : t.get k with
    | none => rw [ha] at h; cases h
    | some a =>
      rw [ha] at h
      simp only [Option.bind_some] at h
      cases hl : t.getL (k + 1) n with
      | none => rw [hl] at h; cases h
      | some l' =>
        rw [hl] at h
        cases h
        obtain ⟨q1, q2⟩ := ih hl
        refine ⟨by simp [q1], fun i hi => ?_⟩
        cases i with
        | zero => simpa using ha
        | succ i => simpa [Nat.add_assoc, Nat.add_comm 1 i] using q2 i (by omega)
end T
end Ev
end Go.Proofs.YtlkgdpdnhnakoaaGreatDoor

namespace Go.Proofs.YtlkgdpdnhnakoaaGreatDoor
namespace Ev
variable {X : Type}

/-- A slice's capacity: so many; or all of the block's own but the first so many. -/
inductive Cap where
  | k (n : Nat)
  | e (d : Nat)
  deriving DecidableEq
/-- What one cell holds; blocks go by names. -/
inductive Ce where
  | B (x : Bool)
  | I (k : IntKind) (n : Int)
  | S (l : List UInt8)
  | P (a : Option (Nat × Nat))
  | L (a : Option (Nat × Nat)) (n : Nat) (c : Cap)
  | M (r : Option Nat)
  | NF
  | F (f : FuncId) (fs cs : List (Nat × Nat))
  | Y (l : Nat)
  | X (b : Nat)
  deriving DecidableEq
/-- A cell's value, or a struct's or array's cells. -/
inductive A0 where
  | C (x : Ce)
  | G (l : List Ce)
  deriving DecidableEq
inductive AV where
  | V (x : A0)
  | U (l : List A0)
  | N (t : TypeId) (x : A0)
  | Z
  deriving DecidableEq
inductive Ob (X : Type) where
  | cells (t : T Ce) (n : Nat) (ext : Option Nat)
  | map (es : List (Ce × A0 × Nat)) (clock : Nat)
  | iter (m : Option Nat) (since : Nat) (seen : List Nat) (last : Nat)
  | loop (st : LoopState) (pend : Option Code) (fn : FuncId) (tm : T AV) (nt : Nat) (params : Array Tmp) (assign body : Code) (ds : Nat)
  | dfs
  | x (o : X)
structure Hp (X : Type) where
  t : T (Ob X)
  next : Nat

/-- Where a named object lies: its block, where it begins there, how many elements there are from there on; two blocks more for objects of several blocks. -/
structure Pl where
  bl : Nat
  of : Nat
  cp : Nat
  x : Nat
  y : Nat
abbrev Vn := Nat → Option Pl
def Le (V V' : Vn) : Prop := ∀ b p, V b = some p → V' b = some p
theorem Le.refl (V : Vn) : Le V V := fun _ _ h => h
theorem Le.trans {V V' V'' : Vn} (h : Le V V') (h' : Le V' V'') : Le V V'' := fun b p q => h' b p (h b p q)

def pR (V : Vn) (a : Nat × Nat) (x : Addr) : Prop := ∃ p, V a.1 = some p ∧ x = ⟨p.bl, p.of + a.2, none⟩
def fpR (V : Vn) (a : Nat × Nat) (v : Value) : Prop := ∃ x, pR V a x ∧ v = .pointer (some x)
def All2 {α β : Type} (R : α → β → Prop) : List α → List β → Prop
  | [], [] => True
  | a :: l, b :: m => R a b ∧ All2 R l m
  | _, _ => False
theorem All2.mono {α β : Type} {R R' : α → β → Prop} (h : ∀ a b, R a b → R' a b) : ∀ {l : List α} {m : List β}, All2 R l m → All2 R' l m
  | [], [], _ => trivial
  | _ :: _, _ :: _, q => ⟨h _ _ q.1, q.2.mono h⟩
theorem All2.length {α β : Type} {R : α → β → Prop} : ∀ {l : List α} {m : List β}, All2 R l m → l.length = m.length
  | [], [], _ => rfl
  | _ :: _, _ :: _, q => congrArg (· + 1) q.2.length
theorem All2.get {α β : Type} {R : α → β → Prop} : ∀ {l : List α} {m : List β}, All2 R l m → ∀ {i : Nat} {a : α}, l[i]? = some a → ∃ b, m[i]? = some b ∧ R a b
  | _ :: _, b :: _, q, 0, _, h => ⟨b, rfl, by cases h; exact q.1⟩
  | _ :: _, _ :: _, q, i + 1, _, h => q.2.get (i := i) h
theorem All2.append {α β : Type} {R : α → β → Prop} : ∀ {l l' : List α} {m m' : List β}, All2 R l m → All2 R l' m' → All2 R (l ++ l') (m ++ m')
  | [], _, [], _, _, h => h
  | _ :: _, _, _ :: _, _, q, h => ⟨q.1, q.2.append h⟩
theorem All2.drop {α β : Type} {R : α → β → Prop} : ∀ {l : List α} {m : List β} (n : Nat), All2 R l m → All2 R (l.drop n) (m.drop n)
  | _, _, 0, h => h
  | [], [], _ + 1, _ => trivial
  | _ :: _, _ :: _, n + 1, h => h.2.drop n
theorem All2.take {α β : Type} {R : α → β → Prop} : ∀ {l : List α} {m : List β} (n : Nat), All2 R l m → All2 R (l.take n) (m.take n)
  | _, _, 0, _ => trivial
  | [], [], _ + 1, _ => trivial
  | _ :: _, _ :: _, n + 1, h => ⟨h.1, h.2.take n⟩
theorem All2.of_get {α β : Type} {R : α → β → Prop} : ∀ {l : List α} {m : List β}, l.length = m.length → (∀ (i : Nat) (a : α), l[i]? = some a → ∃ b : β, m[i]? = some b ∧ R a b) → All2 R l m
  | [], [], _, _ => trivial
  | a :: l, b :: m, h, g => ⟨by obtain ⟨b', q, r⟩ := g 0 a rfl; cases q; exact r, All2.of_get (by simpa using h) fun i a' q => g (i + 1) a' q⟩

/-- A value that is not known ahead, as two numbers. -/
def unzN (y : Nat) : Int := if y % 2 = 0 then ((y / 2 : Nat) : Int) else -((y / 2 : Nat) : Int) - 1
def bytesN : Nat → Nat → List UInt8
  | 0, _ => []
  | n + 1, y => if y = 0 then [] else UInt8.ofNat (y % 256) :: bytesN n (y / 256 - 1)
def symV (x y : Nat) : Value := match x with
  | 0 => .int .i64 (unzN y)
  | 1 => .int .u8 (unzN y)
  | 2 => .int .u64 (unzN y)
  | n + 3 => .string ⟨(bytesN n y).toArray⟩
theorem symV_one (x y : Nat) : (symV x y).oneCell = true := by
  unfold symV
  split <;> rfl
def Ce.rel (V : Vn) : Ce → Value → Prop
  | .B x, v => v = .bool x
  | .I k n, v => v = .int k n
  | .S l, v => v = .string ⟨l.toArray⟩
  | .P none, v => v = .pointer none
  | .P (some a), v => fpR V a v
  | .L none n (.k c), v => v = .slice none n c
  | .L none _ (.e _), _ => False
  | .L (some a) n (.k c), v => ∃ x, pR V a x ∧ v = .slice (some x) n c
  | .L (some a) n (.e d), v => ∃ p, V a.1 = some p ∧ d + n ≤ p.cp ∧ v = .slice (some ⟨p.bl, p.of + a.2, none⟩) n (p.cp - d)
  | .M none, v => v = .map none
  | .M (some r), v => ∃ p, V r = some p ∧ v = .map (some p.bl)
  | .NF, v => v = .nilFunc
  | .F f fs cs, v => ∃ fs' cs' : List Value, All2 (fpR V) fs fs' ∧ All2 (fpR V) cs cs' ∧ v = .func (.func f) fs'.toArray cs'.toArray
  | .Y l, v => ∃ p, V l = some p ∧ v = .func (.yield p.bl) #[] #[]
  | .X b, v => ∃ p, V b = some p ∧ v = symV p.x p.y
theorem pR.mono {V V' : Vn} (h : Le V V') {a : Nat × Nat} {x : Addr} : pR V a x → pR V' a x := fun ⟨p, q, r⟩ => ⟨p, h _ _ q, r⟩
theorem fpR.mono {V V' : Vn} (h : Le V V') {a : Nat × Nat} {x : Value} : fpR V a x → fpR V' a x := fun ⟨p, q, r⟩ => ⟨p, q.mono h, r⟩
theorem Ce.rel.mono {V V' : Vn} (h : Le V V') {c : Ce} {v : Value} (q : c.rel V v) : c.rel V' v := by
  unfold Ce.rel at q ⊢
  split at q
  case h_5 => exact q.mono h
  case h_8 => obtain ⟨x, q1, q2⟩ := q; exact ⟨x, q1.mono h, q2⟩
  case h_9 => obtain ⟨p, q1, q2⟩ := q; exact ⟨p, h _ _ q1, q2⟩
  case h_11 => obtain ⟨p, q1, q2⟩ := q; exact ⟨p, h _ _ q1, q2⟩
  case h_13 => obtain ⟨x, y, q1, q2, q3⟩ := q; exact ⟨x, y, q1.mono fun _ _ => .mono h, q2.mono fun _ _ => .mono h, q3⟩
  case h_14 => obtain ⟨p, q1, q2⟩ := q; exact ⟨p, h _ _ q1, q2⟩
  case h_15 => obtain ⟨p, q1, q2⟩ := q; exact ⟨p, h _ _ q1, q2⟩
  all_goals exact q
/-- A cell's value is one. -/
theorem Ce.rel.one {V : Vn} {c : Ce} {v : Value} (q : c.rel V v) : v.oneCell = true := by
  unfold Ce.rel at q
  split at q
  case h_5 => obtain ⟨x, _, rfl⟩ := q; rfl
  case h_7 => exact q.elim
  case h_8 => obtain ⟨x, _, rfl⟩ := q; rfl
  case h_9 => obtain ⟨x, _, _, rfl⟩ := q; rfl
  case h_11 => obtain ⟨x, _, rfl⟩ := q; rfl
  case h_13 => obtain ⟨x, y, _, _, rfl⟩ := q; rfl
  case h_14 => obtain ⟨x, _, rfl⟩ := q; rfl
  case h_15 => obtain ⟨x, _, rfl⟩ := q; exact symV_one _ _
  all_goals subst q; rfl
theorem cells_one {v : Value} (h : v.oneCell = true) : v.cells = #[v] := by cases v <;> first | rfl | cases h
def A0.rel (V : Vn) : A0 → Value → Prop
  | .C x, v => x.rel V v
  | .G l, v => ∃ vs : List Value, All2 (Ce.rel V) l vs ∧ v = .agg vs.toArray
def AV.rel (V : Vn) : AV → Value → Prop
  | .V x, v => x.rel V v
  | .U l, v => ∃ vs : List Value, All2 (A0.rel V) l vs ∧ v = .tuple vs.toArray
  | .N t x, v => ∃ u, x.rel V u ∧ v = .iface t u
  | .Z, v => v = .nilIface
theorem A0.rel.mono {V V' : Vn} (h : Le V V') : ∀ {c : A0} {v : Value}, c.rel V v → c.rel V' v
  | .C _, _, q => Ce.rel.mono h q
  | .G _, _, ⟨vs, q1, q2⟩ => ⟨vs, q1.mono fun _ _ => .mono h, q2⟩
theorem AV.rel.mono {V V' : Vn} (h : Le V V') : ∀ {c : AV} {v : Value}, c.rel V v → c.rel V' v
  | .V _, _, q => A0.rel.mono h q
  | .U _, _, ⟨vs, q1, q2⟩ => ⟨vs, q1.mono fun _ _ => .mono h, q2⟩
  | .N _ _, _, ⟨u, q1, q2⟩ => ⟨u, q1.mono h, q2⟩
  | .Z, _, q => q
/-- The cells of a value. -/
def A0.cells : A0 → List Ce
  | .C x => [x]
  | .G l => l
theorem A0.rel.cells {V : Vn} : ∀ {a : A0} {v : Value}, a.rel V v → All2 (Ce.rel V) a.cells v.cells.toList
  | .C _, v, q => by rw [cells_one (v := v) (Ce.rel.one q)]; exact ⟨q, trivial⟩
  | .G _, _, ⟨_, q1, e⟩ => by subst e; exact q1

/-- The temporaries of a frame. -/
def TmR (V : Vn) (tm : T AV) (nt : Nat) (tmps : Array Value) : Prop := tmps.size = nt ∧ ∀ d a, tm.get d = some a → ∃ v, tmps[d]? = some v ∧ a.rel V v
theorem TmR.mono {V V' : Vn} (h : Le V V') {tm : T AV} {nt : Nat} {tmps : Array Value} (q : TmR V tm nt tmps) : TmR V' tm nt tmps :=
  ⟨q.1, fun d a g => let ⟨v, q1, q2⟩ := q.2 d a g; ⟨v, q1, q2.mono h⟩⟩
theorem TmR.put {V : Vn} {tm : T AV} {nt : Nat} {tmps : Array Value} (q : TmR V tm nt tmps) {d : Nat} (hd : d < nt) {a : AV} {v : Value} (r : a.rel V v) :
    TmR V (tm.put d a) nt (tmps.setIfInBounds d v) := by
  refine ⟨by simpa using q.1, fun d' a' g => ?_⟩
  rcases T.get_put g with ⟨rfl, rfl⟩ | ⟨hne, g'⟩
  · exact ⟨v, by simp [q.1, hd], r⟩
  · obtain ⟨v', q1, q2⟩ := q.2 d' a' g'
    exact ⟨v', by rw [Array.getElem?_setIfInBounds_ne (fun e => hne e.symm)]; exact q1, q2⟩

/-- Objects of other kinds, of several blocks (a disk ..): which blocks they take, and what these hold. -/
structure Xs (X : Type) where
  foot : X → Pl → List Nat
  rel : X → Pl → World → Prop
  keep : ∀ {o p w w'}, rel o p w → (∀ j ∈ foot o p, w'.heap[j]? = w.heap[j]?) → w.heap.size ≤ w'.heap.size → rel o p w'
  lt : ∀ {o p w}, rel o p w → ∀ j ∈ foot o p, j < w.heap.size

def mR (V : Vn) (e : Ce × A0 × Nat) (m : MapEntry) : Prop := e.1.rel V m.key ∧ e.2.1.rel V m.val ∧ m.born = e.2.2
def onR (V : Vn) : Option Nat → Option Nat → Prop
  | none, r => r = none
  | some x, r => ∃ p, V x = some p ∧ r = some p.bl
def foot (E : Xs X) : Ob X → Pl → List Nat
  | .x o, p => E.foot o p
  | _, p => [p.bl]
/-- What a row of cells holds. -/
def CR (V : Vn) (of cp : Nat) (t : T Ce) (n : Nat) (ext : Option Nat) (c : Array Value) : Prop :=
  (∀ i x, i < n → t.get i = some x → ∃ v, c[of + i]? = some v ∧ x.rel V v) ∧ of + n ≤ c.size ∧ (∀ k, ext = some k → c.size = of + cp * k)
def ObR (E : Xs X) (V : Vn) (w : World) (p : Pl) : Ob X → Prop
  | .cells t n ext => ∃ c ty fz, w.heap[p.bl]? = some (.cells c ty fz) ∧ (fz.1 = fz.2 ∨ c.size ≤ fz.1) ∧ CR V p.of p.cp t n ext c
  | .map es clock => ∃ ms : List MapEntry, w.heap[p.bl]? = some (.map ms.toArray clock) ∧ All2 (mR V) es ms
  | .iter m since seen last => ∃ r, p.of = 0 ∧ onR V m r ∧ w.heap[p.bl]? = some (.mapIter r since seen.reverse.toArray last)
  | .loop st pend fn tm nt params assign body ds => ∃ tmps q, TmR V tm nt tmps ∧ V ds = some q ∧
      w.heap[p.bl]? = some (.loop { state := st, pending := pend, fn, tmps, params, assign, body, defers := q.bl })
  | .dfs => w.heap[p.bl]? = some (.deferred (some []))
  | .x o => E.rel o p w
def Live (E : Xs X) (V : Vn) (h : Hp X) (j : Nat) : Prop := ∃ b ob p, h.t.get b = some ob ∧ V b = some p ∧ j ∈ foot E ob p
structure Sim (E : Xs X) (G : Nat) (V : Vn) (h : Hp X) (w : World) : Prop where
  new : ∀ b, h.next ≤ b → V b = none
  glob : ∀ g, g < G → V g = some ⟨g, 0, 0, 0, 0⟩
  ob : ∀ b ob, h.t.get b = some ob → ∃ p, V b = some p ∧ ObR E V w p ob
  apart : ∀ b ob p b' ob' p' j, h.t.get b = some ob → h.t.get b' = some ob' → V b = some p → V b' = some p' → j ∈ foot E ob p → j ∈ foot E ob' p' → b = b'
/-- What lies outside of memory is as it was. -/
structure Outer (w w' : World) : Prop where
  os : w'.os = w.os
  tape : w'.tape = w.tape
  output : w'.output = w.output
theorem Outer.trans {a b c : World} (h : Outer a b) (k : Outer b c) : Outer a c := ⟨k.os.trans h.os, k.tape.trans h.tape, k.output.trans h.output⟩
/-- A step: the valuation grows; blocks that no live object takes stay, and are taken by none. -/
structure Ext (E : Xs X) (V : Vn) (h : Hp X) (w : World) (V' : Vn) (h' : Hp X) (w' : World) : Prop where
  le : Le V V'
  size : w.heap.size ≤ w'.heap.size
  next : h.next ≤ h'.next
  keep : ∀ j, j < w.heap.size → ¬ Live E V h j → w'.heap[j]? = w.heap[j]? ∧ ¬ Live E V' h' j
  old : ∀ b, b < h.next → V' b = V b
  out : Outer w w'
theorem Ext.refl (E : Xs X) (V : Vn) (h : Hp X) (w : World) : Ext E V h w V h w := ⟨.refl V, Nat.le_refl _, Nat.le_refl _, fun _ _ q => ⟨rfl, q⟩, fun _ _ => rfl, ⟨rfl, rfl, rfl⟩⟩
theorem Ext.trans {E : Xs X} {V V' V'' : Vn} {h h' h'' : Hp X} {w w' w'' : World} (a : Ext E V h w V' h' w') (b : Ext E V' h' w' V'' h'' w'') : Ext E V h w V'' h'' w'' :=
  ⟨a.le.trans b.le, Nat.le_trans a.size b.size, Nat.le_trans a.next b.next, fun j hj hn =>
    let ⟨q1, q2⟩ := a.keep j hj hn
    let ⟨q3, q4⟩ := b.keep j (Nat.lt_of_lt_of_le hj a.size) q2
    ⟨q3.trans q1, q4⟩, fun _ hb => (b.old _ (Nat.lt_of_lt_of_le hb a.next)).trans (a.old _ hb), a.out.trans b.out⟩
end Ev
end Go.Proofs.YtlkgdpdnhnakoaaGreatDoor

namespace Go.Proofs.YtlkgdpdnhnakoaaGreatDoor
namespace Ev
variable {X : Type} {E : Xs X} {G : Nat} {P : Program}

theorem ObR.keep {V V' : Vn} {w w' : World} {p : Pl} {ob : Ob X} (q : ObR E V w p ob) (hle : Le V V') (hj : ∀ j ∈ foot E ob p, w'.heap[j]? = w.heap[j]?) (hs : w.heap.size ≤ w'.heap.size) :
    ObR E V' w' p ob := by
  cases ob with
  | cells t n ext =>
    obtain ⟨c, ty, fz, q1, q2, q3, q4, q5⟩ := q
    refine ⟨c, ty, fz, (hj _ (by simp [foot])).trans q1, q2, fun i x hi g => ?_, q4, q5⟩
    obtain ⟨v, r2, r3⟩ := q3 i x hi g
    exact ⟨v, r2, r3.mono hle⟩
  | map es clock =>
    obtain ⟨ms, q1, q2⟩ := q
    exact ⟨ms, (hj _ (by simp [foot])).trans q1, q2.mono fun _ _ r => ⟨r.1.mono hle, r.2.1.mono hle, r.2.2⟩⟩
  | iter m since seen last =>
    obtain ⟨r, q0, q1, q2⟩ := q
    refine ⟨r, q0, ?_, (hj _ (by simp [foot])).trans q2⟩
    cases m with
    | none => exact q1
    | some x => obtain ⟨p', r1, r2⟩ := q1; exact ⟨p', hle _ _ r1, r2⟩
  | loop st pend fn tm nt params assign body ds =>
    obtain ⟨tmps, q, q1, q2, q3⟩ := q
    exact ⟨tmps, q, q1.mono hle, hle _ _ q2, (hj _ (by simp [foot])).trans q3⟩
  | dfs => exact (hj _ (by simp [foot])).trans q
  | x o => exact E.keep q hj hs
theorem ObR.lt {V : Vn} {w : World} {p : Pl} {ob : Ob X} (q : ObR E V w p ob) : ∀ j ∈ foot E ob p, j < w.heap.size := by
  have key : ∀ {j : Nat} {o : Obj}, w.heap[j]? = some o → j < w.heap.size := fun h => (Array.getElem?_eq_some_iff.1 h).1
  cases ob with
  | cells t n ext => obtain ⟨c, ty, fz, q1, _⟩ := q; intro j hj; simp only [foot, List.mem_singleton] at hj; exact hj ▸ key q1
  | map es clock => obtain ⟨ms, q1, _⟩ := q; intro j hj; simp only [foot, List.mem_singleton] at hj; exact hj ▸ key q1
  | iter m since seen last => obtain ⟨r, _, _, q1⟩ := q; intro j hj; simp only [foot, List.mem_singleton] at hj; exact hj ▸ key q1
  | loop st pend fn tm nt params assign body ds => obtain ⟨_, _, _, _, q1⟩ := q; intro j hj; simp only [foot, List.mem_singleton] at hj; exact hj ▸ key q1
  | dfs => intro j hj; simp only [foot, List.mem_singleton] at hj; exact hj ▸ key q
  | x o => exact E.lt q

theorem Sim.heap {V : Vn} {h : Hp X} {w w' : World} (s : Sim E G V h w) (hh : w'.heap = w.heap) : Sim E G V h w' :=
  ⟨s.new, s.glob, fun b ob g => let ⟨p, q1, q2⟩ := s.ob b ob g; ⟨p, q1, q2.keep (.refl V) (fun j _ => by rw [hh]) (by rw [hh]; exact Nat.le_refl _)⟩, s.apart⟩
theorem Ext.heap (V : Vn) (h : Hp X) {w w' : World} (hh : w'.heap = w.heap) (hO : Outer w w' := by exact ⟨rfl, rfl, rfl⟩) : Ext E V h w V h w' :=
  ⟨.refl V, by rw [hh]; exact Nat.le_refl _, Nat.le_refl _, fun j _ q => ⟨by rw [hh], q⟩, fun _ _ => rfl, hO⟩
/-- A new name. -/
def named (V : Vn) (b : Nat) (p : Pl) : Vn := fun x => if x = b then some p else V x
theorem named_le {V : Vn} {b : Nat} {p : Pl} (h : V b = none) : Le V (named V b p) := fun x q g => by
  unfold named
  by_cases e : x = b
  · rw [e, h] at g; cases g
  · rw [if_neg e]; exact g
theorem named_self (V : Vn) (b : Nat) (p : Pl) : named V b p b = some p := if_pos rfl
theorem named_ne {V : Vn} {b : Nat} {p : Pl} {x : Nat} (h : x ≠ b) : named V b p x = V x := if_neg h
theorem Sim.name {V : Vn} {h : Hp X} {w : World} (s : Sim E G V h w) (p : Pl) : Sim E G (named V h.next p) ⟨h.t, h.next + 1⟩ w := by
  have hn : V h.next = none := s.new _ (Nat.le_refl _)
  have hle := named_le (p := p) hn
  have back : ∀ {b ob p'}, h.t.get b = some ob → named V h.next p b = some p' → V b = some p' := fun {b ob p'} g q => by
    obtain ⟨p0, q1, _⟩ := s.ob b ob g
    have := hle _ _ q1
    rw [q] at this; cases this; exact q1
  refine ⟨fun b hb => ?_, fun g hg => hle _ _ (s.glob g hg), fun b ob g => ?_, fun b ob q b' ob' q' j g g' e e' => s.apart b ob q b' ob' q' j g g' (back g e) (back g' e')⟩
  · have hb' : h.next + 1 ≤ b := hb
    rw [named_ne (by omega)]; exact s.new b (by omega)
  · obtain ⟨p', q1, q2⟩ := s.ob b ob g
    exact ⟨p', hle _ _ q1, q2.keep hle (fun _ _ => rfl) (Nat.le_refl _)⟩
theorem Live.name {V : Vn} {h : Hp X} {w : World} (s : Sim E G V h w) {p : Pl} {n j : Nat} (l : Live E (named V h.next p) ⟨h.t, n⟩ j) : Live E V h j := by
  obtain ⟨b, ob, p', g, q, hj⟩ := l
  obtain ⟨p0, q1, _⟩ := s.ob b ob g
  have := named_le (p := p) (s.new _ (Nat.le_refl _)) _ _ q1
  rw [q] at this; cases this
  exact ⟨b, ob, _, g, q1, hj⟩
theorem Sim.drop {V : Vn} {h : Hp X} {w : World} (s : Sim E G V h w) (b : Nat) : Sim E G V ⟨h.t.drop b, h.next⟩ w :=
  ⟨s.new, s.glob, fun b' ob g => s.ob b' ob (T.get_drop g).2, fun b1 o1 p1 b2 o2 p2 j g1 g2 => s.apart b1 o1 p1 b2 o2 p2 j (T.get_drop g1).2 (T.get_drop g2).2⟩
/-- An object is put under a name. -/
theorem Sim.put {V : Vn} {h : Hp X} {w w' : World} (s : Sim E G V h w) {b : Nat} {ob : Ob X} {p : Pl} (hb : V b = some p) (ho : ObR E V w' p ob)
    (hj : ∀ j, j < w.heap.size → j ∉ foot E ob p → w'.heap[j]? = w.heap[j]?) (hs : w.heap.size ≤ w'.heap.size)
    (hap : ∀ b' ob' p' j, h.t.get b' = some ob' → b' ≠ b → V b' = some p' → j ∈ foot E ob' p' → j ∉ foot E ob p) : Sim E G V ⟨h.t.put b ob, h.next⟩ w' := by
  refine ⟨s.new, s.glob, fun b' ob' g => ?_, fun b1 o1 p1 b2 o2 p2 j g1 g2 v1 v2 f1 f2 => ?_⟩
  · rcases T.get_put g with ⟨rfl, rfl⟩ | ⟨hne, g'⟩
    · exact ⟨p, hb, ho⟩
    · obtain ⟨p', q1, q2⟩ := s.ob b' ob' g'
      exact ⟨p', q1, q2.keep (.refl V) (fun j q => hj j (q2.lt j q) (hap b' ob' p' j g' hne q1 q)) hs⟩
  · rcases T.get_put g1 with ⟨rfl, rfl⟩ | ⟨n1, g1'⟩
    · rcases T.get_put g2 with ⟨rfl, rfl⟩ | ⟨n2, g2'⟩
      · rfl
      · rw [hb] at v1; cases v1; exact absurd f1 (hap b2 o2 p2 j g2' n2 v2 f2)
    · rcases T.get_put g2 with ⟨rfl, rfl⟩ | ⟨n2, g2'⟩
      · rw [hb] at v2; cases v2; exact absurd f2 (hap b1 o1 p1 j g1' n1 v1 f1)
      · exact s.apart b1 o1 p1 b2 o2 p2 j g1' g2' v1 v2 f1 f2
theorem Live.put {V : Vn} {h : Hp X} {b : Nat} {ob : Ob X} {p : Pl} (hb : V b = some p) {n j : Nat} (l : Live E V ⟨h.t.put b ob, n⟩ j) : Live E V h j ∨ j ∈ foot E ob p := by
  obtain ⟨b', ob', p', g, q, hj⟩ := l
  rcases T.get_put g with ⟨rfl, rfl⟩ | ⟨_, g'⟩
  · rw [hb] at q; cases q; exact .inr hj
  · exact .inl ⟨b', ob', p', g', q, hj⟩

/-- A new object of one block. -/
noncomputable def Hp.add (h : Hp X) (ob : Ob X) : Hp X := ⟨h.t.put h.next ob, Nat.add h.next (nat_lit 1)⟩
/-- Behind an allocation: the new block bears the new object. -/
theorem Sim.add {V : Vn} {h : Hp X} {w w' : World} (s : Sim E G V h w) {ob : Ob X} {p : Pl} (hp : foot E ob p = [w.heap.size]) (ho : ObR E (named V h.next p) w' p ob)
    (hj : ∀ j, j < w.heap.size → w'.heap[j]? = w.heap[j]?) (hs : w.heap.size ≤ w'.heap.size) (hO : Outer w w' := by exact ⟨rfl, rfl, rfl⟩) :
    Sim E G (named V h.next p) (h.add ob) w' ∧ Ext E V h w (named V h.next p) (h.add ob) w' := by
  have hn : V h.next = none := s.new _ (Nat.le_refl _)
  refine ⟨(s.name p).put (named_self _ _ _) ho (fun j hl _ => hj j hl) hs ?_, ⟨named_le hn, hs, Nat.le_succ _, fun j hl hnl => ⟨hj j hl, fun l => ?_⟩, fun b hb => named_ne (Nat.ne_of_lt hb), hO⟩⟩
  · intro b' ob' p' j g hne q hf hf'
    rw [hp, List.mem_singleton] at hf'
    obtain ⟨p0, q1, q2⟩ := (s.name p).ob b' ob' g
    rw [q] at q1; cases q1
    exact Nat.lt_irrefl _ (hf' ▸ q2.lt j hf)
  · rcases Live.put (h := ⟨h.t, h.next + 1⟩) (named_self _ _ _) l with q | q
    · exact hnl (q.name s)
    · rw [hp, List.mem_singleton] at q; omega
/-- An object turns, in its own block. -/
theorem Sim.turn {V : Vn} {h : Hp X} {w w' : World} (s : Sim E G V h w) {b : Nat} {ob0 ob : Ob X} {p : Pl} (hg : h.t.get b = some ob0) (hb : V b = some p) (hf : foot E ob p = foot E ob0 p)
    (ho : ObR E V w' p ob) (hj : ∀ j, j < w.heap.size → j ∉ foot E ob p → w'.heap[j]? = w.heap[j]?) (hs : w.heap.size ≤ w'.heap.size) (hO : Outer w w' := by exact ⟨rfl, rfl, rfl⟩) :
    Sim E G V ⟨h.t.put b ob, h.next⟩ w' ∧ Ext E V h w V ⟨h.t.put b ob, h.next⟩ w' := by
  refine ⟨s.put hb ho hj hs ?_, ⟨.refl V, hs, Nat.le_refl _, fun j hl hnl => ?_, fun _ _ => rfl, hO⟩⟩
  · intro b' ob' p' j g hne q hf1 hf2
    exact hne (s.apart b' ob' p' b ob0 p j g hg q hb hf1 (hf ▸ hf2))
  · have hno : j ∉ foot E ob p := fun q => hnl ⟨b, ob0, p, hg, hb, hf ▸ q⟩
    exact ⟨hj j hl hno, fun l => (Live.put hb l).elim hnl hno⟩

/-! ### Loads and stores of cells -/
theorem cell_at {w : World} {b o : Nat} {c : Array Value} {ty : TypeId} {fz : Nat × Nat} (h : w.heap[b]? = some (.cells c ty fz)) : w.cell? ⟨b, o, none⟩ = c[o]? := by
  simp [World.cell?, h]
theorem add_addr (b o n : Nat) : (⟨b, o, none⟩ : Addr).add n = ⟨b, o + n, none⟩ := by
  unfold Addr.add; split
  · rename_i h; rw [h]; rfl
  · rfl
theorem run_bind_ok {α β : Type} {e : Sem α} {f : α → Sem β} {w w' : World} {a : α} (h : e.run P w = .ok a w') : (e >>= f).run P w = (f a).run P w' := by rw [Sem.run_bind, h]; rfl
theorem run_load {w : World} {a : Addr} {v : Value} (h : w.cell? a = some v) : (load a).run P w = .ok v w := by simp [load, Sem.run, h]
theorem run_loadCellsFrom {w : World} {b o : Nat} {c : Array Value} {ty : TypeId} {fz : Nat × Nat} (h : w.heap[b]? = some (.cells c ty fz)) :
    ∀ (vs : List Value) (i : Nat) (acc : Array Value), (∀ (k : Nat) v, vs[k]? = some v → c[o + i + k]? = some v) →
      (loadCellsFrom ⟨b, o, none⟩ i vs.length acc).run P w = .ok (acc ++ vs.toArray) w := by
  intro vs
  induction vs with
  | nil => intro i acc _; simp [loadCellsFrom, pure]
  | cons v vs ih =>
    intro i acc hv
    show (loadCellsFrom ⟨b, o, none⟩ i (vs.length + 1) acc).run P w = _
    simp only [loadCellsFrom]
    rw [run_bind_ok (run_load (w := w) (v := v) (by rw [add_addr, cell_at h]; exact hv 0 v rfl))]
    rw [ih (i + 1) (acc.push v) (fun k u hk => by rw [show o + (i + 1) + k = o + i + (k + 1) by omega]; exact hv (k + 1) u hk)]
    simp
theorem run_loadCells {w : World} {b o : Nat} {c : Array Value} {ty : TypeId} {fz : Nat × Nat} (h : w.heap[b]? = some (.cells c ty fz)) {vs : List Value} {n : Nat} (hn : vs.length = n)
    (hv : ∀ (k : Nat) v, vs[k]? = some v → c[o + k]? = some v) : (loadCells ⟨b, o, none⟩ n).run P w = .ok vs.toArray w := by
  subst hn
  unfold loadCells
  rw [run_loadCellsFrom h vs 0 #[] (by simpa using hv)]
  simp
/-- The cells that a run of the trie's are borne by. -/
theorem CR.getL {V : Vn} {of cp : Nat} {t : T Ce} {n : Nat} {ext : Option Nat} {c : Array Value} (h : CR V of cp t n ext c) {o m : Nat} {l : List Ce} (ho : o + m ≤ n) (hl : t.getL o m = some l) :
    ∃ vs : List Value, All2 (Ce.rel V) l vs ∧ vs.length = m ∧ ∀ (k : Nat) v, vs[k]? = some v → c[of + o + k]? = some v := by
  obtain ⟨q1, q2⟩ := T.getL_spec hl
  have hin : ∀ k, k < m → ∃ v, c[of + o + k]? = some v ∧ ∃ x, l[k]? = some x ∧ x.rel V v := fun k hk => by
    have := q2 k hk
    obtain ⟨x, hx⟩ : ∃ x, l[k]? = some x := ⟨l[k]'(by omega), List.getElem?_eq_getElem _⟩
    rw [hx] at this
    obtain ⟨v, r1, r2⟩ := h.1 _ _ (by omega) this
    exact ⟨v, by rw [Nat.add_assoc]; exact r1, x, hx, r2⟩
  refine ⟨(List.range m).map fun k => c.getD (of + o + k) undef, ?_, by simp, fun k v hk => ?_⟩
  · refine All2.of_get (by simp [q1]) fun i a ha => ?_
    have hi : i < m := by have := (List.getElem?_eq_some_iff.1 ha).1; omega
    obtain ⟨v, r1, x, r2, r3⟩ := hin i hi
    rw [ha] at r2; cases r2
    refine ⟨v, ?_, r3⟩
    simp [List.getElem?_map, List.getElem?_range hi, Array.getD_eq_getD_getElem?, r1]
  · have hk' : k < m := by have := (List.getElem?_eq_some_iff.1 hk).1; simpa using this
    obtain ⟨v', r1, _⟩ := hin k hk'
    simp [List.getElem?_map, List.getElem?_range hk', Array.getD_eq_getD_getElem?, r1] at hk
    rw [r1, ← hk]

/-- A store of cells into a row, one behind the other. -/
def setRun (c : Array Value) (o : Nat) : List Value → Array Value
  | [] => c
  | v :: l => setRun (c.setIfInBounds o v) (o + 1) l
theorem setRun_size (l : List Value) : ∀ (c : Array Value) (o : Nat), (setRun c o l).size = c.size := by
  induction l with
  | nil => exact fun _ _ => rfl
  | cons v l ih => intro c o; simp [setRun, ih]
theorem setRun_get (l : List Value) : ∀ (c : Array Value) (o j : Nat), o + l.length ≤ c.size → (setRun c o l)[j]? = if o ≤ j ∧ j < o + l.length then l[j - o]? else c[j]? := by
  induction l with
  | nil => intro c o j _; rw [if_neg (by simp only [List.length_nil]; omega)]; rfl
  | cons v l ih =>
    intro c o j hs
    simp only [List.length_cons] at hs
    rw [setRun, ih _ _ _ (by simp; omega)]
    by_cases h1 : o + 1 ≤ j ∧ j < o + 1 + l.length
    · rw [if_pos h1, if_pos (by simp only [List.length_cons]; omega), show j - o = (j - (o + 1)) + 1 by omega]; rfl
    · rw [if_neg h1]
      by_cases h2 : j = o
      · subst h2
        rw [if_pos (by simp only [List.length_cons]; omega), Array.getElem?_setIfInBounds_self, if_pos (by omega), Nat.sub_self]; rfl
      · rw [if_neg (by simp only [List.length_cons]; omega), Array.getElem?_setIfInBounds_ne (by omega)]
def setBlk (w : World) (b : Nat) (o : Obj) : World := { w with heap := w.heap.setIfInBounds b o }
theorem setBlk_self {w : World} {b : Nat} {o o' : Obj} (h : w.heap[b]? = some o) : (setBlk w b o').heap[b]? = some o' := by
  have := (Array.getElem?_eq_some_iff.1 h).1
  simp [setBlk, this]
theorem setBlk_ne {w : World} {b j : Nat} {o : Obj} (h : j ≠ b) : (setBlk w b o).heap[j]? = w.heap[j]? := Array.getElem?_setIfInBounds_ne (fun e => h e.symm)
theorem setBlk_size {w : World} {b : Nat} {o : Obj} : (setBlk w b o).heap.size = w.heap.size := by simp [setBlk]
theorem setBlk_twice {w : World} {b : Nat} {o o' : Obj} : setBlk (setBlk w b o) b o' = setBlk w b o' := by simp [setBlk]
theorem setCell_blk {w : World} {b o : Nat} {c : Array Value} {ty : TypeId} {fz : Nat × Nat} (h : w.heap[b]? = some (.cells c ty fz)) (v : Value) :
    w.setCell ⟨b, o, none⟩ v = setBlk w b (.cells (c.setIfInBounds o v) ty fz) := by
  unfold World.setCell setBlk
  congr 1
  apply Array.ext_getElem?
  intro i
  rw [Array.getElem?_modify, Array.getElem?_setIfInBounds]
  by_cases hi : b = i
  · subst hi
    obtain ⟨hb, e⟩ := Array.getElem?_eq_some_iff.1 h
    simp [hb, e]
  · simp [hi]
theorem run_store {w : World} {b o : Nat} {c : Array Value} {ty : TypeId} {fz : Nat × Nat} (h : w.heap[b]? = some (.cells c ty fz)) (hfz : fz.1 = fz.2 ∨ c.size ≤ fz.1) (ho : o < c.size)
    {v : Value} (hv : v.oneCell = true) : (store ⟨b, o, none⟩ v).run P w = .ok () (setBlk w b (.cells (c.setIfInBounds o v) ty fz)) := by
  have hc : w.cell? ⟨b, o, none⟩ = some c[o] := by rw [cell_at h]; exact Array.getElem?_eq_getElem ho
  have hf : w.frozen? ⟨b, o, none⟩ = false := by
    have : ¬(fz.1 ≤ o ∧ o < fz.2) := by omega
    simp only [World.frozen?, h]
    simpa using this
  cases v <;> first | (simp [Value.oneCell] at hv; done) | (simp [store, Sem.run, hc, hf, setCell_blk h])
theorem run_storeCells {b o : Nat} {ty : TypeId} {fz : Nat × Nat} : ∀ (vs : List Value) (w : World) (c : Array Value) (i : Nat), w.heap[b]? = some (.cells c ty fz) → (fz.1 = fz.2 ∨ c.size ≤ fz.1) →
    o + i + vs.length ≤ c.size → (∀ v ∈ vs, v.oneCell = true) → (storeCells ⟨b, o, none⟩ vs i).run P w = .ok () (setBlk w b (.cells (setRun c (o + i) vs) ty fz)) := by
  intro vs
  induction vs with
  | nil =>
    intro w c i h _ _ _
    have : setBlk w b (.cells (setRun c (o + i) []) ty fz) = w := by
      unfold setBlk setRun
      obtain ⟨hb, e⟩ := Array.getElem?_eq_some_iff.1 h
      rw [← e]
      have : w.heap.setIfInBounds b w.heap[b] = w.heap := by
        apply Array.ext_getElem?
        intro j
        rw [Array.getElem?_setIfInBounds]
        by_cases hj : b = j
        · subst hj; simp [hb]
        · simp [hj]
      rw [this]
    rw [this]; simp [storeCells, pure]
  | cons v vs ih =>
    intro w c i h hfz hs hv
    simp only [List.length_cons] at hs
    simp only [storeCells]
    rw [run_bind_ok (by rw [add_addr]; exact run_store h hfz (by omega) (hv v (by simp)))]
    rw [ih _ (c.setIfInBounds (o + i) v) (i + 1) (setBlk_self h) (by simpa using hfz) (by simp; omega) (fun u hu => hv u (by simp [hu]))]
    rw [setBlk_twice]
    rfl
end Ev
end Go.Proofs.YtlkgdpdnhnakoaaGreatDoor

namespace Go.Proofs.YtlkgdpdnhnakoaaGreatDoor
namespace Ev
variable {X : Type} {E : Xs X} {G : Nat}

/-- What is asked of a program: its functions and types as tries. -/
structure Tab where
  P : Program
  fn : T Func
  ty : T TypeInfo
structure Tab.Ok (A : Tab) : Prop where
  fn : ∀ f F, A.fn.get f = some F → A.P.funcs[f]? = some F ∧ (F.name == "runtime.NumGoroutine") = false
  ty : ∀ t i, A.ty.get t = some i → A.P.info? t = some i
theorem info_of {P : Program} {t : TypeId} {i : TypeInfo} (h : P.types[t]? = some i) : P.info? t = some i := by
  have := (Array.getElem?_eq_some_iff.1 h).1
  unfold Tables.info?
  rw [if_pos this, h]
noncomputable def Tab.und (A : Tab) (t : TypeId) : Option TypeDesc := match A.ty.get t with
  | none => none
  | some i => match i.desc with
    | .named _ u => match A.ty.get u with
      | none => none
      | some j => some j.desc
    | d => some d
noncomputable def Tab.size (A : Tab) (t : TypeId) : Option Nat := match A.ty.get t with
  | none => none
  | some i => some i.size
theorem Tab.Ok.und {A : Tab} (h : A.Ok) {t : TypeId} {d : TypeDesc} (q : A.und t = some d) : A.P.underlying t = some d := by
  unfold Tab.und at q
  cases hi : A.ty.get t with
  | none => simp [hi] at q
  | some i =>
    simp only [hi] at q
    have hp := h.ty _ _ hi
    unfold Program.underlying
    rw [hp]
    obtain ⟨desc, s1, s2, s3, s4, s5, s6, s7, s8, s9⟩ := i
    cases desc <;> simp only at q ⊢ <;> first
      | exact q
      | (rename_i nm u
         cases hj : A.ty.get u with
         | none => simp [hj] at q
         | some j => simp only [hj, Option.some.injEq] at q; rw [h.ty _ _ hj, Option.map_some, q])
theorem Tab.Ok.size {A : Tab} (h : A.Ok) {t : TypeId} {n : Nat} (q : A.size t = some n) (w : World) : (sizeOf t).run A.P w = .ok n w := by
  unfold Tab.size at q
  cases hi : A.ty.get t with
  | none => simp [hi] at q
  | some i =>
    simp only [hi, Option.some.injEq] at q
    rw [run_sizeOf (w := w) (h.ty _ _ hi), Program.cellsOf, h.ty _ _ hi]; simp [q]

/-! ### Forcing -/
@[reducible] noncomputable def nseq {β : Type} (n : Nat) (k : Nat → β) : β := Nat.rec (motive := fun _ => β) (k (nat_lit 0)) (fun m _ => k (Nat.succ m)) n
theorem nseq_eq {β : Type} (n : Nat) (k : Nat → β) : nseq n k = k n := by cases n <;> rfl
@[reducible] noncomputable def iseq {β : Type} (n : Int) (k : Int → β) : β := Int.rec (motive := fun _ => β) (fun m => nseq m fun m => k (.ofNat m)) (fun m => nseq m fun m => k (.negSucc m)) n
theorem iseq_eq {β : Type} (n : Int) (k : Int → β) : iseq n k = k n := by
  cases n with
  | ofNat m => exact nseq_eq m fun m => k (.ofNat m)
  | negSucc m => exact nseq_eq m fun m => k (.negSucc m)
noncomputable def cseq {β : Type} (c : Cap) (k : Cap → β) : β := match c with
  | .k n => nseq n fun n => k (.k n)
  | .e n => nseq n fun n => k (.e n)
theorem cseq_eq {β : Type} (n : Cap) (k : Cap → β) : cseq n k = k n := by
  cases n with
  | k m => exact nseq_eq m fun m => k (.k m)
  | e m => exact nseq_eq m fun m => k (.e m)
noncomputable def Ce.seq {β : Type} (c : Ce) (k : Ce → β) : β := match c with
  | .B true => k (.B true)
  | .B false => k (.B false)
  | .I j n => iseq n fun n => k (.I j n)
  | .P (some (q, o)) => nseq q fun q => nseq o fun o => k (.P (some (q, o)))
  | .L (some (q, o)) n c => nseq q fun q => nseq o fun o => nseq n fun n => cseq c fun c => k (.L (some (q, o)) n c)
  | c => k c
theorem Ce.seq_eq {β : Type} (c : Ce) (k : Ce → β) : c.seq k = k c := by
  unfold Ce.seq
  split
  · rfl
  · rfl
  · exact iseq_eq _ _
  · simp only [nseq_eq]
  · simp only [nseq_eq, cseq_eq]
  · rfl
noncomputable def AV.seq {β : Type} (v : AV) (k : AV → β) : β := match v with
  | .V (.C x) => x.seq fun x => k (.V (.C x))
  | v => k v
theorem AV.seq_eq {β : Type} (v : AV) (k : AV → β) : v.seq k = k v := by
  unfold AV.seq
  split
  · exact Ce.seq_eq _ _
  · rfl
noncomputable def T.seq {α β : Type} (t : T α) (k : T α → β) : β := T.rec (motive := fun _ => β) (k .e) (fun v l r _ _ => k (.nd v l r)) t
theorem T.seq_eq {α β : Type} (t : T α) (k : T α → β) : t.seq k = k t := by cases t <;> rfl
noncomputable def Hp.seq {β : Type} (h : Hp X) (k : Hp X → β) : β := match h with
  | ⟨t, n⟩ => t.seq fun t => nseq n fun n => k ⟨t, n⟩
theorem Hp.seq_eq {β : Type} (h : Hp X) (k : Hp X → β) : h.seq k = k h := by
  obtain ⟨t, n⟩ := h
  simp only [Hp.seq, T.seq_eq, nseq_eq]

/-! ### Constants and operands -/
def ceOf : Value → Option Ce
  | .bool x => some (.B x)
  | .int k n => some (.I k n)
  | .string s => some (.S s.data.toList)
  | .pointer none => some (.P none)
  | .slice none l c => some (.L none l (.k c))
  | .map none => some (.M none)
  | .nilFunc => some .NF
  | _ => none
theorem ceOf_rel {V : Vn} {v : Value} {c : Ce} (h : ceOf v = some c) : c.rel V v := by
  unfold ceOf at h
  split at h <;> (cases h; first | done | (unfold Ce.rel; first | rfl | (simp; done)))
def ceL : List Value → Option (List Ce)
  | [] => some []
  | v :: l => match ceOf v with
    | none => none
    | some c => match ceL l with
      | none => none
      | some r => some (c :: r)
theorem ceL_rel {V : Vn} : ∀ {l : List Value} {r : List Ce}, ceL l = some r → All2 (Ce.rel V) r l
  | [], _, h => by cases h; trivial
  | v :: l, r, h => by
    simp only [ceL] at h
    cases hv : ceOf v with
    | none => simp [hv] at h
    | some c =>
      simp only [hv] at h
      cases hl : ceL l with
      | none => simp [hl] at h
      | some r' => simp only [hl, Option.some.injEq] at h; subst h; exact ⟨ceOf_rel hv, ceL_rel hl⟩
def a0Of : Value → Option A0
  | .agg cs => match ceL cs.toList with
    | none => none
    | some l => some (.G l)
  | v => match ceOf v with
    | none => none
    | some c => some (.C c)
theorem a0Of_rel {V : Vn} {v : Value} {a : A0} (h : a0Of v = some a) : a.rel V v := by
  unfold a0Of at h
  split at h
  · rename_i cs
    cases hl : ceL cs.toList with
    | none => simp [hl] at h
    | some l => simp only [hl, Option.some.injEq] at h; subst h; exact ⟨cs.toList, ceL_rel hl, by simp⟩
  · cases hc : ceOf v with
    | none => simp [hc] at h
    | some c => simp only [hc, Option.some.injEq] at h; subst h; exact ceOf_rel (V := V) hc
noncomputable def opd (G : Nat) (tm : T AV) : Operand → Option AV
  | .tmp t => tm.get t
  | .const .nilIface => some .Z
  | .const v => match a0Of v with
    | none => none
    | some a => some (.V a)
  | .global g => match Nat.ble (Nat.succ g) G with
    | true => some (.V (.C (.P (some (g, 0)))))
    | false => none
  | .func f => some (.V (.C (.F f [] [])))
theorem opd_rel {V : Vn} {h : Hp X} {w : World} (s : Sim E G V h w) {tm : T AV} {nt : Nat} {a : Act} (ht : TmR V tm nt a.tmps) {x : Operand} {v : AV} (q : opd G tm x = some v) : v.rel V (a.eval x) := by
  cases x with
  | tmp t =>
    obtain ⟨u, q1, q2⟩ := ht.2 t v q
    simpa [Act.eval, Array.getD_eq_getD_getElem?, q1] using q2
  | const c =>
    unfold opd at q
    split at q
    case h_1 => rename_i e; cases e
    case h_2 => rename_i e; cases e; injection q with q; subst q; rfl
    case h_4 => rename_i e; cases e
    case h_5 => rename_i e; cases e
    rename_i e; cases e
    cases hc : a0Of c with
    | none => simp [hc] at q
    | some a0 => simp only [hc, Option.some.injEq] at q; subst q; exact a0Of_rel (V := V) hc
  | global g =>
    simp only [opd] at q
    cases hg : Nat.ble (Nat.succ g) G with
    | false => simp [hg] at q
    | true =>
      simp only [hg, Option.some.injEq] at q
      subst q
      exact ⟨⟨g, 0, none⟩, ⟨_, s.glob g (Nat.le_of_ble_eq_true hg), rfl⟩, rfl⟩
  | func f => simp only [opd, Option.some.injEq] at q; subst q; exact ⟨[], [], trivial, trivial, rfl⟩
noncomputable def opds (G : Nat) (tm : T AV) : List Operand → Option (List AV)
  | [] => some []
  | x :: l => match opd G tm x with
    | none => none
    | some a => match opds G tm l with
      | none => none
      | some r => some (a :: r)
theorem opds_rel {V : Vn} {h : Hp X} {w : World} (s : Sim E G V h w) {tm : T AV} {nt : Nat} {a : Act} (ht : TmR V tm nt a.tmps) :
    ∀ {xs : List Operand} {vs : List AV}, opds G tm xs = some vs → All2 (AV.rel V) vs (xs.map a.eval)
  | [], _, h => by cases h; trivial
  | x :: l, vs, h => by
    simp only [opds] at h
    cases hv : opd G tm x with
    | none => simp [hv] at h
    | some c =>
      simp only [hv] at h
      cases hl : opds G tm l with
      | none => simp [hl] at h
      | some r' => simp only [hl, Option.some.injEq] at h; subst h; exact ⟨opd_rel s ht hv, opds_rel s ht hl⟩

/-! ### Whole numbers -/
/-- IntKind.wrap, made for small numbers. -/
def wrapF (k : IntKind) (n : Int) : Int := match k, n with
  | .i64, .ofNat m => match Nat.ble (nat_lit 9223372036854775808) m with
    | false => .ofNat m
    | true => k.wrap n
  | .i64, .negSucc m => match Nat.ble (nat_lit 9223372036854775808) m with
    | false => n
    | true => k.wrap n
  | .u8, .ofNat m => .ofNat (Nat.mod m (nat_lit 256))
  | .u32, .ofNat m => .ofNat (Nat.mod m (nat_lit 4294967296))
  | .u64, .ofNat m => .ofNat (Nat.mod m (nat_lit 18446744073709551616))
  | k, n => k.wrap n
theorem wrap_i64 {n : Int} (h1 : -9223372036854775808 ≤ n) (h2 : n < 9223372036854775808) : IntKind.i64.wrap n = n := by
  have e1 : (2 : Int) ^ IntKind.i64.bits = 18446744073709551616 := rfl
  have e2 : (2 : Int) ^ (IntKind.i64.bits - 1) = 9223372036854775808 := rfl
  simp only [IntKind.wrap, e1, e2, IntKind.signed, Bool.true_and, decide_eq_true_eq]
  split <;> omega
theorem lt_of_ble {a m : Nat} (h : Nat.ble a m = false) : m < a := by
  rcases Nat.lt_or_ge m a with q | q
  · exact q
  · rw [Nat.ble_eq_true_of_le q] at h; cases h
theorem wrap_u {k : IntKind} {c : Nat} (hs : k.signed = false) (hc : (2 : Int) ^ k.bits = (c : Nat)) (m : Nat) : ((m % c : Nat) : Int) = k.wrap (m : Nat) := by
  simp [IntKind.wrap, hs, hc]
theorem wrapF_eq (k : IntKind) (n : Int) : wrapF k n = k.wrap n := by
  unfold wrapF
  split
  · rename_i m
    split
    · rename_i h
      have : m < 9223372036854775808 := lt_of_ble h
      exact (wrap_i64 (by simp only [Int.ofNat_eq_natCast]; omega) (by simp only [Int.ofNat_eq_natCast]; omega)).symm
    · rfl
  · rename_i m
    split
    · rename_i h
      have : m < 9223372036854775808 := lt_of_ble h
      exact (wrap_i64 (by omega) (by omega)).symm
    · rfl
  · exact wrap_u (k := .u8) (c := 256) rfl rfl _
  · exact wrap_u (k := .u32) (c := 4294967296) rfl rfl _
  · exact wrap_u (k := .u64) (c := 18446744073709551616) rfl rfl _
  · rfl
end Ev
end Go.Proofs.YtlkgdpdnhnakoaaGreatDoor

namespace Go.Proofs.YtlkgdpdnhnakoaaGreatDoor
namespace Ev
variable {X : Type} {E : Xs X} {G : Nat} {P : Program}

def ofB (b : Bool) : Option Ce := match b with
  | true => some (.B true)
  | false => some (.B false)
theorem ofB_eq {b : Bool} {c : Ce} (h : ofB b = some c) : c = .B b := by cases b <;> cases h <;> rfl
def intOp (op : BinOp) (k : IntKind) (a b : Int) : Option Ce :=
  match op with
  | .add => some (.I k (wrapF k (a + b)))
  | .sub => some (.I k (wrapF k (a - b)))
  | .mul => some (.I k (wrapF k (a * b)))
  | .quo => match decide (b = 0) with | true => none | false => some (.I k (wrapF k (a.tdiv b)))
  | .rem => match decide (b = 0) with | true => none | false => some (.I k (a.tmod b))
  | .and => some (.I k (wrapF k ((BitVec.ofInt k.bits a &&& BitVec.ofInt k.bits b).toNat : Nat)))
  | .or => some (.I k (wrapF k ((BitVec.ofInt k.bits a ||| BitVec.ofInt k.bits b).toNat : Nat)))
  | .xor => some (.I k (wrapF k ((BitVec.ofInt k.bits a ^^^ BitVec.ofInt k.bits b).toNat : Nat)))
  | .andNot => some (.I k (wrapF k ((BitVec.ofInt k.bits a &&& ~~~BitVec.ofInt k.bits b).toNat : Nat)))
  | .eql => ofB (decide (a = b))
  | .neq => ofB (!decide (a = b))
  | .lss => ofB (decide (a < b))
  | .leq => ofB (decide (a ≤ b))
  | .gtr => ofB (decide (b < a))
  | .geq => ofB (decide (b ≤ a))
  | _ => none
theorem intOp_run {op : BinOp} {k : IntKind} {a b : Int} {c : Ce} (h : intOp op k a b = some c) (t : TypeId) (w : World) :
    ∃ v, (binOp op t (.int k a) (.int k b)).run P w = .ok v w ∧ ∀ V, c.rel V v := by
  cases op <;> simp only [intOp] at h <;> first
    | (cases h; done)
    | (injection h with h; subst h; refine ⟨_, ?_, fun V => rfl⟩; simp [binOp, Op.intArith, Op.intBits, wrapF_eq]; done)
    | (split at h
       · cases h
       · rename_i hb
         injection h with h; subst h
         have hb' : b ≠ 0 := of_decide_eq_false hb
         exact ⟨_, by simp [binOp, Op.intDiv, hb', wrapF_eq], fun V => rfl⟩)
    | (have := ofB_eq h; subst this; refine ⟨_, ?_, fun V => rfl⟩; simp [binOp, Op.intCmp, BEq.beq, bne]; done)
def shOp (op : BinOp) (k : IntKind) (a b : Int) : Option Ce :=
  match decide (b < 0) with
  | true => none
  | false => match op with
    | .shl => some (.I k (wrapF k (a * 2 ^ (min b.toNat k.bits))))
    | .shr => some (.I k (a.fdiv (2 ^ (min b.toNat k.bits))))
    | _ => none
theorem shOp_run {op : BinOp} {k : IntKind} {a b : Int} {c : Ce} (h : shOp op k a b = some c) (t : TypeId) (j : IntKind) (w : World) :
    ∃ v, (binOp op t (.int k a) (.int j b)).run P w = .ok v w ∧ ∀ V, c.rel V v := by
  unfold shOp at h
  split at h
  · cases h
  · rename_i hb
    have hb' : ¬ b < 0 := of_decide_eq_false hb
    cases op <;> simp only at h <;> first
      | (cases h; done)
      | (injection h with h; subst h; refine ⟨_, ?_, fun V => rfl⟩; simp [binOp, Op.shift, hb', wrapF_eq]; done)
def strOp (op : BinOp) (a b : List UInt8) : Option Ce :=
  match op with
  | .add => match Nat.ble (a.length + b.length) (nat_lit 1000000) with
    | true => some (.S (a ++ b))
    | false => none
  | .eql => ofB (a == b)
  | .neq => ofB (!(a == b))
  | .lss => ofB (Op.bytesLess a b)
  | .leq => ofB (Op.bytesLess a b || a == b)
  | .gtr => ofB (!(Op.bytesLess a b || a == b))
  | .geq => ofB (!Op.bytesLess a b)
  | _ => none
theorem mk_append (a b : List UInt8) : (⟨a.toArray⟩ : ByteArray) ++ ⟨b.toArray⟩ = ⟨(a ++ b).toArray⟩ := by
  have h := Joins.data_append (⟨a.toArray⟩ : ByteArray) ⟨b.toArray⟩
  generalize (⟨a.toArray⟩ : ByteArray) ++ ⟨b.toArray⟩ = x at h
  cases x with
  | mk d =>
    congr 1
    apply Array.toList_inj.1
    simpa using h
theorem strOp_run {op : BinOp} {a b : List UInt8} {c : Ce} (h : strOp op a b = some c) (t : TypeId) (w : World) :
    ∃ v, (binOp op t (.string ⟨a.toArray⟩) (.string ⟨b.toArray⟩)).run P w = .ok v w ∧ ∀ V, c.rel V v := by
  cases op <;> simp only [strOp] at h <;> first
    | (cases h; done)
    | (have := ofB_eq h; subst this; refine ⟨_, ?_, fun V => rfl⟩; simp [binOp, Op.stringOp]; done)
    | (split at h
       · rename_i hb
         injection h with h; subst h
         have hb' : a.length + b.length ≤ 1000000 := Nat.le_of_ble_eq_true hb
         refine ⟨_, ?_, fun V => rfl⟩
         have : ¬ (((⟨a.toArray⟩ : ByteArray).size + (⟨b.toArray⟩ : ByteArray).size : Nat) : Int) > IntKind.i64.max := by
           show ¬ (((a.toArray.size + b.toArray.size : Nat) : Int) > IntKind.i64.max)
           have e : IntKind.i64.max = 9223372036854775807 := rfl
           rw [e]; simp only [List.size_toArray]; omega
         simp only [binOp, Op.stringOp, if_neg this, mk_append]
         rfl
       · cases h)
/-- Equality of values of one kind, one of them nil; of two truths; of two places under one name. -/
def eqCe (d : TypeDesc) (x y : Ce) : Option Bool :=
  match d, x, y with
  | .bool, .B a, .B b => some (a == b)
  | .pointer _, .P none, .P b => some b.isNone
  | .pointer _, .P a, .P none => some a.isNone
  | .slice _, .L none _ (.k _), .L b _ _ => some b.isNone
  | .slice _, .L a _ _, .L none _ (.k _) => some a.isNone
  | .map _ _, .M none, .M b => some b.isNone
  | .map _ _, .M a, .M none => some a.isNone
  | .func .., .NF, .NF => some true
  | .func .., .NF, .F .. => some false
  | .func .., .F .., .NF => some false
  | _, _, _ => none
theorem eqCe_run {V : Vn} {d : TypeDesc} {x y : Ce} {r : Bool} (h : eqCe d x y = some r) {t : TypeId} (ht : P.underlying t = some d) {u v : Value} (hu : x.rel V u) (hv : y.rel V v) (w : World) :
    (Op.equal t u v).run P w = .ok r w := by
  unfold Op.equal Op.maxDepth Op.equalIn
  rw [Sem.run_bind, run_underlying ht]
  unfold eqCe at h
  split at h
  case h_11 => cases h
  all_goals simp only [Ce.rel] at hu hv
  case h_1 => subst hu; subst hv; injection h with h; subst h; rfl
  case h_2 b =>
    subst hu; injection h with h; subst h
    cases b with
    | none => subst hv; rfl
    | some b => obtain ⟨q, _, rfl⟩ := hv; rfl
  case h_3 a _ =>
    subst hv; injection h with h; subst h
    cases a with
    | none => subst hu; rfl
    | some b => obtain ⟨q, _, rfl⟩ := hu; rfl
  case h_4 b n c =>
    subst hu; injection h with h; subst h
    cases b with
    | none => cases c with
      | k c => subst hv; rfl
      | e c => exact hv.elim
    | some b => cases c with
      | k c => obtain ⟨q, _, rfl⟩ := hv; rfl
      | e c => obtain ⟨q, _, _, rfl⟩ := hv; rfl
  case h_5 a n c _ _ _ =>
    subst hv; injection h with h; subst h
    cases a with
    | none => cases c with
      | k c => subst hu; rfl
      | e c => exact hu.elim
    | some b => cases c with
      | k c => obtain ⟨q, _, rfl⟩ := hu; rfl
      | e c => obtain ⟨q, _, _, rfl⟩ := hu; rfl
  case h_6 b =>
    subst hu; injection h with h; subst h
    cases b with
    | none => subst hv; rfl
    | some b => obtain ⟨q, _, rfl⟩ := hv; rfl
  case h_7 a _ =>
    subst hv; injection h with h; subst h
    cases a with
    | none => subst hu; rfl
    | some b => obtain ⟨q, _, rfl⟩ := hu; rfl
  case h_8 => subst hu; subst hv; injection h with h; subst h; rfl
  case h_9 => subst hu; obtain ⟨_, _, _, _, rfl⟩ := hv; injection h with h; subst h; rfl
  case h_10 => subst hv; obtain ⟨_, _, _, _, rfl⟩ := hu; injection h with h; subst h; rfl
end Ev
end Go.Proofs.YtlkgdpdnhnakoaaGreatDoor

namespace Go.Proofs.YtlkgdpdnhnakoaaGreatDoor
namespace Ev
variable {X : Type} {E : Xs X} {G : Nat} {A : Tab}

inductive Res (X : Type) where
  | val (v : AV) (h : Hp X)
  | skip (h : Hp X)
  | call (f : FuncId) (args : List AV)
  | dfr (f : FuncId) (args caps : List AV)
  | yld (l : Nat) (args : List AV)
/-- What the model's run of an operation must be, for what the evaluator says of it. -/
def Snd (E : Xs X) (G : Nat) (P : Program) (V : Vn) (h : Hp X) (w : World) : Res X → Result Next → Prop
  | .val v h', q => ∃ x w' V', q = .ok (.value x) w' ∧ v.rel V' x ∧ Sim E G V' h' w' ∧ Ext E V h w V' h' w'
  | .skip h', q => ∃ w' V', q = .ok .skip w' ∧ Sim E G V' h' w' ∧ Ext E V h w V' h' w'
  | .call f args, q => ∃ xs : List Value, q = .ok (.enter f xs.toArray) w ∧ All2 (AV.rel V) args xs
  | .dfr f args cs, q => ∃ xs ys : List Value, q = .ok (.defer { target := .fn (.func f) ys.toArray, args := xs.toArray }) w ∧ All2 (AV.rel V) args xs ∧ All2 (AV.rel V) cs ys
  | .yld l args, q => ∃ p, ∃ xs : List Value, V l = some p ∧ q = (Instr.yield p.bl xs.toArray).run P w ∧ All2 (AV.rel V) args xs
theorem Snd.pure {V : Vn} {h : Hp X} {w : World} {P : Program} (s : Sim E G V h w) {v : AV} {x : Value} {q : Result Next} (hq : q = .ok (.value x) w) (r : v.rel V x) : Snd E G P V h w (.val v h) q :=
  ⟨x, w, V, hq, r, s, .refl E V h w⟩
/-- A new row of cells. -/
theorem newCells {V : Vn} {h : Hp X} {w : World} (s : Sim E G V h w) {l : List Ce} {vs rest : List Value} (hr : All2 (Ce.rel V) l vs) (ty : TypeId) (k cp : Nat) (hk : cp * k = l.length + rest.length)
    (ext : Option Nat) (he : ∀ k', ext = some k' → k' = k) (fz : Nat × Nat) (hfz : fz.1 = fz.2 ∨ l.length + rest.length ≤ fz.1) (w' : World) (hw : w'.heap = w.heap.push (.cells (vs ++ rest).toArray ty fz)) {n : Nat} (hn : n = l.length)
    {t : T Ce} (ht : ∀ i x, i < l.length → t.get i = some x → l[i]? = some x) (hO : Outer w w' := by exact ⟨rfl, rfl, rfl⟩) :
    Sim E G (named V h.next ⟨w.heap.size, 0, cp, 0, 0⟩) (h.add (.cells t n ext)) w' ∧
      Ext E V h w (named V h.next ⟨w.heap.size, 0, cp, 0, 0⟩) (h.add (.cells t n ext)) w' := by
  subst hn
  have hlen := hr.length
  refine s.add (p := ⟨w.heap.size, 0, cp, 0, 0⟩) rfl ?_ (fun j hj => by rw [hw, Array.getElem?_push]; simp [Nat.ne_of_lt hj]) (by rw [hw]; simp) hO
  refine ⟨(vs ++ rest).toArray, ty, fz, by rw [hw]; simp, by simp only [List.size_toArray, List.length_append]; omega, fun i x hi g => ?_, ?_, fun k' hk' => ?_⟩
  · have g' := ht i x hi g
    obtain ⟨v, q1, q2⟩ := hr.get g'
    refine ⟨v, ?_, q2.mono (named_le (s.new _ (Nat.le_refl _)))⟩
    simp only [Nat.zero_add, List.getElem?_toArray]
    rw [List.getElem?_append_left (by omega)]; exact q1
  · simp only [Nat.zero_add, List.size_toArray, List.length_append]; omega
  · rw [he k' hk']; simp only [List.size_toArray, List.length_append, Nat.zero_add]; omega
theorem pNew (V : Vn) (b n : Nat) (cp : Nat) : pR (named V b ⟨n, 0, cp, 0, 0⟩) (b, 0) ⟨n, 0, none⟩ := ⟨_, named_self _ _ _, rfl⟩

/-! ### Loads and stores -/
def isAggD : TypeDesc → Bool
  | .struct _ | .array .. => true
  | _ => false
theorem run_isAgg {P : Program} {t : TypeId} {d : TypeDesc} (h : P.underlying t = some d) (w : World) : (isAgg t).run P w = .ok (isAggD d) w := by
  unfold isAgg
  rw [run_bind_ok (run_underlying h w)]
  cases d <;> rfl
noncomputable def loadAt (A : Tab) (h : Hp X) (ty : TypeId) (b o : Nat) : Option AV :=
  match h.t.get b with
  | some (.cells t m _) => match A.und ty with
    | none => none
    | some d => match isAggD d with
      | true => match A.size ty with
        | none => none
        | some n => match Nat.ble (Nat.add o n) m with
          | false => none
          | true => match t.getL o n with
            | none => none
            | some l => some (.V (.G l))
      | false => match Nat.ble (Nat.succ o) m with
        | false => none
        | true => match t.get o with
          | none => none
          | some x => some (.V (.C x))
  | _ => none
theorem loadAt_run (hA : A.Ok) {V : Vn} {h : Hp X} {w : World} (s : Sim E G V h w) {ty : TypeId} {b o : Nat} {v : AV} (q : loadAt A h ty b o = some v) {x : Addr} (hx : pR V (b, o) x) :
    ∃ u, (loadVar ty x).run A.P w = .ok u w ∧ v.rel V u := by
  unfold loadAt at q
  split at q
  case h_2 => cases q
  rename_i t n ext hg
  obtain ⟨p, hp, c, bt, fz, hc, _, hr⟩ := s.ob _ _ hg
  obtain ⟨p', hp', rfl⟩ := hx
  simp only [hp, Option.some.injEq] at hp'
  subst hp'
  cases hd : A.und ty with
  | none => simp [hd] at q
  | some d =>
    simp only [hd] at q
    have hu := hA.und hd
    unfold loadVar
    rw [run_bind_ok (run_isAgg hu w)]
    cases ha : isAggD d with
    | true =>
      simp only [ha] at q ⊢
      cases hn : A.size ty with
      | none => simp [hn] at q
      | some m =>
        simp only [hn] at q
        split at q
        · cases q
        rename_i hb
        cases hl : t.getL o m with
        | none => simp [hl] at q
        | some l =>
          simp only [hl, Option.some.injEq] at q
          subst q
          obtain ⟨vs, r1, r2, r3⟩ := hr.getL (Nat.le_of_ble_eq_true hb) hl
          refine ⟨.agg vs.toArray, ?_, vs, r1, rfl⟩
          simp only [if_true]
          rw [run_bind_ok (hA.size hn w), run_bind_ok (run_loadCells (o := p.of + o) hc r2 (fun k v hk => r3 k v hk))]
          rfl
    | false =>
      simp only [ha] at q ⊢
      split at q
      · cases q
      rename_i hb
      cases hl : t.get o with
      | none => simp [hl] at q
      | some x =>
        simp only [hl, Option.some.injEq] at q
        subst q
        obtain ⟨u, r1, r2⟩ := hr.1 _ _ (Nat.le_of_ble_eq_true hb) hl
        refine ⟨u, ?_, r2⟩
        simp only [Bool.false_eq_true, if_false]
        exact run_load (by rw [cell_at hc]; exact r1)
noncomputable def storeAt (h : Hp X) (b o : Nat) (l : List Ce) : Option (Hp X) :=
  match h.t.get b with
  | some (.cells t n ext) => match Nat.ble (Nat.add o l.length) n with
    | true => some ⟨h.t.put b (.cells (T.putL l t o) n ext), h.next⟩
    | false => none
  | _ => none
theorem CR.put {V : Vn} {of cp : Nat} {t : T Ce} {n : Nat} {ext : Option Nat} {c : Array Value} (h : CR V of cp t n ext c) {o : Nat} {l : List Ce} {vs : List Value} (hr : All2 (Ce.rel V) l vs) (ho : o + l.length ≤ n) :
    CR V of cp (T.putL l t o) n ext (setRun c (of + o) vs) := by
  have hlen := hr.length
  have h2 := h.2.1
  refine ⟨fun i x hin g => ?_, by rw [setRun_size]; exact h2, fun k hk => by rw [setRun_size]; exact h.2.2 k hk⟩
  rw [setRun_get _ _ _ _ (by omega)]
  rcases T.get_putL g with ⟨q1, q2⟩ | ⟨q1, q2⟩
  · have hi := (List.getElem?_eq_some_iff.1 q2).1
    obtain ⟨v, r1, r2⟩ := hr.get q2
    refine ⟨v, ?_, r2⟩
    rw [if_pos (by omega), show of + i - (of + o) = i - o by omega]; exact r1
  · obtain ⟨v, r2, r3⟩ := h.1 i x hin q2
    refine ⟨v, ?_, r3⟩
    rw [if_neg (by omega)]; exact r2
theorem storeAt_run {P : Program} {V : Vn} {h h' : Hp X} {w : World} (s : Sim E G V h w) {b o : Nat} {l : List Ce} (q : storeAt h b o l = some h') {x : Addr} (hx : pR V (b, o) x) {vs : List Value} (hr : All2 (Ce.rel V) l vs) :
    ∃ w', (storeCells x vs).run P w = .ok () w' ∧ Sim E G V h' w' ∧ Ext E V h w V h' w' := by
  unfold storeAt at q
  split at q
  case h_2 => cases q
  rename_i t n ext hg
  cases hb : Nat.ble (Nat.add o l.length) n with
  | false => rw [hb] at q; cases q
  | true =>
    rw [hb] at q
    injection q with q
    subst q
    have hle : o + l.length ≤ n := Nat.le_of_ble_eq_true hb
    obtain ⟨p, hp, c, bt, fz, hc, hfz, hcr⟩ := s.ob _ _ hg
    obtain ⟨p', hp', rfl⟩ := hx
    simp only [hp, Option.some.injEq] at hp'
    subst hp'
    have hlen := hr.length
    have h2 := hcr.2.1
    have one : ∀ v ∈ vs, v.oneCell = true := fun v hv => by
      obtain ⟨i, hi, e⟩ := List.getElem_of_mem hv
      have : l[i]? = some (l[i]'(by omega)) := List.getElem?_eq_getElem _
      obtain ⟨v', r1, r2⟩ := hr.get this
      rw [List.getElem?_eq_getElem hi, e] at r1; cases r1; exact r2.one
    refine ⟨_, run_storeCells (o := p.of + o) vs w c 0 hc hfz (by omega) one, ?_⟩
    refine s.turn hg hp rfl ⟨_, bt, fz, setBlk_self hc, by rw [setRun_size]; exact hfz, hcr.put hr hle⟩ (fun j _ hj => ?_) (by rw [setBlk_size]; exact Nat.le_refl _)
    simp only [foot, List.mem_singleton] at hj
    exact setBlk_ne hj
end Ev
end Go.Proofs.YtlkgdpdnhnakoaaGreatDoor

namespace Go.Proofs.YtlkgdpdnhnakoaaGreatDoor
namespace Ev
variable {X : Type}

/-! ### Slices -/
/-- A bound of a slice expression. -/
def bnd (d : Nat) : Option AV → Option Nat
  | none => some d
  | some (.V (.C (.I _ (.ofNat n)))) => some n
  | _ => none
/-- Are so many elements surely there? -/
noncomputable def inside (h : Hp X) (k b o d n r : Nat) : Bool :=
  match Nat.ble r n with
  | true => true
  | false => match h.t.get b with
    | some (.cells _ q (some k')) => match Nat.beq k' k, Nat.beq o (Nat.mul d k), Nat.ble (Nat.add o (Nat.mul r k)) q, Nat.ble (nat_lit 1) k with
      | true, true, true, true => true
      | _, _, _, _ => false
    | _ => false
/-- x[lo:hi:mx] of a slice of so many elements of k cells each. -/
noncomputable def mkSlice (h : Hp X) (k : Nat) (a : Option (Nat × Nat)) (n : Nat) (c : Cap) (lo hi mx : Option AV) : Option (AV × Hp X) :=
  match bnd 0 lo, bnd n hi with
  | some l, some r => match Nat.ble l r with
    | false => none
    | true => match mx with
      | none => match a, c with
        | none, .k c => match Nat.ble r c with
          | false => none
          | true => some (.V (.C (.L none (Nat.sub r l) (.k (Nat.sub c l)))), h)
        | some (b, o), .k c => match Nat.ble r c with
          | false => none
          | true => match Nat.beq c l with
            | true => some (.V (.C (.L (some (b, o)) (Nat.sub r l) (.k (Nat.sub c l)))), h)
            | false => some (.V (.C (.L (some (b, Nat.add o (Nat.mul l k))) (Nat.sub r l) (.k (Nat.sub c l)))), h)
        | some (b, o), .e d => match inside h k b o d n r with
          | false => none
          | true => match l with
            | 0 => some (.V (.C (.L (some (b, o)) r (.e d))), h)
            | l + 1 => match Nat.ble n (Nat.succ l), Nat.ble r (Nat.succ l) with
              | true, true => some (.V (.C (.L (some (h.next, 0)) 0 (.e 0))), ⟨h.t, Nat.add h.next (nat_lit 1)⟩)
              | _, _ => some (.V (.C (.L (some (b, Nat.add o (Nat.mul (Nat.succ l) k))) (Nat.sub r (Nat.succ l)) (.e (Nat.add d (Nat.succ l))))), h)
        | _, _ => none
      | some m => match bnd 0 (some m), a, hi with
        | some m, some (b, o), some _ => match (match c with | .k c => Nat.ble m c | .e _ => Nat.ble m n), Nat.ble r m with
          | true, true => match Nat.beq m l with
            | true => some (.V (.C (.L (some (b, o)) (Nat.sub r l) (.k (Nat.sub m l)))), h)
            | false => some (.V (.C (.L (some (b, Nat.add o (Nat.mul l k))) (Nat.sub r l) (.k (Nat.sub m l)))), h)
          | _, _ => none
        | some m, none, some _ => match c with
          | .k c => match Nat.ble m c, Nat.ble r m with
            | true, true => some (.V (.C (.L none (Nat.sub r l) (.k (Nat.sub m l)))), h)
            | _, _ => none
          | .e _ => none
        | _, _, _ => none
  | _, _ => none
/-- The cells of so many elements of a slice or string. -/
noncomputable def rowOf (h : Hp X) (k : Nat) (x : Ce) (n : Nat) : Option (List Ce) :=
  match x with
  | .L none _ _ => match n with
    | 0 => some []
    | _ => none
  | .L (some (b, o)) _ _ => match n with
    | 0 => some []
    | _ => match h.t.get b with
      | some (.cells t m _) => match Nat.ble (Nat.add o (Nat.mul n k)) m with
        | true => t.getL o (Nat.mul n k)
        | false => none
      | _ => none
  | .S l => match Nat.beq k (nat_lit 1), Nat.ble n l.length with
    | true, true => some ((l.take n).map fun b => .I .u8 (.ofNat b.toNat))
    | _, _ => none
  | _ => none
def lenC : Ce → Option Nat
  | .L _ n _ => some n
  | .S l => some l.length
  | _ => none
/-- append of m elements' cells to a slice of elements of k cells. -/
noncomputable def appendC (h : Hp X) (k : Nat) (a : Option (Nat × Nat)) (n : Nat) (c : Cap) (new : List Ce) (m : Nat) : Option (AV × Hp X) :=
  match Nat.ble (Nat.mul (Nat.add n m) k) (nat_lit 16777216) with
  | false => none
  | true => match a, c with
    | none, .k c => match Nat.ble (Nat.add n m) c with
      | true => match m with
        | 0 => some (.V (.C (.L none n (.k c))), h)
        | _ => none
      | false => match n with
        | 0 => some (.V (.C (.L (some (h.next, 0)) m (.e 0))), h.add (.cells (T.ofL new) (Nat.mul m k) (some k)))
        | _ => none
    | some (b, o), .k c => match Nat.ble (Nat.add n m) c with
      | true => match storeAt h b (Nat.add o (Nat.mul n k)) new with
        | none => none
        | some h' => some (.V (.C (.L (some (b, o)) (Nat.add n m) (.k c))), h')
      | false => match rowOf h k (.L (some (b, o)) n (.k c)) n with
        | none => none
        | some l => some (.V (.C (.L (some (h.next, 0)) (Nat.add n m) (.e 0))), h.add (.cells (T.ofL (l ++ new)) (Nat.mul (Nat.add n m) k) (some k)))
    | some (b, o), .e d => match h.t.get b with
      | some (.cells t q (some k')) => match Nat.beq k' k, Nat.beq o (Nat.mul d k) with
        | true, true => match Nat.ble (Nat.add o (Nat.mul (Nat.add n m) k)) q with
          | true => match storeAt h b (Nat.add o (Nat.mul n k)) new with
            | none => none
            | some h' => some (.V (.C (.L (some (b, o)) (Nat.add n m) (.e d))), h')
          | false => match d, Nat.beq q (Nat.mul n k) with
            | 0, true => some (.V (.C (.L (some (h.next, 0)) (Nat.add n m) (.e 0))),
                ⟨(h.t.drop b).put h.next (.cells (T.putL new t q) (Nat.mul (Nat.add n m) k) (some k)), Nat.add h.next (nat_lit 1)⟩)
            | _, _ => none
        | _, _ => none
      | _ => none
    | _, _ => none

/-! ### Maps -/
def keyEq (d : TypeDesc) (x y : Ce) : Option Bool :=
  match d, x, y with
  | .int _, .I j a, .I k b => match decide (j = k) with
    | true => some (decide (a = b))
    | false => none
  | .string, .S a, .S b => some (a == b)
  | .bool, .B a, .B b => some (a == b)
  | _, _, _ => none
/-- Which entry has a key. -/
def mfind (d : TypeDesc) (k : Ce) : List (Ce × A0 × Nat) → Option (Option A0)
  | [] => match keyEq d k k with
    | some _ => some none
    | none => none
  | (j, v, _) :: l => match keyEq d k j with
    | some true => some (some v)
    | some false => mfind d k l
    | none => none
def mput (d : TypeDesc) (k : Ce) (v : A0) (clock : Nat) : List (Ce × A0 × Nat) → Option (List (Ce × A0 × Nat) × Bool)
  | [] => match keyEq d k k with
    | some _ => some ([(k, v, clock)], true)
    | none => none
  | (j, u, n) :: l => match keyEq d k j with
    | some true => some ((k, v, n) :: l, false)
    | some false => match mput d k v clock l with
      | some (r, b) => some ((j, u, n) :: r, b)
      | none => none
    | none => none
def mdel (d : TypeDesc) (k : Ce) : List (Ce × A0 × Nat) → Option (List (Ce × A0 × Nat))
  | [] => match keyEq d k k with
    | some _ => some []
    | none => none
  | (j, u, n) :: l => match keyEq d k j with
    | some true => some l
    | some false => match mdel d k l with
      | some r => some ((j, u, n) :: r)
      | none => none
    | none => none

/-! ### Structs -/
def fieldAt : List Field → Nat → Option Field
  | [], _ => none
  | f :: _, 0 => some f
  | _ :: l, n + 1 => fieldAt l n
def setL (l : List Ce) (o : Nat) (cs : List Ce) : List Ce := match o, l, cs with
  | _, l, [] => l
  | _, [], _ => []
  | 0, _ :: l, c :: cs => c :: setL l 0 cs
  | o + 1, x :: l, cs => x :: setL l o cs
noncomputable def fillC (place : Nat → Option (Nat × Nat)) (l : List Ce) : List (Nat × A0) → Option (List Ce)
  | [] => some l
  | (i, v) :: r => match place i with
    | none => none
    | some (o, n) => match Nat.beq v.cells.length n, Nat.ble (Nat.add o n) l.length with
      | true, true => fillC place (setL l o v.cells) r
      | _, _ => none
noncomputable def placesO (A : Tab) : List Field → Option (List (Nat × Nat))
  | [] => some []
  | f :: l => match A.size f.type, placesO A l with
    | some n, some r => some ((f.offset, n) :: r)
    | _, _ => none
def nthP : List (Nat × Nat) → Nat → Option (Nat × Nat)
  | [], _ => none
  | x :: _, 0 => some x
  | _ :: l, n + 1 => nthP l n
def rep (n : Nat) (l : List Ce) : List Ce := match n with
  | 0 => []
  | n + 1 => l ++ rep n l
noncomputable def Tab.zero (A : Tab) (t : TypeId) : Option A0 := match A.ty.get t with
  | none => none
  | some i => match i.zero with
    | none => none
    | some v => a0Of v
def isIntD : TypeDesc → Bool
  | .int _ => true
  | _ => false
/-- How many cells an element has, and its zero's. -/
noncomputable def Tab.elt (A : Tab) (e : TypeId) : Option (Nat × List Ce) := match A.ty.get e with
  | none => none
  | some i => match i.zero with
    | none => none
    | some v => match a0Of v with
      | none => none
      | some z => match Nat.ble (nat_lit 1) i.size, Nat.ble i.bytes (nat_lit 65536), Nat.beq z.cells.length i.size with
        | true, true, true => some (i.size, z.cells)
        | _, _, _ => none
/-- A trie of one value. -/
noncomputable def T.all {α : Type} (n : Nat) (a : α) : T α := Nat.rec (motive := fun _ => T α) .e (fun _ t => .nd (some a) t t) n
/-- So many zeros of a type. -/
noncomputable def sameC (x : Ce) (l : List Ce) : Bool := List.rec (motive := fun _ => Bool) true (fun y _ ih => match decide (y = x) with
  | true => ih
  | false => false) l
noncomputable def zeros (n : Nat) (l : List Ce) : T Ce := match l with
  | x :: r => match sameC x r with
    | true => T.all (nat_lit 20) x
    | false => T.ofL (rep n (x :: r))
  | [] => T.ofL (rep n [])
noncomputable def partO (A : Tab) (ty : TypeId) (l : List Ce) (o : Nat) : Option AV :=
  match A.und ty with
  | none => none
  | some d => match isAggD d with
    | true => match A.size ty with
      | none => none
      | some n => some (.V (.G ((l.drop o).take n)))
    | false => match l.drop o with
      | [] => none
      | x :: _ => some (.V (.C x))

def bytesOf : List Ce → Option (List UInt8)
  | [] => some []
  | .I .u8 n :: l => match bytesOf l with
    | none => none
    | some r => some (UInt8.ofNat n.toNat :: r)
  | _ => none

/-! ### Operations -/
def a0s : List AV → Option (List A0)
  | [] => some []
  | .V x :: l => match a0s l with
    | none => none
    | some r => some (x :: r)
  | _ => none
def ptrs : List AV → Option (List (Nat × Nat))
  | [] => some []
  | .V (.C (.P (some a))) :: l => match ptrs l with
    | none => none
    | some r => some (a :: r)
  | _ => none
def ofPtrs (l : List (Nat × Nat)) : List AV := l.map fun a => .V (.C (.P (some a)))
noncomputable def optO (G : Nat) (tm : T AV) : Option Operand → Option (Option AV)
  | none => some none
  | some x => match opd G tm x with
    | none => none
    | some a => some (some a)
noncomputable def pairs (G : Nat) (tm : T AV) : List (Nat × Operand) → Option (List (Nat × A0))
  | [] => some []
  | (i, x) :: l => match opd G tm x with
    | some (.V a) => match pairs G tm l with
      | none => none
      | some r => some ((i, a) :: r)
    | _ => none
def minI (k : IntKind) (a : Int) : List AV → Option Int
  | [] => some a
  | .V (.C (.I _ b)) :: l => minI k (match decide (b < a) with | true => b | false => a) l
  | _ => none
def maxI (k : IntKind) (a : Int) : List AV → Option Int
  | [] => some a
  | .V (.C (.I _ b)) :: l => maxI k (match decide (a < b) with | true => b | false => a) l
  | _ => none
noncomputable def builtinO (A : Tab) (h : Hp X) (b : Builtin) (ts : List TypeId) (args : List AV) : Option (AV × Hp X) :=
  match b, args, ts with
  | .len, [.V (.C x)], t :: _ => match x, A.und t with
    | .L _ n _, some (.slice _) => some (.V (.C (.I .i64 (.ofNat n))), h)
    | .S l, some .string => some (.V (.C (.I .i64 (.ofNat l.length))), h)
    | .M none, some (.map _ _) => some (.V (.C (.I .i64 (.ofNat 0))), h)
    | .M (some r), some (.map _ _) => match h.t.get r with
      | some (.map es _) => some (.V (.C (.I .i64 (.ofNat es.length))), h)
      | _ => none
    | _, _ => none
  | .len, [.V (.G _)], t :: _ => match A.und t with
    | some (.array n _) => some (.V (.C (.I .i64 (.ofNat n))), h)
    | _ => none
  | .cap, [.V (.C (.L _ _ (.k c)))], t :: _ => match A.und t with
    | some (.slice _) => some (.V (.C (.I .i64 (.ofNat c))), h)
    | _ => none
  | .append, [.V (.C (.L a n c)), .V (.C x)], [t, u] => match A.und t, A.und u with
    | some (.slice e), some d => match A.elt e with
      | none => none
      | some (k, zl) => match isIntD d with
        | true => match x with
          | .I .i64 (.ofNat m) => match Nat.ble (Nat.mul m k) (nat_lit 16777216), Nat.ble (nat_lit 1) m with
            | true, true => appendC h k a n c (rep m zl) m
            | _, _ => none
          | _ => none
        | false => match lenC x with
          | none => none
          | some m => match rowOf h k x m with
            | none => none
            | some new => appendC h k a n c new m
    | _, _ => none
  | .copy, [.V (.C (.L a n _)), .V (.C x)], t :: _ => match A.und t with
    | some (.slice e) => match A.size e, lenC x with
      | some k, some m => match rowOf h k x (Nat.min m n) with
        | none => none
        | some new => match a with
          | none => some (.V (.C (.I .i64 (.ofNat (Nat.min m n)))), h)
          | some (b, o) => match storeAt h b o new with
            | none => none
            | some h' => some (.V (.C (.I .i64 (.ofNat (Nat.min m n)))), h')
      | _, _ => none
    | _ => none
  | .min, .V (.C (.I k a)) :: l, _ => match minI k a l with
    | some b => some (.V (.C (.I k b)), h)
    | none => none
  | .max, .V (.C (.I k a)) :: l, _ => match maxI k a l with
    | some b => some (.V (.C (.I k b)), h)
    | none => none
  | .delete, [.V (.C (.M (some r))), .V (.C k)], t :: _ => match A.und t with
    | some (.map kt _) => match A.und kt, h.t.get r with
      | some d, some (.map es c) => match mdel d k es with
        | some es' => some (.U [], ⟨h.t.put r (.map es' c), h.next⟩)
        | none => none
      | _, _ => none
    | _ => none
  | .clear, [.V (.C (.M (some r)))], t :: _ => match A.und t, h.t.get r with
    | some (.map _ _), some (.map _ c) => some (.U [], ⟨h.t.put r (.map [] c), h.next⟩)
    | _, _ => none
  | .clear, [.V (.C (.L (some (b, o)) n _))], t :: _ => match A.und t with
    | some (.slice e) => match A.zero e with
      | some z => match storeAt h b o (rep n z.cells) with
        | some h' => some (.U [], h')
        | none => none
      | none => none
    | _ => none
  | _, _, _ => none

/-- What body-less functions do; what binary operations tell of values that are not known ahead. -/
structure Ix (X : Type) where
  call : FuncId → List AV → Hp X → Option (AV × Hp X)
  bin : BinOp → TypeId → AV → AV → Hp X → Option AV
  bi : Builtin → List TypeId → List AV → Hp X → Option AV
noncomputable def builtinE (A : Tab) (I : Ix X) (h : Hp X) (b : Builtin) (ts : List TypeId) (args : List AV) : Option (AV × Hp X) := match builtinO A h b ts args with
  | some r => some r
  | none => match I.bi b ts args h with
    | some z => some (z, h)
    | none => none
noncomputable def callO (A : Tab) (I : Ix X) (h : Hp X) (f : FuncId) (args : List AV) : Option (Res X) :=
  match A.fn.get f with
  | none => none
  | some F => match F.body with
    | some _ => some (.call f args)
    | none => match I.call f args h with
      | none => none
      | some (v, h') => some (.val v h')
noncomputable def ov (h : Hp X) : Option AV → Option (Res X)
  | none => none
  | some a => some (.val a h)
/-- Are two structs of plain fields, one cell each, the same? -/
noncomputable def eqS (A : Tab) : Nat → List Field → List Ce → List Ce → Option Bool
  | _, [], [], [] => some true
  | i, f :: fs, x :: l, y :: m => match A.und f.type, Nat.beq f.offset i, f.name == "_" with
    | some d, true, false => match keyEq d x y, eqS A (Nat.succ i) fs l m with
      | some r, some q => some (r && q)
      | _, _ => none
    | _, _, _ => none
  | _, _, _, _ => none
def eqA (d : TypeDesc) : List Ce → List Ce → Option Bool
  | [], [] => some true
  | x :: l, y :: m => match keyEq d x y, eqA d l m with
    | some r, some q => some (r && q)
    | _, _ => none
  | _, _ => none
noncomputable def eqGr (A : Tab) (t : TypeId) (x y : List Ce) : Option Bool :=
  match A.P.eqGuardType A.P.depth t, A.und t with
  | false, some (.struct fs) => match A.P.stoodInHeld t with
    | false => eqS A 0 fs.toList x y
    | true => none
  | false, some (.array m e) => match A.und e, A.size e, Nat.beq m x.length with
    | some d, some 1, true => eqA d x y
    | _, _, _ => none
  | _, _ => none
noncomputable def binO (A : Tab) (op : BinOp) (t : TypeId) (x y : AV) : Option AV :=
  match x, y with
  | .V (.C (.I k a)), .V (.C (.I j b)) => match op with
    | .shl => match shOp .shl k a b with | none => none | some c => some (.V (.C c))
    | .shr => match shOp .shr k a b with | none => none | some c => some (.V (.C c))
    | op => match decide (k = j) with
      | true => match intOp op k a b with | none => none | some c => some (.V (.C c))
      | false => none
  | .V (.C (.S a)), .V (.C (.S b)) => match strOp op a b with | none => none | some c => some (.V (.C c))
  | .V (.C x), .V (.C y) => match A.und t with
    | none => none
    | some d => match eqCe d x y with
      | none => none
      | some r => match op with
        | .eql => some (.V (.C (.B r)))
        | .neq => some (.V (.C (.B (!r))))
        | _ => none
  | .V (.G x), .V (.G y) => match eqGr A t x y, op with
    | some r, .eql => some (.V (.C (.B r)))
    | some r, .neq => some (.V (.C (.B (!r))))
    | _, _ => none
  | _, _ => none
noncomputable def binE (A : Tab) (I : Ix X) (op : BinOp) (t : TypeId) (x y : AV) (h : Hp X) : Option AV := match binO A op t x y with
  | some z => some z
  | none => I.bin op t x y h
noncomputable def unO (op : UnOp) (x : AV) : Option AV :=
  match op, x with
  | .not, .V (.C (.B x)) => some (.V (.C (.B (!x))))
  | .neg, .V (.C (.I k n)) => match intOp .sub k 0 n with | none => none | some c => some (.V (.C c))
  | .xor, .V (.C (.I k n)) => match intOp .xor k (if k.signed then -1 else k.max) n with | none => none | some c => some (.V (.C c))
  | _, _ => none
noncomputable def entriesO (h : Hp X) : Option Nat → Option (List (Ce × A0 × Nat))
  | none => some []
  | some r => match h.t.get r with
    | some (.map es _) => some es
    | _ => none
set_option linter.unusedVariables false in
/-- One operation. (Each way is closed, so that the kernel, where it takes one, copies no other.) -/
noncomputable def execK : Op → Tab → Nat → Ix X → T AV → Hp X → Option (Res X)
  | .move x => fun A G I tm h => ov h (opd G tm x)
  | .assign x => fun A G I tm h => ov h (opd G tm x)
  | .pick c a b => fun A G I tm h => match opd G tm c with
    | some (.V (.C (.B true))) => ov h (opd G tm a)
    | some (.V (.C (.B false))) => ov h (opd G tm b)
    | _ => none
  | .alloc e => fun A G I tm h => match A.zero e with
    | none => none
    | some z => some (.val (.V (.C (.P (some (h.next, 0))))) (h.add (.cells (T.ofL z.cells) z.cells.length none)))
  | .box _ x => fun A G I tm h => match opd G tm x with
    | some (.V z) => some (.val (.V (.C (.P (some (h.next, 0))))) (h.add (.cells (T.ofL z.cells) z.cells.length none)))
    | _ => none
  | .build t ps => fun A G I tm h => match A.zero t, pairs G tm ps.toList, A.und t with
    | some (.G z), some qs, some (.struct fs) => match placesO A fs.toList with
      | none => none
      | some ps => match fillC (nthP ps) z qs with
        | none => none
        | some l => some (.val (.V (.G l)) h)
    | some (.G z), some qs, some (.array _ e) => match A.size e with
      | none => none
      | some k => match fillC (fun i => some (Nat.mul i k, k)) z qs with
        | none => none
        | some l => some (.val (.V (.G l)) h)
    | _, _, _ => none
  | .buildSlice t n ps => fun A G I tm h => match A.und t with
    | some (.slice e) => match A.elt e, pairs G tm ps.toList with
      | some (k, zl), some qs => match fillC (fun i => some (Nat.mul i k, k)) (rep n zl) qs, Nat.ble (Nat.mul n k) (nat_lit 16777216) with
        | some l, true => some (.val (.V (.C (.L (some (h.next, 0)) n (.k n)))) (h.add (.cells (T.ofL l) (Nat.mul n k) none)))
        | _, _ => none
      | _, _ => none
    | _ => none
  | .load t x => fun A G I tm h => match opd G tm x with
    | some (.V (.C (.P (some (b, o))))) => ov h (loadAt A h t b o)
    | _ => none
  | .store t a x => fun A G I tm h => match opd G tm a, opd G tm x, A.size t with
    | some (.V (.C (.P (some (b, o))))), some (.V z), some n => match Nat.beq z.cells.length n, storeAt h b o z.cells with
      | true, some h' => some (.skip h')
      | _, _ => none
    | _, _, _ => none
  | .nilCheck x => fun A G I tm h => match opd G tm x with
    | some (.V (.C (.P (some a)))) => some (.val (.V (.C (.P (some a)))) h)
    | some (.V (.C (.F f fs cs))) => some (.val (.V (.C (.F f fs cs))) h)
    | some (.V (.C (.Y l))) => some (.val (.V (.C (.Y l))) h)
    | _ => none
  | .binOp op t x y _ => fun A G I tm h => match opd G tm x, opd G tm y with
    | some a, some b => ov h (binE A I op t a b h)
    | _, _ => none
  | .unOp op _ x => fun A G I tm h => match opd G tm x with
    | some a => ov h (unO op a)
    | none => none
  | .convert s d x => fun A G I tm h => match A.und s, A.und d, opd G tm x with
    | some _, some (.int k), some (.V (.C (.I _ n))) => some (.val (.V (.C (.I k (wrapF k n)))) h)
    | some _, some .string, some (.V (.C (.S l))) => some (.val (.V (.C (.S l))) h)
    | some _, some (.slice e), some (.V (.C (.S l))) => match A.und e with
      | some (.int .u8) => some (.val (.V (.C (.L (some (h.next, 0)) l.length (.e 0)))) (h.add (.cells (T.ofL (l.map fun b => .I .u8 (.ofNat b.toNat))) l.length (some 1))))
      | _ => none
    | some (.slice e), some .string, some (.V (.C (.L a n c))) => match A.und e, rowOf h 1 (.L a n c) n with
      | some (.int .u8), some l => match bytesOf l with
        | some r => some (.val (.V (.C (.S r))) h)
        | none => none
      | _, _ => none
    | some (.slice _), some (.slice e), some (.V (.C (.L (some (b, o)) n c))) => match Nat.beq s d, A.und e, h.t.get b with
      | true, some (.int .u8), some (.cells _ _ _) => some (.val (.V (.C (.L (some (b, o)) n c))) h)
      | _, _, _ => none
    | _, _, _ => none
  | .sliceToArrayPointer t x => fun A G I tm h => match A.und t, opd G tm x with
    | some (.array n _), some (.V (.C (.L a len _))) => match Nat.ble n len with
      | true => some (.val (.V (.C (.P a))) h)
      | false => none
    | _, _ => none
  | .makeInterface t x => fun A G I tm h => match A.und t, opd G tm x with
    | some (.interface _), _ => none
    | some _, some (.V z) => some (.val (.N t z) h)
    | _, _ => none
  | .typeAssert x _ t ok => fun A G I tm h => match A.und t, opd G tm x with
    | some (.interface _), _ => none
    | some _, some (.N u z) => match Nat.beq u t with
      | true => match ok with
        | true => some (.val (.U [z, .C (.B true)]) h)
        | false => some (.val (.V z) h)
      | false => match ok, A.zero t with
        | true, some y => some (.val (.U [y, .C (.B false)]) h)
        | _, _ => none
    | _, _ => none
  | .makeFunc (.func f) fs cs => fun A G I tm h => match opds G tm fs.toList, opds G tm cs.toList with
    | some k, some l => match ptrs k, ptrs l with
      | some q, some r => some (.val (.V (.C (.F f q r))) h)
      | _, _ => none
    | _, _ => none
  | .makeMap _ none => fun A G I tm h => some (.val (.V (.C (.M (some h.next)))) (h.add (.map [] 0)))
  | .makeSlice t n c => fun A G I tm h => match A.und t, opd G tm n, opd G tm c with
    | some (.slice e), some (.V (.C (.I _ (.ofNat n)))), some (.V (.C (.I _ (.ofNat c)))) => match A.elt e, Nat.ble n c, Nat.ble c (nat_lit 65536) with
      | some (k, zl), true, true => some (.val (.V (.C (.L (some (h.next, 0)) n (.k c)))) (h.add (.cells (zeros c zl) (Nat.mul c k) none)))
      | _, _, _ => none
    | _, _, _ => none
  | .slice t x lo hi mx => fun A G I tm h => match A.und t, opd G tm x, optO G tm lo, optO G tm hi, optO G tm mx with
    | some .string, some (.V (.C (.S l))), some lo, some hi, some none => match bnd 0 lo, bnd l.length hi with
      | some a, some b => match Nat.ble a b, Nat.ble b l.length with
        | true, true => some (.val (.V (.C (.S ((l.take b).drop a)))) h)
        | _, _ => none
      | _, _ => none
    | some (.slice e), some (.V (.C (.L a n c))), some lo, some hi, some mx => match A.size e with
      | none => none
      | some k => match mkSlice h k a n c lo hi mx with
        | none => none
        | some (v, h') => some (.val v h')
    | some (.array n e), some (.V (.C (.P (some a)))), some lo, some hi, some mx => match A.size e with
      | none => none
      | some k => match mkSlice h k (some a) n (.k n) lo hi mx with
        | none => none
        | some (v, h') => some (.val v h')
    | _, _, _, _, _ => none
  | .fieldAddr s x f => fun A G I tm h => match A.und s, opd G tm x with
    | some (.struct fs), some (.V (.C (.P (some (b, o))))) => match fieldAt fs.toList f with
      | none => none
      | some g => match A.size g.type with
        | some (_ + 1) => some (.val (.V (.C (.P (some (b, Nat.add o g.offset))))) h)
        | _ => none
    | _, _ => none
  | .field s x f => fun A G I tm h => match A.und s, opd G tm x with
    | some (.struct fs), some (.V (.G l)) => match fieldAt fs.toList f with
      | none => none
      | some g => ov h (partO A g.type l g.offset)
    | _, _ => none
  | .indexAddr t x i => fun A G I tm h => match A.und t, opd G tm x, opd G tm i with
    | some (.slice e), some (.V (.C (.L (some (b, o)) n _))), some (.V (.C (.I _ (.ofNat j)))) => match Nat.ble (Nat.succ j) n, A.size e with
      | true, some k => some (.val (.V (.C (.P (some (b, Nat.add o (Nat.mul j k)))))) h)
      | _, _ => none
    | some (.array n e), some (.V (.C (.P (some (b, o))))), some (.V (.C (.I _ (.ofNat j)))) => match Nat.ble (Nat.succ j) n, A.size e with
      | true, some k => some (.val (.V (.C (.P (some (b, Nat.add o (Nat.mul j k)))))) h)
      | _, _ => none
    | _, _, _ => none
  | .index t x i => fun A G I tm h => match A.und t, opd G tm x, opd G tm i with
    | some .string, some (.V (.C (.S l))), some (.V (.C (.I _ (.ofNat j)))) => match l.drop j with
      | b :: _ => some (.val (.V (.C (.I .u8 (.ofNat b.toNat)))) h)
      | [] => none
    | some (.array n e), some (.V (.G l)), some (.V (.C (.I _ (.ofNat j)))) => match Nat.ble (Nat.succ j) n, A.size e with
      | true, some k => ov h (partO A e l (Nat.mul j k))
      | _, _ => none
    | _, _, _ => none
  | .lookup t m k ok => fun A G I tm h => match A.und t, opd G tm m, opd G tm k with
    | some (.map kt e), some (.V (.C (.M r))), some (.V (.C k)) => match A.und kt with
      | none => none
      | some d => match entriesO h r with
        | none => none
        | some es => match mfind d k es with
          | none => none
          | some (some u) => match ok with
            | true => some (.val (.U [u, .C (.B true)]) h)
            | false => some (.val (.V u) h)
          | some none => match A.zero e, ok with
            | some z, true => some (.val (.U [z, .C (.B false)]) h)
            | some z, false => some (.val (.V z) h)
            | none, _ => none
    | _, _, _ => none
  | .mapUpdate t m k x => fun A G I tm h => match A.und t, opd G tm m, opd G tm k, opd G tm x with
    | some (.map kt _), some (.V (.C (.M (some r)))), some (.V (.C k)), some (.V u) => match A.und kt, h.t.get r with
      | some d, some (.map es c) => match mput d k u c es with
        | some (es', true) => some (.skip ⟨h.t.put r (.map es' (Nat.succ c)), h.next⟩)
        | some (es', false) => some (.skip ⟨h.t.put r (.map es' c), h.next⟩)
        | none => none
      | _, _ => none
    | _, _, _, _ => none
  | .range t x => fun A G I tm h => match A.und t, opd G tm x with
    | some (.map _ _), some (.V (.C (.M none))) => some (.val (.V (.C (.P (some (h.next, 0))))) (h.add (.iter none 0 [] 0)))
    | some (.map _ _), some (.V (.C (.M (some r)))) => match h.t.get r with
      | some (.map _ c) => some (.val (.V (.C (.P (some (h.next, 0))))) (h.add (.iter (some r) c [] c)))
      | _ => none
    | _, _ => none
  | .next x false => fun A G I tm h => match opd G tm x with
    | some (.V (.C (.P (some (r, 0))))) => match h.t.get r with
      | some (.iter none _ _ _) => some (.val (.U [.C (.B false)]) h)
      | some (.iter (some m) since seen last) => match h.t.get m with
        | some (.map es c) => match seen, es.any fun e => Nat.ble (Nat.succ e.2.2) last with
          | _ :: _, false => match es with
            | [] => some (.val (.U [.C (.B false)]) h)
            | _ => none
          | _, _ => match es.filter fun e => !(seen.any (Nat.beq e.2.2)) with
            | [] => some (.val (.U [.C (.B false)]) h)
            | [(k, v, n)] => match Nat.ble (Nat.succ n) since with
              | true => some (.val (.U [.C (.B true), .C k, v]) ⟨h.t.put r (.iter (some m) since (n :: seen) c), h.next⟩)
              | false => none
            | _ => none
        | _ => none
      | _ => none
    | _ => none
  | .entry x => fun A G I tm h => match opd G tm x with
    | some (.V (.C (.P (some (r, 0))))) => match h.t.get r with
      | some (.iter (some m) _ (s :: _) last) => match h.t.get m with
        | some (.map es c) => match Nat.beq c last, es.find? (fun e => Nat.beq e.2.2 s) with
          | true, some (k, v, _) => some (.val (.U [.C k, v]) h)
          | _, _ => none
        | _ => none
      | _ => none
    | _ => none
  | .extract x i => fun A G I tm h => match opd G tm x with
    | some (.U l) => match l.drop i with
      | [] => none
      | a :: _ => some (.val (.V a) h)
    | _ => none
  | .call c => fun A G I tm h => match c.callee with
    | .builtin b => match opds G tm c.args.toList with
      | none => none
      | some args => match builtinE A I h b c.argTypes.toList args with
        | none => none
        | some (a, h') => some (.val a h')
    | .value f => match opd G tm f, opds G tm c.args.toList with
      | some (.V (.C (.F f fs cs))), some args => callO A I h f (ofPtrs fs ++ (args ++ ofPtrs cs))
      | some (.V (.C (.Y l))), some args => some (.yld l args)
      | _, _ => none
    | _ => none
  | .defer c => fun A G I tm h => match c.callee with
    | .value f => match opd G tm f, opds G tm c.args.toList with
      | some (.V (.C (.F f fs cs))), some args => some (.dfr f (ofPtrs fs ++ args) (ofPtrs cs))
      | _, _ => none
    | _ => none
  | _ => fun A G I tm h => none
/-- The same, in one piece: for proofs. -/
noncomputable def execS (A : Tab) (G : Nat) (I : Ix X) (tm : T AV) (h : Hp X) (o : Oper) : Option (Res X) :=
  match o.op with
  | .move x => ov h (opd G tm x)
  | .assign x => ov h (opd G tm x)
  | .pick c a b => match opd G tm c with
    | some (.V (.C (.B true))) => ov h (opd G tm a)
    | some (.V (.C (.B false))) => ov h (opd G tm b)
    | _ => none
  | .alloc e => match A.zero e with
    | none => none
    | some z => some (.val (.V (.C (.P (some (h.next, 0))))) (h.add (.cells (T.ofL z.cells) z.cells.length none)))
  | .box _ x => match opd G tm x with
    | some (.V z) => some (.val (.V (.C (.P (some (h.next, 0))))) (h.add (.cells (T.ofL z.cells) z.cells.length none)))
    | _ => none
  | .build t ps => match A.zero t, pairs G tm ps.toList, A.und t with
    | some (.G z), some qs, some (.struct fs) => match placesO A fs.toList with
      | none => none
      | some ps => match fillC (nthP ps) z qs with
        | none => none
        | some l => some (.val (.V (.G l)) h)
    | some (.G z), some qs, some (.array _ e) => match A.size e with
      | none => none
      | some k => match fillC (fun i => some (Nat.mul i k, k)) z qs with
        | none => none
        | some l => some (.val (.V (.G l)) h)
    | _, _, _ => none
  | .buildSlice t n ps => match A.und t with
    | some (.slice e) => match A.elt e, pairs G tm ps.toList with
      | some (k, zl), some qs => match fillC (fun i => some (Nat.mul i k, k)) (rep n zl) qs, Nat.ble (Nat.mul n k) (nat_lit 16777216) with
        | some l, true => some (.val (.V (.C (.L (some (h.next, 0)) n (.k n)))) (h.add (.cells (T.ofL l) (Nat.mul n k) none)))
        | _, _ => none
      | _, _ => none
    | _ => none
  | .load t x => match opd G tm x with
    | some (.V (.C (.P (some (b, o))))) => ov h (loadAt A h t b o)
    | _ => none
  | .store t a x => match opd G tm a, opd G tm x, A.size t with
    | some (.V (.C (.P (some (b, o))))), some (.V z), some n => match Nat.beq z.cells.length n, storeAt h b o z.cells with
      | true, some h' => some (.skip h')
      | _, _ => none
    | _, _, _ => none
  | .nilCheck x => match opd G tm x with
    | some (.V (.C (.P (some a)))) => some (.val (.V (.C (.P (some a)))) h)
    | some (.V (.C (.F f fs cs))) => some (.val (.V (.C (.F f fs cs))) h)
    | some (.V (.C (.Y l))) => some (.val (.V (.C (.Y l))) h)
    | _ => none
  | .binOp op t x y _ => match opd G tm x, opd G tm y with
    | some a, some b => ov h (binE A I op t a b h)
    | _, _ => none
  | .unOp op _ x => match opd G tm x with
    | some a => ov h (unO op a)
    | none => none
  | .convert s d x => match A.und s, A.und d, opd G tm x with
    | some _, some (.int k), some (.V (.C (.I _ n))) => some (.val (.V (.C (.I k (wrapF k n)))) h)
    | some _, some .string, some (.V (.C (.S l))) => some (.val (.V (.C (.S l))) h)
    | some _, some (.slice e), some (.V (.C (.S l))) => match A.und e with
      | some (.int .u8) => some (.val (.V (.C (.L (some (h.next, 0)) l.length (.e 0)))) (h.add (.cells (T.ofL (l.map fun b => .I .u8 (.ofNat b.toNat))) l.length (some 1))))
      | _ => none
    | some (.slice e), some .string, some (.V (.C (.L a n c))) => match A.und e, rowOf h 1 (.L a n c) n with
      | some (.int .u8), some l => match bytesOf l with
        | some r => some (.val (.V (.C (.S r))) h)
        | none => none
      | _, _ => none
    | some (.slice _), some (.slice e), some (.V (.C (.L (some (b, o)) n c))) => match Nat.beq s d, A.und e, h.t.get b with
      | true, some (.int .u8), some (.cells _ _ _) => some (.val (.V (.C (.L (some (b, o)) n c))) h)
      | _, _, _ => none
    | _, _, _ => none
  | .sliceToArrayPointer t x => match A.und t, opd G tm x with
    | some (.array n _), some (.V (.C (.L a len _))) => match Nat.ble n len with
      | true => some (.val (.V (.C (.P a))) h)
      | false => none
    | _, _ => none
  | .makeInterface t x => match A.und t, opd G tm x with
    | some (.interface _), _ => none
    | some _, some (.V z) => some (.val (.N t z) h)
    | _, _ => none
  | .typeAssert x _ t ok => match A.und t, opd G tm x with
    | some (.interface _), _ => none
    | some _, some (.N u z) => match Nat.beq u t with
      | true => match ok with
        | true => some (.val (.U [z, .C (.B true)]) h)
        | false => some (.val (.V z) h)
      | false => match ok, A.zero t with
        | true, some y => some (.val (.U [y, .C (.B false)]) h)
        | _, _ => none
    | _, _ => none
  | .makeFunc (.func f) fs cs => match opds G tm fs.toList, opds G tm cs.toList with
    | some k, some l => match ptrs k, ptrs l with
      | some q, some r => some (.val (.V (.C (.F f q r))) h)
      | _, _ => none
    | _, _ => none
  | .makeMap _ none => some (.val (.V (.C (.M (some h.next)))) (h.add (.map [] 0)))
  | .makeSlice t n c => match A.und t, opd G tm n, opd G tm c with
    | some (.slice e), some (.V (.C (.I _ (.ofNat n)))), some (.V (.C (.I _ (.ofNat c)))) => match A.elt e, Nat.ble n c, Nat.ble c (nat_lit 65536) with
      | some (k, zl), true, true => some (.val (.V (.C (.L (some (h.next, 0)) n (.k c)))) (h.add (.cells (zeros c zl) (Nat.mul c k) none)))
      | _, _, _ => none
    | _, _, _ => none
  | .slice t x lo hi mx => match A.und t, opd G tm x, optO G tm lo, optO G tm hi, optO G tm mx with
    | some .string, some (.V (.C (.S l))), some lo, some hi, some none => match bnd 0 lo, bnd l.length hi with
      | some a, some b => match Nat.ble a b, Nat.ble b l.length with
        | true, true => some (.val (.V (.C (.S ((l.take b).drop a)))) h)
        | _, _ => none
      | _, _ => none
    | some (.slice e), some (.V (.C (.L a n c))), some lo, some hi, some mx => match A.size e with
      | none => none
      | some k => match mkSlice h k a n c lo hi mx with
        | none => none
        | some (v, h') => some (.val v h')
    | some (.array n e), some (.V (.C (.P (some a)))), some lo, some hi, some mx => match A.size e with
      | none => none
      | some k => match mkSlice h k (some a) n (.k n) lo hi mx with
        | none => none
        | some (v, h') => some (.val v h')
    | _, _, _, _, _ => none
  | .fieldAddr s x f => match A.und s, opd G tm x with
    | some (.struct fs), some (.V (.C (.P (some (b, o))))) => match fieldAt fs.toList f with
      | none => none
      | some g => match A.size g.type with
        | some (_ + 1) => some (.val (.V (.C (.P (some (b, Nat.add o g.offset))))) h)
        | _ => none
    | _, _ => none
  | .field s x f => match A.und s, opd G tm x with
    | some (.struct fs), some (.V (.G l)) => match fieldAt fs.toList f with
      | none => none
      | some g => ov h (partO A g.type l g.offset)
    | _, _ => none
  | .indexAddr t x i => match A.und t, opd G tm x, opd G tm i with
    | some (.slice e), some (.V (.C (.L (some (b, o)) n _))), some (.V (.C (.I _ (.ofNat j)))) => match Nat.ble (Nat.succ j) n, A.size e with
      | true, some k => some (.val (.V (.C (.P (some (b, Nat.add o (Nat.mul j k)))))) h)
      | _, _ => none
    | some (.array n e), some (.V (.C (.P (some (b, o))))), some (.V (.C (.I _ (.ofNat j)))) => match Nat.ble (Nat.succ j) n, A.size e with
      | true, some k => some (.val (.V (.C (.P (some (b, Nat.add o (Nat.mul j k)))))) h)
      | _, _ => none
    | _, _, _ => none
  | .index t x i => match A.und t, opd G tm x, opd G tm i with
    | some .string, some (.V (.C (.S l))), some (.V (.C (.I _ (.ofNat j)))) => match l.drop j with
      | b :: _ => some (.val (.V (.C (.I .u8 (.ofNat b.toNat)))) h)
      | [] => none
    | some (.array n e), some (.V (.G l)), some (.V (.C (.I _ (.ofNat j)))) => match Nat.ble (Nat.succ j) n, A.size e with
      | true, some k => ov h (partO A e l (Nat.mul j k))
      | _, _ => none
    | _, _, _ => none
  | .lookup t m k ok => match A.und t, opd G tm m, opd G tm k with
    | some (.map kt e), some (.V (.C (.M r))), some (.V (.C k)) => match A.und kt with
      | none => none
      | some d => match entriesO h r with
        | none => none
        | some es => match mfind d k es with
          | none => none
          | some (some u) => match ok with
            | true => some (.val (.U [u, .C (.B true)]) h)
            | false => some (.val (.V u) h)
          | some none => match A.zero e, ok with
            | some z, true => some (.val (.U [z, .C (.B false)]) h)
            | some z, false => some (.val (.V z) h)
            | none, _ => none
    | _, _, _ => none
  | .mapUpdate t m k x => match A.und t, opd G tm m, opd G tm k, opd G tm x with
    | some (.map kt _), some (.V (.C (.M (some r)))), some (.V (.C k)), some (.V u) => match A.und kt, h.t.get r with
      | some d, some (.map es c) => match mput d k u c es with
        | some (es', true) => some (.skip ⟨h.t.put r (.map es' (Nat.succ c)), h.next⟩)
        | some (es', false) => some (.skip ⟨h.t.put r (.map es' c), h.next⟩)
        | none => none
      | _, _ => none
    | _, _, _, _ => none
  | .range t x => match A.und t, opd G tm x with
    | some (.map _ _), some (.V (.C (.M none))) => some (.val (.V (.C (.P (some (h.next, 0))))) (h.add (.iter none 0 [] 0)))
    | some (.map _ _), some (.V (.C (.M (some r)))) => match h.t.get r with
      | some (.map _ c) => some (.val (.V (.C (.P (some (h.next, 0))))) (h.add (.iter (some r) c [] c)))
      | _ => none
    | _, _ => none
  | .next x false => match opd G tm x with
    | some (.V (.C (.P (some (r, 0))))) => match h.t.get r with
      | some (.iter none _ _ _) => some (.val (.U [.C (.B false)]) h)
      | some (.iter (some m) since seen last) => match h.t.get m with
        | some (.map es c) => match seen, es.any fun e => Nat.ble (Nat.succ e.2.2) last with
          | _ :: _, false => match es with
            | [] => some (.val (.U [.C (.B false)]) h)
            | _ => none
          | _, _ => match es.filter fun e => !(seen.any (Nat.beq e.2.2)) with
            | [] => some (.val (.U [.C (.B false)]) h)
            | [(k, v, n)] => match Nat.ble (Nat.succ n) since with
              | true => some (.val (.U [.C (.B true), .C k, v]) ⟨h.t.put r (.iter (some m) since (n :: seen) c), h.next⟩)
              | false => none
            | _ => none
        | _ => none
      | _ => none
    | _ => none
  | .entry x => match opd G tm x with
    | some (.V (.C (.P (some (r, 0))))) => match h.t.get r with
      | some (.iter (some m) _ (s :: _) last) => match h.t.get m with
        | some (.map es c) => match Nat.beq c last, es.find? (fun e => Nat.beq e.2.2 s) with
          | true, some (k, v, _) => some (.val (.U [.C k, v]) h)
          | _, _ => none
        | _ => none
      | _ => none
    | _ => none
  | .extract x i => match opd G tm x with
    | some (.U l) => match l.drop i with
      | [] => none
      | a :: _ => some (.val (.V a) h)
    | _ => none
  | .call c => match c.callee with
    | .builtin b => match opds G tm c.args.toList with
      | none => none
      | some args => match builtinE A I h b c.argTypes.toList args with
        | none => none
        | some (a, h') => some (.val a h')
    | .value f => match opd G tm f, opds G tm c.args.toList with
      | some (.V (.C (.F f fs cs))), some args => callO A I h f (ofPtrs fs ++ (args ++ ofPtrs cs))
      | some (.V (.C (.Y l))), some args => some (.yld l args)
      | _, _ => none
    | _ => none
  | .defer c => match c.callee with
    | .value f => match opd G tm f, opds G tm c.args.toList with
      | some (.V (.C (.F f fs cs))), some args => some (.dfr f (ofPtrs fs ++ args) (ofPtrs cs))
      | _, _ => none
    | _ => none
  | _ => none
noncomputable def execO (A : Tab) (G : Nat) (I : Ix X) (tm : T AV) (h : Hp X) (o : Oper) : Option (Res X) := execK o.op A G I tm h
theorem execO_eq (A : Tab) (G : Nat) (I : Ix X) (tm : T AV) (h : Hp X) (o : Oper) : execO A G I tm h o = execS A G I tm h o := by
  unfold execO execS
  generalize o.op = op
  cases op
  case next x b => cases b <;> rfl
  case makeMap t r => cases r <;> rfl
  case makeFunc f x y => cases f <;> rfl
  all_goals rfl

/-! ### Regions -/
noncomputable def putT (tm : T AV) (nt : Nat) : Option Tmp → AV → Option (T AV)
  | none, _ => some tm
  | some d, v => match Nat.ble (Nat.succ d) nt with
    | true => some (tm.put d v)
    | false => none
def nthDst : List Oper → Nat → Option Tmp
  | [], _ => none
  | o :: _, 0 => o.dst
  | _ :: l, n + 1 => nthDst l n
noncomputable def wantedO (ops : List Oper) (tm : T AV) : Option (Nat × Bool) → Option Bool
  | none => some true
  | some (j, b) => match nthDst ops j with
    | none => none
    | some d => match tm.get d with
      | some (.V (.C (.B x))) => some (x == b)
      | some _ => some false
      | none => none

/-- A frame's deferred call: the function, its arguments, its captured variables; or the mark of a loop over a function. -/
inductive Df where
  | d (f : FuncId) (args caps : List AV)
  | mk (b : Nat)
/-- What is asked of calls and of rounds of a loop over a function. -/
structure Cl (X : Type) where
  call : FuncId → List AV → Hp X → Option (AV × Hp X)
  dcall : FuncId → List AV → Hp X → Option (AV × Hp X)
  yld : Nat → List AV → Hp X → Option (AV × Hp X)

/-- One operation that is wanted. -/
noncomputable def stepO (A : Tab) (G : Nat) (I : Ix X) (C : Cl X) (rd : Option Nat) (nt : Nat) (o : Oper) (tm : T AV) (ds : List Df) (h : Hp X) : Option (T AV × List Df × Hp X) :=
  match execO A G I tm h o with
  | none => none
  | some (.val v h') => v.seq fun v => match putT tm nt o.dst v with
    | none => none
    | some tm' => tm'.seq fun tm' => h'.seq fun h' => some (tm', ds, h')
  | some (.skip h') => match putT tm nt o.dst (.U []) with
    | none => none
    | some tm' => tm'.seq fun tm' => h'.seq fun h' => some (tm', ds, h')
  | some (.dfr f a c) => match rd, putT tm nt o.dst (.U []) with
    | none, some tm' => some (tm', .d f a c :: ds, h)
    | _, _ => none
  | some (.call f args) => match C.call f args h with
    | none => none
    | some (v, h') => match putT tm nt o.dst v with
      | none => none
      | some tm' => tm'.seq fun tm' => h'.seq fun h' => some (tm', ds, h')
  | some (.yld l args) => match C.yld l args h with
    | none => none
    | some (v, h') => match putT tm nt o.dst v with
      | none => none
      | some tm' => tm'.seq fun tm' => h'.seq fun h' => some (tm', ds, h')
/-- One operation, if it is wanted. -/
noncomputable def stepW (A : Tab) (G : Nat) (I : Ix X) (C : Cl X) (rd : Option Nat) (nt : Nat) (ops : List Oper) (o : Oper) (tm : T AV) (ds : List Df) (h : Hp X) : Option (T AV × List Df × Hp X) :=
  match wantedO ops tm o.guard with
  | none => none
  | some false => match putT tm nt o.dst (.U []) with
    | none => none
    | some tm' => some (tm', ds, h)
  | some true => stepO A G I C rd nt o tm ds h
noncomputable def opsO (A : Tab) (G : Nat) (I : Ix X) (C : Cl X) (rd : Option Nat) (nt : Nat) (ops : List Oper) : List Oper → T AV → List Df → Hp X → Option (T AV × List Df × Hp X)
  | [], tm, ds, h => some (tm, ds, h)
  | o :: l, tm, ds, h => match stepW A G I C rd nt ops o tm ds h with
    | none => none
    | some (tm', ds', h') => opsO A G I C rd nt ops l tm' ds' h'

/-! ### Code -/
inductive Ex where
  | nx
  | ex (id : Nat)
  | rt
/-! ### Drawn regions: their operations are run in any order that the edges leave open. -/
def nthN : List Nat → Nat → Nat
  | [], _ => 0
  | x :: _, 0 => x
  | _ :: l, n + 1 => nthN l n
def edgesOk (i : Nat) : List Edge → Bool
  | [] => true
  | e :: l => match Region.binds .any e with
    | false => edgesOk i l
    | true => match Nat.ble (Nat.succ e.on) i with
      | true => edgesOk i l
      | false => false
/-- What an operation waits for, all told, as bits. -/
noncomputable def edgeMask (ms : List Nat) : List Edge → Nat
  | [] => 0
  | e :: l => match Region.binds .any e with
    | true => Nat.lor (Nat.lor (Nat.pow (nat_lit 2) e.on) (nthN ms e.on)) (edgeMask ms l)
    | false => edgeMask ms l
noncomputable def masksO : Nat → List Nat → List Oper → Option (List Nat)
  | _, ms, [] => some ms
  | i, ms, o :: l => match edgesOk i o.after.toList with
    | false => none
    | true => nseq (edgeMask ms o.after.toList) fun m => masksO (Nat.succ i) (ms ++ [m]) l
def tmpsOf : List Operand → List Nat
  | [] => []
  | .tmp t :: l => t :: tmpsOf l
  | _ :: l => tmpsOf l
/-- The temporaries that an operation reads. -/
def usesO (ops : List Oper) (o : Oper) : List Nat := match o.guard with
  | none => tmpsOf o.op.operands.toList
  | some (j, _) => match nthDst ops j with
    | none => tmpsOf o.op.operands.toList
    | some d => d :: tmpsOf o.op.operands.toList
/-- Is each other operation that writes t ordered against operation j? -/
noncomputable def clearT (ms : List Nat) (j mj t : Nat) : Nat → List Oper → Bool
  | _, [] => true
  | i, o :: l => match o.dst with
    | none => clearT ms j mj t (Nat.succ i) l
    | some d => match Nat.beq d t with
      | false => clearT ms j mj t (Nat.succ i) l
      | true => match Nat.beq i j with
        | true => clearT ms j mj t (Nat.succ i) l
        | false => match (match Nat.ble i j with | true => Nat.testBit mj i | false => Nat.testBit (nthN ms i) j) with
          | true => clearT ms j mj t (Nat.succ i) l
          | false => false
noncomputable def clearL (ms : List Nat) (ops : List Oper) (j mj : Nat) : List Nat → Bool
  | [] => true
  | t :: l => match clearT ms j mj t 0 ops with
    | true => clearL ms ops j mj l
    | false => false
noncomputable def clearO (ms : List Nat) (ops : List Oper) : Nat → List Oper → Bool
  | _, [] => true
  | j, o :: l => match clearL ms ops j (nthN ms j) (match o.dst with | none => usesO ops o | some d => d :: usesO ops o) with
    | true => clearO ms ops (Nat.succ j) l
    | false => false
/-- What is seen of a region ahead: each operation's mask. -/
noncomputable def seenO (ops : List Oper) : Option (List Nat) := match masksO 0 [] ops with
  | none => none
  | some ms => match clearO ms ops 0 ops with
    | true => some ms
    | false => none
/-- The temporaries that an operation reads, alone. -/
noncomputable def onlyT (tm : T AV) : List Nat → T AV → T AV
  | [], r => r
  | t :: l, r => match tm.get t with
    | none => onlyT tm l r
    | some a => onlyT tm l (r.put t a)
/-- Operations that turn no memory (if no new name is given), and those that do not even read it. -/
def lightB : Builtin → Bool
  | .len | .cap | .min | .max => true
  | _ => false
def lightO : Op → Bool
  | .move _ | .assign _ | .pick .. | .build .. | .load .. | .nilCheck _ | .binOp .. | .unOp .. | .convert .. | .sliceToArrayPointer .. | .makeInterface .. | .typeAssert .. | .makeFunc .. | .slice .. | .fieldAddr .. | .field ..
  | .indexAddr .. | .index .. | .lookup .. | .entry _ | .extract .. => true
  | .call c => match c.callee with
    | .builtin b => lightB b
    | _ => false
  | _ => false
def pureO : Op → Bool
  | .move _ | .assign _ | .pick .. | .nilCheck _ | .unOp .. | .makeInterface .. | .typeAssert .. | .makeFunc .. | .fieldAddr .. | .field .. | .indexAddr .. | .index .. | .extract .. => true
  | _ => false
/-- Operations that make a new object and look at no memory: which value, which object (under this name). -/
noncomputable def freshO (A : Tab) (G : Nat) (tm : T AV) (b : Nat) : Op → Option (AV × Ob X)
  | .alloc e => match A.zero e with
    | none => none
    | some z => some (.V (.C (.P (some (b, 0)))), .cells (T.ofL z.cells) z.cells.length none)
  | .box _ x => match opd G tm x with
    | some (.V z) => some (.V (.C (.P (some (b, 0)))), .cells (T.ofL z.cells) z.cells.length none)
    | _ => none
  | .buildSlice t n ps => match A.und t with
    | some (.slice e) => match A.elt e, pairs G tm ps.toList with
      | some (k, zl), some qs => match fillC (fun i => some (Nat.mul i k, k)) (rep n zl) qs, Nat.ble (Nat.mul n k) (nat_lit 16777216) with
        | some l, true => some (.V (.C (.L (some (b, 0)) n (.k n))), .cells (T.ofL l) (Nat.mul n k) none)
        | _, _ => none
      | _, _ => none
    | _ => none
  | _ => none
def isFresh : Op → Bool
  | .alloc _ | .box .. | .buildSlice .. => true
  | _ => false
def anyFresh : List Oper → Bool
  | [] => false
  | o :: l => match isFresh o.op with
    | true => true
    | false => anyFresh l
/-- New objects that the operation of this mask has waited for are laid into memory; the others are not yet. -/
noncomputable def wakeO (base m : Nat) : List (Nat × Ob X) → T (Ob X) → T (Ob X) × List (Nat × Ob X)
  | [], t => (t, [])
  | (i, ob) :: l, t => match Nat.testBit m i with
    | true => wakeO base m l (t.put (Nat.add base i) ob)
    | false => match wakeO base m l t with
      | (t', r) => (t', (i, ob) :: r)
/-- What an operation was, in the order of the text: it was not wanted; it turned no memory; or it led to this memory. -/
inductive Rc (X : Type) where
  | off
  | fr (v : AV) (ob : Ob X)
  | lt (o : Oper) (tm : T AV) (v : AV)
  | hv (v : AV) (h : Hp X)
/-- An operation's value, and what it leads to. -/
noncomputable def stepV (A : Tab) (G : Nat) (I : Ix X) (C : Cl X) (o : Oper) (u : T AV) (h : Hp X) : Option (AV × Hp X) :=
  match execO A G I u h o with
  | some (.val v h1) => some (v, h1)
  | some (.skip h1) => some (.U [], h1)
  | some (.call f args) => C.call f args h
  | some (.yld b args) => C.yld b args h
  | _ => none
/-- An operation that turns memory: what it has waited for is laid ahead. -/
noncomputable def heavyO (A : Tab) (G : Nat) (I : Ix X) (C : Cl X) (nt base : Nat) (ms : List Nat) (j : Nat) (o : Oper) (u tm : T AV) (pf : List (Nat × Ob X)) (h : Hp X) : Option (AV × T AV × List (Nat × Ob X) × Hp X) :=
  match wakeO base (nthN ms j) pf h.t with
  | (t0, pf') => match stepV A G I C o u ⟨t0, h.next⟩ with
    | none => none
    | some (v, h1) => v.seq fun v => match putT tm nt o.dst v with
      | none => none
      | some tm' => tm'.seq fun tm' => h1.seq fun h1 => some (v, tm', pf', h1)
noncomputable def runD (A : Tab) (G : Nat) (I : Ix X) (C : Cl X) (nt base : Nat) (ms : List Nat) (ops : List Oper) : Nat → List Oper → T AV → List (Nat × Ob X) → Hp X → Option (List (Rc X) × T AV × List (Nat × Ob X) × Hp X)
  | _, [], tm, pf, h => some ([], tm, pf, h)
  | j, o :: l, tm, pf, h => (onlyT tm (usesO ops o) (T.full (nat_lit 16))).seq fun u => match wantedO ops u o.guard with
    | none => none
    | some false => match putT tm nt o.dst (.U []) with
      | none => none
      | some tm' => match runD A G I C nt base ms ops (Nat.succ j) l tm' pf h with
        | none => none
        | some (r, e) => some (.off :: r, e)
    | some true => match isFresh o.op with
      | true => match freshO A G u (Nat.add base j) o.op with
        | none => none
        | some (v, ob) => v.seq fun v => match putT tm nt o.dst v with
          | none => none
          | some tm' => match runD A G I C nt base ms ops (Nat.succ j) l tm' ((j, ob) :: pf) h with
            | none => none
            | some (r, e) => some (.fr v ob :: r, e)
      | false => match lightO o.op with
        | true => match execO A G I u h o with
          | some (.val v h1) => match Nat.beq h1.next h.next with
            | true => v.seq fun v => match putT tm nt o.dst v with
              | none => none
              | some tm' => match runD A G I C nt base ms ops (Nat.succ j) l tm' pf h with
                | none => none
                | some (r, e) => some (.lt o u v :: r, e)
            | false => match heavyO A G I C nt base ms j o u tm pf h with
              | none => none
              | some (v, tm', pf', h') => match runD A G I C nt base ms ops (Nat.succ j) l tm' pf' h' with
                | none => none
                | some (r, e) => some (.hv v h' :: r, e)
          | _ => none
        | false => match heavyO A G I C nt base ms j o u tm pf h with
          | none => none
          | some (v, tm', pf', h') => match runD A G I C nt base ms ops (Nat.succ j) l tm' pf' h' with
            | none => none
            | some (r, e) => some (.hv v h' :: r, e)
def aheadB (ms : List Nat) (j : Nat) : Option Nat → Bool
  | none => false
  | some n => Nat.testBit (nthN ms j) n
def behindB (ms : List Nat) (j : Nat) : Option Nat → Bool
  | none => false
  | some p => Nat.testBit (nthN ms p) j
def ltN (j : Nat) : Option Nat → Bool
  | none => true
  | some n => Nat.ble (Nat.succ j) n
def gtN (j : Nat) : Option Nat → Bool
  | none => true
  | some p => Nat.ble (Nat.succ p) j
/-- Does operation j say the same in this memory, if it may run there (behind operation p, ahead of operation n)? -/
noncomputable def sameAt (A : Tab) (G : Nat) (I : Ix X) (ms : List Nat) (p n : Option Nat) (h : Hp X) (j : Nat) (o : Oper) (u : T AV) (v : AV) : Bool :=
  match aheadB ms j n, behindB ms j p with
  | false, false => match ltN j n, gtN j p with
    | true, true => true
    | _, _ => match execO A G I u h o with
      | some (.val v' h') => match decide (v' = v), Nat.beq h'.next h.next with
        | true, true => true
        | _, _ => false
      | _ => false
  | _, _ => true
noncomputable def sameL (A : Tab) (G : Nat) (I : Ix X) (ms : List Nat) (p n : Option Nat) (h : Hp X) : Nat → List (Rc X) → Bool
  | _, [] => true
  | j, .lt o u v :: l => match pureO o.op with
    | true => sameL A G I ms p n h (Nat.succ j) l
    | false => match sameAt A G I ms p n h j o u v with
      | true => sameL A G I ms p n h (Nat.succ j) l
      | false => false
  | j, _ :: l => sameL A G I ms p n h (Nat.succ j) l
/-- The next operation that turns memory. -/
def nextH : Nat → List (Rc X) → Option Nat
  | _, [] => none
  | j, .hv _ _ :: _ => some j
  | j, _ :: l => nextH (Nat.succ j) l
/-- Over all memories between: the operations that turn memory wait for one another; the others say the same. -/
noncomputable def phasesO (A : Tab) (G : Nat) (I : Ix X) (ms : List Nat) (all : List (Rc X)) (p : Option Nat) : Nat → List (Rc X) → Bool
  | _, [] => true
  | j, .hv _ h :: l => match (match p with | none => true | some p => Nat.testBit (nthN ms j) p), sameL A G I ms (some j) (nextH (Nat.succ j) l) h 0 all with
    | true, true => phasesO A G I ms all (some j) (Nat.succ j) l
    | _, _ => false
  | j, _ :: l => phasesO A G I ms all p (Nat.succ j) l
noncomputable def drawO (A : Tab) (G : Nat) (I : Ix X) (C : Cl X) (_rd : Option Nat) (nt : Nat) (ops : List Oper) (tm : T AV) (ds : List Df) (h : Hp X) : Option (T AV × List Df × Hp X) :=
  match seenO ops with
  | none => none
  | some ms => nseq (match anyFresh ops with | true => Nat.add h.next ops.length | false => h.next) fun next => match runD A G I C nt h.next ms ops 0 ops tm [] ⟨h.t, next⟩ with
    | none => none
    | some (r, tm', pf, h') => match sameL A G I ms none (nextH 0 r) ⟨h.t, next⟩ 0 r, phasesO A G I ms r none 0 r with
      | true, true => match wakeO h.next (Nat.pow (nat_lit 2) ops.length - 1) pf h'.t with
        | (t', _) => some (tm', ds, ⟨t', h'.next⟩)
      | _, _ => none
noncomputable def loopO (body : T AV → List Df → Hp X → Option (Ex × T AV × List Df × Hp X)) : Nat → T AV → List Df → Hp X → Option (Ex × T AV × List Df × Hp X)
  | 0, _, _, _ => none
  | n + 1, tm, ds, h => match body tm ds h with
    | none => none
    | some (.nx, tm, ds, h) => loopO body n tm ds h
    | some r => some r
noncomputable def codeO (A : Tab) (G : Nat) (I : Ix X) (C : Cl X) (N : Nat) (fn : FuncId) (rd : Option Nat) (nt : Nat) : Code → T AV → List Df → Hp X → Option (Ex × T AV × List Df × Hp X)
  | .skip, tm, ds, h => some (.nx, tm, ds, h)
  | .label _, tm, ds, h => some (.nx, tm, ds, h)
  | .exit id, tm, ds, h => some (.ex id, tm, ds, h)
  | .ret, tm, ds, h => some (.rt, tm, ds, h)
  | .region _ ops false, tm, ds, h => match opsO A G I C rd nt ops.toList ops.toList tm ds h with
    | none => none
    | some (tm, ds, h) => some (.nx, tm, ds, h)
  | .region _ ops true, tm, ds, h => match drawO A G I C rd nt ops.toList tm ds h with
    | none => none
    | some (tm, ds, h) => some (.nx, tm, ds, h)
  | .seq a b, tm, ds, h => match codeO A G I C N fn rd nt a tm ds h with
    | none => none
    | some (.nx, tm, ds, h) => codeO A G I C N fn rd nt b tm ds h
    | some r => some r
  | .cond c a b, tm, ds, h => match opd G tm c with
    | some (.V (.C (.B true))) => codeO A G I C N fn rd nt a tm ds h
    | some (.V (.C (.B false))) => codeO A G I C N fn rd nt b tm ds h
    | _ => none
  | .block id c, tm, ds, h => match codeO A G I C N fn rd nt c tm ds h with
    | none => none
    | some (.ex j, tm, ds, h) => match Nat.beq j id with
      | true => some (.nx, tm, ds, h)
      | false => some (.ex j, tm, ds, h)
    | some r => some r
  | .scope c, tm, ds, h => codeO A G I C N fn rd nt c tm ds h
  | .loop c, tm, ds, h => loopO (codeO A G I C N fn rd nt c) N tm ds h
  | .rangeFunc f params assign body, tm, ds, h => match rd, opd G tm f with
    | none, some (.V (.C (.F f fs cs))) =>
      -- the block for deferred calls, then the loop's record
      let h1 := h.add .dfs
      let h2 := h1.add (.loop .ready none fn tm nt params assign body h.next)
      match A.fn.get f with
      | none => none
      | some F => match F.body with
        | none => none
        | some _ => match C.call f (ofPtrs fs ++ (.V (.C (.Y h1.next)) :: ofPtrs cs)) h2 with
          | none => none
          | some (_, h') => match h'.t.get h1.next with
            | some (.loop st pend _ _ _ _ _ _ _) => match st with
              | .busy => none
              | _ => match h'.t.get h.next with
                | some .dfs => match pend with
                  | none => some (.nx, tm, .mk h.next :: ds, ⟨h'.t.drop h1.next, h'.next⟩)
                  | some .ret => some (.rt, tm, .mk h.next :: ds, ⟨h'.t.drop h1.next, h'.next⟩)
                  | some (.exit id) => some (.ex id, tm, .mk h.next :: ds, ⟨h'.t.drop h1.next, h'.next⟩)
                  | _ => none
                | _ => none
            | _ => none
    | _, _ => none
  | _, _, _, _ => none

noncomputable def resL (A : Tab) (tm : T AV) (h : Hp X) : List ResultVar → Option (List AV)
  | [] => some []
  | .tmp t :: l => match tm.get t, resL A tm h l with
    | some a, some r => some (a :: r)
    | _, _ => none
  | .cell t ty :: l => match tm.get t with
    | some (.V (.C (.P (some (b, o))))) => match loadAt A h ty b o, resL A tm h l with
      | some a, some r => some (a :: r)
      | _, _ => none
    | _ => none
noncomputable def defersO (C : Cl X) : List Df → Hp X → Option (Hp X)
  | [], h => some h
  | .d f a c :: ds, h => match C.dcall f (a ++ c) h with
    | none => none
    | some (_, h') => defersO C ds h'
  | .mk b :: ds, h => match h.t.get b with
    | some .dfs => defersO C ds ⟨h.t.drop b, h.next⟩
    | _ => none
/-- Go functions that are met by a law of their own. -/
abbrev Iy (X : Type) := FuncId → Option (List AV → Hp X → Option (AV × Hp X))
/-- A call of a function. -/
noncomputable def callF (A : Tab) (G : Nat) (I : Ix X) (J : Iy X) (N : Nat) (C : Cl X) (f : FuncId) (args : List AV) (h : Hp X) : Option (AV × Hp X) :=
  match J f with
  | some g => g args h
  | none => match A.fn.get f with
    | none => none
    | some F => match F.body with
      | none => none
      | some c => match Nat.ble args.length F.ntmps with
        | false => none
        | true => match codeO A G I C N f none F.ntmps c (T.putL args (T.full (nat_lit 16)) (nat_lit 0)) [] h with
          | none => none
          | some (.ex _, _, _, _) => none
          | some (_, tm, ds, h) => match defersO C ds h with
            | none => none
            | some h => match resL A tm h F.results.toList with
              | none => none
              | some [a] => some (a, h)
              | some l => match a0s l with
                | none => none
                | some r => some (.U r, h)
noncomputable def putArgs (tm : T AV) (nt : Nat) : List Tmp → List AV → Option (T AV)
  | [], [] => some tm
  | t :: ts, a :: as => match Nat.ble (Nat.succ t) nt with
    | true => putArgs (tm.put t a) nt ts as
    | false => none
  | _, _ => none
/-- A round of a loop over a function: yield's call. -/
noncomputable def yldF (A : Tab) (G : Nat) (I : Ix X) (N : Nat) (C : Cl X) (l : Nat) (args : List AV) (h : Hp X) : Option (AV × Hp X) :=
  match h.t.get l with
  | some (.loop .ready _ fn tm nt params assign body _) => match putArgs tm nt params.toList args with
    | none => none
    | some tm1 => match codeO A G I C N fn (some l) nt assign tm1 [] h with
      | some (.nx, tm2, [], h1) => match h1.t.get l with
        | some (.loop .ready p1 fn1 tmx ntx ps1 as1 bo1 d1) => match codeO A G I C N fn (some l) nt body tm2 [] ⟨h1.t.put l (.loop .busy p1 fn1 tmx ntx ps1 as1 bo1 d1), h1.next⟩ with
          | some (e, _, [], h2) => match h2.t.get l with
            | some (.loop _ _ fn2 tm2 nt2 ps2 as2 bo2 d2) => match e with
              | .nx => some (.V (.C (.B true)), ⟨h2.t.put l (.loop .ready none fn2 tm2 nt2 ps2 as2 bo2 d2), h2.next⟩)
              | .rt => some (.V (.C (.B false)), ⟨h2.t.put l (.loop .done (some .ret) fn2 tm2 nt2 ps2 as2 bo2 d2), h2.next⟩)
              | .ex id => some (.V (.C (.B false)), ⟨h2.t.put l (.loop .done (some (.exit id)) fn2 tm2 nt2 ps2 as2 bo2 d2), h2.next⟩)
            | _ => none
          | _ => none
        | _ => none
      | _ => none
  | _ => none
/-- All calls, n deep (J: functions met by a law of their own; K: these as deferred calls). -/
noncomputable def clO (A : Tab) (G : Nat) (I : Ix X) (J K : Iy X) (N : Nat) : Nat → Cl X
  | 0 => ⟨fun _ _ _ => none, fun _ _ _ => none, fun _ _ _ => none⟩
  | n + 1 => ⟨fun f args h => callF A G I J N (clO A G I J K N n) f args h, fun f args h => callF A G I K N (clO A G I J K N n) f args h, fun l args h => yldF A G I N (clO A G I J K N n) l args h⟩
end Ev
end Go.Proofs.YtlkgdpdnhnakoaaGreatDoor
