/- GEvB: EvH, EvI, EvJ, EvK, EvL, EvM, EvN, EvO, EvP, EvQ, EvR. -/
import Derived.Test.YtlkgdpdnhnakoaaGreatDoorGEvA
import Derived.MapKept
import Derived.Laws.Sem
namespace Go.Proofs.YtlkgdpdnhnakoaaGreatDoor
namespace Ev
variable {X : Type} {E : Xs X} {G : Nat} {A : Tab} {V : Vn} {h : Hp X} {w : World} {tm : T AV} {nt : Nat} {a : Act} {o : Oper}

theorem ov_snd {P : Program} (s : Sim E G V h w) {v : Option AV} {r : Res X} (q : ov h v = some r) {m : Result Next} (hm : ∀ u, v = some u → ∃ x, m = .ok (.value x) w ∧ u.rel V x) : Snd E G P V h w r m := by
  cases v with
  | none => cases q
  | some u => cases q; obtain ⟨x, e, hr⟩ := hm u rfl; exact .pure s e hr
theorem run_unit {P : Program} {e : Sem Unit} {w w' : World} (h : e.run P w = .ok () w') : (e >>= fun _ => (pure .skip : Sem Next)).run P w = .ok .skip w' := run_bind_ok h

theorem ex_move (s : Sim E G V h w) (ht : TmR V tm nt a.tmps) {x : Operand} (ho : o.op = .move x) {r : Res X} (q : ov h (opd G tm x) = some r) : Snd E G A.P V h w r ((execOp a.eval o).run A.P w) :=
  ov_snd s q fun _ hu => ⟨a.eval x, by simp [execOp, ho], opd_rel s ht hu⟩
theorem ex_assign (s : Sim E G V h w) (ht : TmR V tm nt a.tmps) {x : Operand} (ho : o.op = .assign x) {r : Res X} (q : ov h (opd G tm x) = some r) : Snd E G A.P V h w r ((execOp a.eval o).run A.P w) :=
  ov_snd s q fun _ hu => ⟨a.eval x, by simp [execOp, ho], opd_rel s ht hu⟩
theorem bool_of (s : Sim E G V h w) (ht : TmR V tm nt a.tmps) {x : Operand} {b : Bool} (q : opd G tm x = some (.V (.C (.B b)))) : a.eval x = .bool b := opd_rel s ht q
theorem int_of (s : Sim E G V h w) (ht : TmR V tm nt a.tmps) {x : Operand} {k : IntKind} {n : Int} (q : opd G tm x = some (.V (.C (.I k n)))) : a.eval x = .int k n := opd_rel s ht q
theorem str_of (s : Sim E G V h w) (ht : TmR V tm nt a.tmps) {x : Operand} {l : List UInt8} (q : opd G tm x = some (.V (.C (.S l)))) : a.eval x = .string ⟨l.toArray⟩ := opd_rel s ht q
theorem ex_pick (s : Sim E G V h w) (ht : TmR V tm nt a.tmps) {c x y : Operand} (ho : o.op = .pick c x y) {b : Bool} (hc : opd G tm c = some (.V (.C (.B b)))) {r : Res X} (q : ov h (opd G tm (if b then x else y)) = some r) :
    Snd E G A.P V h w r ((execOp a.eval o).run A.P w) :=
  ov_snd s q fun _ hu => ⟨a.eval (if b then x else y), by simp [execOp, ho, bool_of s ht hc, asBool]; cases b <;> rfl, opd_rel s ht hu⟩
theorem ex_nilCheck (s : Sim E G V h w) (ht : TmR V tm nt a.tmps) {x : Operand} (ho : o.op = .nilCheck x) {u : AV} (hu : opd G tm x = some u)
    (hk : (∃ b, u = .V (.C (.P (some b)))) ∨ (∃ f fs cs, u = .V (.C (.F f fs cs))) ∨ ∃ l, u = .V (.C (.Y l))) : Snd E G A.P V h w (.val u h) ((execOp a.eval o).run A.P w) := by
  have hr := opd_rel s ht hu
  refine .pure s (x := a.eval x) ?_ hr
  rcases hk with ⟨b, rfl⟩ | ⟨f, fs, cs, rfl⟩ | ⟨l, rfl⟩
  · obtain ⟨y, _, e⟩ := hr; simp [execOp, ho, e]
  · obtain ⟨f1, c1, _, _, e⟩ := hr; simp [execOp, ho, e]
  · obtain ⟨y, _, e⟩ := hr; simp [execOp, ho, e]

/-! ### Arithmetic and comparisons -/
theorem run_eqGuard {P : Program} (op : BinOp) (t : TypeId) (x y : Operand) {u v : Value} (h1 : ∀ c, u ≠ .agg c) (h2 : u ≠ .nilIface) (w : World) : (eqGuard op t x y u v).run P w = .ok () w := by
  unfold eqGuard
  cases op <;> first | rfl | (cases u <;> first | rfl | exact absurd rfl (h1 _) | exact absurd rfl h2)
theorem Ce.rel.ne_agg {c : Ce} {v : Value} (q : c.rel V v) : (∀ l, v ≠ .agg l) ∧ v ≠ .nilIface := by
  unfold Ce.rel at q
  split at q
  case h_5 => obtain ⟨_, _, rfl⟩ := q; exact ⟨(fun _ e => by cases e), (fun e => by cases e)⟩
  case h_7 => exact q.elim
  case h_8 => obtain ⟨_, _, rfl⟩ := q; exact ⟨(fun _ e => by cases e), (fun e => by cases e)⟩
  case h_9 => obtain ⟨_, _, _, rfl⟩ := q; exact ⟨(fun _ e => by cases e), (fun e => by cases e)⟩
  case h_11 => obtain ⟨_, _, rfl⟩ := q; exact ⟨(fun _ e => by cases e), (fun e => by cases e)⟩
  case h_13 => obtain ⟨_, _, _, _, rfl⟩ := q; exact ⟨(fun _ e => by cases e), (fun e => by cases e)⟩
  case h_14 => obtain ⟨_, _, rfl⟩ := q; exact ⟨(fun _ e => by cases e), (fun e => by cases e)⟩
  case h_15 => obtain ⟨_, _, rfl⟩ := q; unfold symV; split <;> exact ⟨(fun _ e => by cases e), (fun e => by cases e)⟩
  all_goals subst q; exact ⟨(fun _ e => by cases e), (fun e => by cases e)⟩
theorem run_guarded {P : Program} {op : BinOp} {t : TypeId} {x y : Operand} {u v z : Value} {w : World} (hg : (eqGuard op t x y u v).run P w = .ok () w) (hb : (binOp op t u v).run P w = .ok z w) :
    ((do let r ← (do eqGuard op t x y u v; binOp op t u v); pure (.value r)) : Sem Next).run P w = .ok (.value z) w := by
  refine run_bind_ok (w' := w) ?_
  rw [run_bind_ok hg]; exact hb
theorem binOp_eq {P : Program} {t : TypeId} {u v : Value} {r : Bool} {w : World} (h : (Op.equal t u v).run P w = .ok r w) (hi : ∀ k n, u ≠ .int k n) (hs : ∀ l, u ≠ .string l) (hf : ∀ k n, u ≠ .float k n) (hc : ∀ k n m, u ≠ .complex k n m) :
    (binOp .eql t u v).run P w = .ok (.bool r) w ∧ (binOp .neq t u v).run P w = .ok (.bool (!r)) w := by
  have e1 : binOp .eql t u v = (do let b ← Op.equal t u v; pure (.bool b)) := by
    cases u <;> first | rfl | exact absurd rfl (hi _ _) | exact absurd rfl (hs _) | exact absurd rfl (hf _ _) | exact absurd rfl (hc _ _ _)
  have e2 : binOp .neq t u v = (do let b ← Op.equal t u v; pure (.bool (!b))) := by
    cases u <;> first | rfl | exact absurd rfl (hi _ _) | exact absurd rfl (hs _) | exact absurd rfl (hf _ _) | exact absurd rfl (hc _ _ _)
  rw [e1, e2]
  exact ⟨run_bind_ok h, run_bind_ok h⟩
/-- Two plain cells' values, held against one another. -/
theorem keyEq_run {P : Program} {d : TypeDesc} {x y : Ce} {r : Bool} (q : keyEq d x y = some r) {t : TypeId} (ht : P.underlying t = some d) {u v : Value} (hu : x.rel V u) (hv : y.rel V v) (n : Nat) (w : World) :
    (Op.equalIn (n + 1) t u v).run P w = .ok r w := by
  unfold keyEq at q
  unfold Op.equalIn
  rw [run_bind_ok (run_underlying ht w)]
  split at q
  case h_1 =>
    simp only [Ce.rel] at hu hv
    subst hu; subst hv
    split at q
    · rename_i hk
      injection q with q; subst q
      have := of_decide_eq_true hk
      simp [this, BEq.beq]
    · cases q
  case h_2 =>
    simp only [Ce.rel] at hu hv
    subst hu; subst hv
    injection q with q; subst q
    rename_i a b
    show Result.ok _ w = _
    congr 1
    rw [beq_toListBytes]; simp
  case h_3 =>
    simp only [Ce.rel] at hu hv
    subst hu; subst hv
    injection q with q; subst q
    rfl
  case h_4 => cases q
theorem plain_part {P : Program} {d : TypeDesc} {x y : Ce} {r : Bool} (q : keyEq d x y = some r) {t : TypeId} (ht : P.underlying t = some d) {xs : Array Value} {i : Nat} {v : Value} (hx : xs[i]? = some v) (w : World) : (part t xs i).run P w = .ok v w := by
  have hd : isAggD d = false := by unfold keyEq at q; split at q <;> first | rfl | cases q
  unfold Go.part
  rw [run_bind_ok (run_isAgg ht w), hd]
  simp [hx]
theorem eqS_run (hA : A.Ok) (n : Nat) (w : World) : ∀ (fs : List Field) (i : Nat) (l m : List Ce) (xs ys : List Value) (as bs : Array Value) (r : Bool), eqS A i fs l m = some r → All2 (Ce.rel V) l xs → All2 (Ce.rel V) m ys →
    (∀ (k : Nat) v, xs[k]? = some v → as[i + k]? = some v) → (∀ (k : Nat) v, ys[k]? = some v → bs[i + k]? = some v) → (Op.eqFields (n + 1) as bs fs).run A.P w = .ok r w
  | [], _, [], [], [], [], _, _, r, q, _, _, _, _ => by simp only [eqS, Option.some.injEq] at q; subst q; rfl
  | f :: fs, i, x :: l, y :: m, u :: xs, v :: ys, as, bs, r, q, hl, hm, ha, hb => by
    simp only [eqS] at q
    split at q
    case h_2 => cases q
    rename_i d hd ho hn
    split at q
    case h_2 => cases q
    rename_i r1 r2 e1 e2
    injection q with q; subst q
    have hoi : f.offset = i := by simpa using ho
    have hu := hA.und hd
    have p1 := plain_part (P := A.P) e1 hu (show as[f.offset]? = some u by rw [hoi]; exact ha 0 u rfl) w
    have p2 := plain_part (P := A.P) e1 hu (show bs[f.offset]? = some v by rw [hoi]; exact hb 0 v rfl) w
    have p3 := keyEq_run (V := V) e1 hu hl.1 hm.1 n w
    have rest := eqS_run hA n w fs (i + 1) l m xs ys as bs r2 e2 hl.2 hm.2 (fun k v' hk => by rw [show i + 1 + k = i + (k + 1) by omega]; exact ha (k + 1) v' hk) (fun k v' hk => by rw [show i + 1 + k = i + (k + 1) by omega]; exact hb (k + 1) v' hk)
    have hn' : f.name ≠ "_" := by simpa using hn
    simp only [Op.eqFields, hn', ne_eq, not_false_eq_true, if_true, Sem.run_bind, p1, p2, p3, Result.andThen_ok]
    cases r1
    · simp
    · simpa using rest
theorem eqA_run {P : Program} {d : TypeDesc} {t : TypeId} (ht : P.underlying t = some d) (hc : P.cellsOf t = 1) (n : Nat) (w : World) : ∀ (l m : List Ce) (i : Nat) (xs ys : List Value) (as bs : Array Value) (r : Bool), eqA d l m = some r → All2 (Ce.rel V) l xs → All2 (Ce.rel V) m ys →
    (∀ (k : Nat) v, xs[k]? = some v → as[i + k]? = some v) → (∀ (k : Nat) v, ys[k]? = some v → bs[i + k]? = some v) → (Op.eqItems (n + 1) t (P.cellsOf t) as bs (List.range' i l.length)).run P w = .ok r w
  | [], [], _, [], [], _, _, r, q, _, _, _, _ => by simp only [eqA, Option.some.injEq] at q; subst q; rfl
  | x :: l, y :: m, i, u :: xs, v :: ys, as, bs, r, q, hl, hm, ha, hb => by
    simp only [eqA] at q
    split at q
    case h_2 => cases q
    rename_i r1 r2 e1 e2
    injection q with q; subst q
    have p1 := plain_part (P := P) e1 ht (show as[i * P.cellsOf t]? = some u by rw [hc, Nat.mul_one]; exact ha 0 u rfl) w
    have p2 := plain_part (P := P) e1 ht (show bs[i * P.cellsOf t]? = some v by rw [hc, Nat.mul_one]; exact hb 0 v rfl) w
    have p3 := keyEq_run (V := V) e1 ht hl.1 hm.1 n w
    have rest := eqA_run ht hc n w l m (i + 1) xs ys as bs r2 e2 hl.2 hm.2 (fun k v' hk => by rw [show i + 1 + k = i + (k + 1) by omega]; exact ha (k + 1) v' hk) (fun k v' hk => by rw [show i + 1 + k = i + (k + 1) by omega]; exact hb (k + 1) v' hk)
    simp only [List.length_cons, List.range'_succ, Op.eqItems, Sem.run_bind, p1, p2, p3, Result.andThen_ok]
    cases r1
    · simp
    · simpa using rest
theorem eqGr_run (hA : A.Ok) {t : TypeId} {x y : List Ce} {r : Bool} (q : eqGr A t x y = some r) {xs ys : List Value} (hx : All2 (Ce.rel V) x xs) (hy : All2 (Ce.rel V) y ys) (w : World) :
    A.P.eqGuardType A.P.depth t = false ∧ (Op.equalIn 10000 t (.agg xs.toArray) (.agg ys.toArray)).run A.P w = .ok r w := by
  unfold eqGr at q
  split at q
  case h_3 => cases q
  case h_1 =>
    rename_i fs hg hu
    split at q
    case h_2 => cases q
    rename_i hs
    refine ⟨hg, ?_⟩
    have hu' := hA.und hu
    rw [run_equalIn_struct w 9999 t _ _ (by rw [hu']; simp [Program.fieldsOf, hu']) hs]
    simp only [Program.fieldsOf, hu']
    exact eqS_run hA 9998 w fs.toList 0 x y xs ys _ _ r q hx hy (fun k v hk => by simpa using hk) (fun k v hk => by simpa using hk)
  case h_2 =>
    rename_i m e hg hu
    split at q
    case h_2 => cases q
    rename_i d he hz hm
    refine ⟨hg, ?_⟩
    have hu' := hA.und hu
    have hm' : m = x.length := by simpa using hm
    unfold Tab.size at hz
    cases hi : A.ty.get e with
    | none => simp [hi] at hz
    | some i =>
      simp only [hi, Option.some.injEq] at hz
      have hinfo := hA.ty _ _ hi
      rw [run_equalIn_array w 9999 _ _ hu' hinfo, hm', List.range_eq_range']
      exact eqA_run (hA.und he) (by simp [Program.cellsOf, hinfo, hz]) 9998 w x y 0 xs ys _ _ r q hx hy (fun k v hk => by simpa using hk) (fun k v hk => by simpa using hk)
theorem eqCe_kind {d : TypeDesc} {x y : Ce} {r : Bool} (q : eqCe d x y = some r) : (∀ k n, x ≠ .I k n) ∧ (∀ l, x ≠ .S l) ∧ ∀ b, x ≠ .X b := by
  unfold eqCe at q
  split at q <;> first
    | (cases q; done)
    | exact ⟨(fun _ _ e => by cases e), (fun _ e => by cases e), (fun _ e => by cases e)⟩
theorem rel_kind {c : Ce} {v : Value} (q : c.rel V v) (hX : ∀ b, c ≠ .X b) : (∀ k n, v = .int k n → c = .I k n) ∧ (∀ l, v = .string l → ∃ l', c = .S l') ∧ (∀ k n, v ≠ .float k n) ∧ ∀ k n m, v ≠ .complex k n m := by
  unfold Ce.rel at q
  split at q
  case h_2 => subst q; exact ⟨(fun _ _ e => by cases e; rfl), (fun _ e => by cases e), (fun _ _ e => by cases e), (fun _ _ _ e => by cases e)⟩
  case h_3 => subst q; exact ⟨(fun _ _ e => by cases e), (fun _ _ => ⟨_, rfl⟩), (fun _ _ e => by cases e), (fun _ _ _ e => by cases e)⟩
  case h_5 => obtain ⟨_, _, rfl⟩ := q; exact ⟨(fun _ _ e => by cases e), (fun _ e => by cases e), (fun _ _ e => by cases e), (fun _ _ _ e => by cases e)⟩
  case h_7 => exact q.elim
  case h_8 => obtain ⟨_, _, rfl⟩ := q; exact ⟨(fun _ _ e => by cases e), (fun _ e => by cases e), (fun _ _ e => by cases e), (fun _ _ _ e => by cases e)⟩
  case h_9 => obtain ⟨_, _, _, rfl⟩ := q; exact ⟨(fun _ _ e => by cases e), (fun _ e => by cases e), (fun _ _ e => by cases e), (fun _ _ _ e => by cases e)⟩
  case h_11 => obtain ⟨_, _, rfl⟩ := q; exact ⟨(fun _ _ e => by cases e), (fun _ e => by cases e), (fun _ _ e => by cases e), (fun _ _ _ e => by cases e)⟩
  case h_13 => obtain ⟨_, _, _, _, rfl⟩ := q; exact ⟨(fun _ _ e => by cases e), (fun _ e => by cases e), (fun _ _ e => by cases e), (fun _ _ _ e => by cases e)⟩
  case h_14 => obtain ⟨_, _, rfl⟩ := q; exact ⟨(fun _ _ e => by cases e), (fun _ e => by cases e), (fun _ _ e => by cases e), (fun _ _ _ e => by cases e)⟩
  case h_15 => exact (hX _ rfl).elim
  all_goals subst q; exact ⟨(fun _ _ e => by cases e), (fun _ e => by cases e), (fun _ _ e => by cases e), (fun _ _ _ e => by cases e)⟩
theorem ex_bin (hA : A.Ok) (s : Sim E G V h w) (ht : TmR V tm nt a.tmps) {op : BinOp} {t yt : TypeId} {x y : Operand} (ho : o.op = .binOp op t x y yt) {u v z : AV} (hu : opd G tm x = some u) (hv : opd G tm y = some v)
    (q : binO A op t u v = some z) : Snd E G A.P V h w (.val z h) ((execOp a.eval o).run A.P w) := by
  have ru := opd_rel s ht hu
  have rv := opd_rel s ht hv
  have key : ∀ {m : Value}, (eqGuard op t x y (a.eval x) (a.eval y)).run A.P w = .ok () w → (binOp op t (a.eval x) (a.eval y)).run A.P w = .ok m w → z.rel V m → Snd E G A.P V h w (.val z h) ((execOp a.eval o).run A.P w) := fun {m} hg hb hz => by
    refine .pure s (x := m) ?_ hz
    simp only [execOp, ho]
    exact run_guarded hg hb
  unfold binO at q
  split at q
  case h_1 k i j b =>
    have e1 : a.eval x = .int k i := ru
    have e2 : a.eval y = .int j b := rv
    have hg : (eqGuard op t x y (a.eval x) (a.eval y)).run A.P w = .ok () w := by rw [e1, e2]; exact run_eqGuard op t x y (fun _ e => by cases e) (fun e => by cases e) w
    split at q
    case h_1 =>
      split at q
      case h_1 => cases q
      rename_i c hc
      injection q with q; subst q
      obtain ⟨m, r1, r2⟩ := shOp_run hc t j w (P := A.P)
      exact key hg (by rw [e1, e2]; exact r1) (r2 V)
    case h_2 =>
      split at q
      case h_1 => cases q
      rename_i c hc
      injection q with q; subst q
      obtain ⟨m, r1, r2⟩ := shOp_run hc t j w (P := A.P)
      exact key hg (by rw [e1, e2]; exact r1) (r2 V)
    case h_3 =>
      split at q
      case h_2 => cases q
      rename_i hk
      split at q
      case h_1 => cases q
      rename_i c hc
      injection q with q; subst q
      have hkj := of_decide_eq_true hk
      subst hkj
      obtain ⟨m, r1, r2⟩ := intOp_run hc t w (P := A.P)
      exact key hg (by rw [e1, e2]; exact r1) (r2 V)
  case h_2 l m =>
    have e1 : a.eval x = .string ⟨l.toArray⟩ := ru
    have e2 : a.eval y = .string ⟨m.toArray⟩ := rv
    split at q
    case h_1 => cases q
    rename_i c hc
    injection q with q; subst q
    obtain ⟨m, r1, r2⟩ := strOp_run hc t w (P := A.P)
    exact key (by rw [e1, e2]; exact run_eqGuard op t x y (fun _ e => by cases e) (fun e => by cases e) w) (by rw [e1, e2]; exact r1) (r2 V)
  case h_3 c1 c2 _ _ =>
    have ru' : c1.rel V (a.eval x) := ru
    have rv' : c2.rel V (a.eval y) := rv
    split at q
    case h_1 => cases q
    rename_i d hd
    split at q
    case h_1 => cases q
    rename_i r hr
    have hq := eqCe_run hr (hA.und hd) ru' rv' w
    have hg := run_eqGuard (P := A.P) op t x y (v := a.eval y) (ru'.ne_agg).1 (ru'.ne_agg).2 w
    have hne : (∀ k n, a.eval x ≠ .int k n) ∧ (∀ l, a.eval x ≠ .string l) ∧ (∀ k n, a.eval x ≠ .float k n) ∧ ∀ k n m, a.eval x ≠ .complex k n m := by
      obtain ⟨k1, k2, k3⟩ := eqCe_kind hr
      obtain ⟨i1, i2, i3, i4⟩ := rel_kind ru' k3
      exact ⟨fun k n e => absurd (i1 k n e) (k1 k n), fun l e => (i2 l e).elim fun l' e' => k2 l' e', i3, i4⟩
    obtain ⟨n1, n2, n3, n4⟩ := hne
    obtain ⟨b1, b2⟩ := binOp_eq hq n1 n2 n3 n4
    split at q
    case h_1 => injection q with q; subst q; exact key hg b1 rfl
    case h_2 => injection q with q; subst q; exact key hg b2 rfl
    case h_3 => cases q
  case h_4 l m =>
    obtain ⟨xs, hx, e1⟩ : ∃ vs : List Value, All2 (Ce.rel V) l vs ∧ a.eval x = .agg vs.toArray := ru
    obtain ⟨ys, hy, e2⟩ : ∃ vs : List Value, All2 (Ce.rel V) m vs ∧ a.eval y = .agg vs.toArray := rv
    split at q
    case h_3 => cases q
    case h_1 =>
      rename_i r hr
      injection q with q; subst q
      obtain ⟨g1, g2⟩ := eqGr_run hA hr hx hy w
      exact key (by rw [e1, e2]; exact run_eqGuard_agg w _ t x y _ _ g1) (by rw [e1, e2, run_eql_struct, g2]; rfl) rfl
    case h_2 =>
      rename_i r hr
      injection q with q; subst q
      obtain ⟨g1, g2⟩ := eqGr_run hA hr hx hy w
      exact key (by rw [e1, e2]; exact run_eqGuard_agg w _ t x y _ _ g1) (by rw [e1, e2, run_neq_struct, g2]; rfl) rfl
  case h_5 => cases q
end Ev
end Go.Proofs.YtlkgdpdnhnakoaaGreatDoor

namespace Go.Proofs.YtlkgdpdnhnakoaaGreatDoor
namespace Ev
variable {X : Type} {E : Xs X} {G : Nat} {A : Tab} {V : Vn} {h : Hp X} {w : World} {tm : T AV} {nt : Nat} {a : Act} {o : Oper}

/-- An operation whose model hands back one value. -/
theorem snd_of {P : Program} (s : Sim E G V h w) {z : AV} {e : Sem Value} {m : Value} (ho : execOp a.eval o = (e >>= fun z => (pure (Next.value z) : Sem Next))) (he : e.run P w = .ok m w) (hz : z.rel V m) : Snd E G P V h w (.val z h) ((execOp a.eval o).run P w) :=
  Snd.pure s (by rw [ho]; exact run_bind_ok he) hz
theorem ex_un (s : Sim E G V h w) (ht : TmR V tm nt a.tmps) {op : UnOp} {t : TypeId} {x : Operand} (ho : o.op = .unOp op t x) {u z : AV} (hu : opd G tm x = some u) (q : unO op u = some z) :
    Snd E G A.P V h w (.val z h) ((execOp a.eval o).run A.P w) := by
  have ru := opd_rel s ht hu
  unfold unO at q
  split at q
  case h_1 b =>
    have e1 : a.eval x = .bool b := ru
    injection q with q; subst q
    exact snd_of s (e := Op.unary .not (a.eval x)) (m := .bool (!b)) (by simp only [execOp, ho]) (by rw [e1]; rfl) rfl
  case h_2 k n =>
    have e1 : a.eval x = .int k n := ru
    split at q
    case h_1 => cases q
    rename_i c hc
    injection q with q; subst q
    obtain ⟨m, r1, r2⟩ := intOp_run hc 0 w (P := A.P)
    refine snd_of s (e := Op.unary .neg (a.eval x)) (m := m) (by simp only [execOp, ho]) ?_ (r2 V)
    rw [e1]; simpa [Op.unary, binOp] using r1
  case h_3 k n =>
    have e1 : a.eval x = .int k n := ru
    split at q
    case h_1 => cases q
    rename_i c hc
    injection q with q; subst q
    obtain ⟨m, r1, r2⟩ := intOp_run hc 0 w (P := A.P)
    refine snd_of s (e := Op.unary .xor (a.eval x)) (m := m) (by simp only [execOp, ho]) ?_ (r2 V)
    rw [e1]; simpa [Op.unary, binOp] using r1
  case h_4 => cases q
theorem run_und {P : Program} {t : TypeId} {d : TypeDesc} (h : P.underlying t = some d) (w : World) {β : Type} (f : TypeDesc → Sem β) : (underlying t >>= f).run P w = (f d).run P w := run_bind_ok (run_underlying h w)
theorem ex_conv_int (hA : A.Ok) (s : Sim E G V h w) (ht : TmR V tm nt a.tmps) {t1 t2 : TypeId} {x : Operand} (ho : o.op = .convert t1 t2 x) {d : TypeDesc} {k j : IntKind} {n : Int} (h1 : A.und t1 = some d) (h2 : A.und t2 = some (.int k))
    (hu : opd G tm x = some (.V (.C (.I j n)))) : Snd E G A.P V h w (.val (.V (.C (.I k (wrapF k n)))) h) ((execOp a.eval o).run A.P w) := by
  refine snd_of s (e := convert t1 t2 (a.eval x)) (m := .int k (k.wrap n)) (by simp only [execOp, ho]) ?_ (by rw [wrapF_eq]; rfl)
  unfold convert
  rw [run_und (hA.und h1), run_und (hA.und h2), int_of s ht hu]
  cases d <;> rfl
theorem ex_conv_str (hA : A.Ok) (s : Sim E G V h w) (ht : TmR V tm nt a.tmps) {t1 t2 : TypeId} {x : Operand} (ho : o.op = .convert t1 t2 x) {d : TypeDesc} {l : List UInt8} (h1 : A.und t1 = some d) (h2 : A.und t2 = some .string)
    (hu : opd G tm x = some (.V (.C (.S l)))) : Snd E G A.P V h w (.val (.V (.C (.S l))) h) ((execOp a.eval o).run A.P w) := by
  refine snd_of s (e := convert t1 t2 (a.eval x)) (m := .string ⟨l.toArray⟩) (by simp only [execOp, ho]) ?_ rfl
  unfold convert
  rw [run_und (hA.und h1), run_und (hA.und h2), str_of s ht hu]
  cases d <;> rfl
theorem ex_s2ap (hA : A.Ok) (s : Sim E G V h w) (ht : TmR V tm nt a.tmps) {t : TypeId} {x : Operand} (ho : o.op = .sliceToArrayPointer t x) {m n : Nat} {el : TypeId} {p : Option (Nat × Nat)} {c : Cap} (h1 : A.und t = some (.array n el))
    (hu : opd G tm x = some (.V (.C (.L p m c)))) (hn : n ≤ m) : Snd E G A.P V h w (.val (.V (.C (.P p))) h) ((execOp a.eval o).run A.P w) := by
  have ru := opd_rel s ht hu
  have key : ∀ {q : Option Addr} {c' : Nat}, a.eval x = .slice q m c' → (AV.V (.C (.P p))).rel V (.pointer q) → Snd E G A.P V h w (.val (.V (.C (.P p))) h) ((execOp a.eval o).run A.P w) := fun {q c'} e r => by
    refine snd_of s (e := Instr.arrayAt t (a.eval x)) (m := .pointer q) (by simp only [execOp, ho]) ?_ r
    unfold Instr.arrayAt
    rw [run_und (hA.und h1), e]
    simp only
    rw [if_neg (by omega)]; rfl
  cases p with
  | none => cases c with
    | k c => exact key (show a.eval x = .slice none m c from ru) rfl
    | e d => exact (show False from ru).elim
  | some b => cases c with
    | k c => obtain ⟨y, hy, e⟩ : ∃ y, pR V b y ∧ a.eval x = .slice (some y) m c := ru; exact key e ⟨y, hy, rfl⟩
    | e d => obtain ⟨p', hp, _, e⟩ : ∃ p', V b.1 = some p' ∧ d + m ≤ p'.cp ∧ a.eval x = .slice (some ⟨p'.bl, p'.of + b.2, none⟩) m (p'.cp - d) := ru; exact key e ⟨_, ⟨p', hp, rfl⟩, rfl⟩
theorem ex_iface (hA : A.Ok) (s : Sim E G V h w) (ht : TmR V tm nt a.tmps) {t : TypeId} {x : Operand} (ho : o.op = .makeInterface t x) {d : TypeDesc} {z : A0} (h1 : A.und t = some d) (hd : ∀ ms, d ≠ .interface ms) (hu : opd G tm x = some (.V z)) :
    Snd E G A.P V h w (.val (.N t z) h) ((execOp a.eval o).run A.P w) := by
  refine snd_of s (e := Instr.makeInterface t (a.eval x)) (m := .iface t (a.eval x)) (by simp only [execOp, ho]) ?_ ⟨_, opd_rel s ht hu, rfl⟩
  unfold Instr.makeInterface
  rw [run_und (hA.und h1)]
  cases d <;> first | rfl | exact absurd rfl (hd _)
theorem zero_run {t : TypeId} {z : A0} (hA : A.Ok) (hz : A.zero t = some z) (w : World) : ∃ v, (zeroValue t).run A.P w = .ok v w ∧ z.rel V v := by
  unfold Tab.zero at hz
  cases hi : A.ty.get t with
  | none => simp [hi] at hz
  | some i =>
    simp only [hi] at hz
    cases hv : i.zero with
    | none => simp [hv] at hz
    | some v =>
      simp only [hv] at hz
      refine ⟨v, ?_, a0Of_rel hz⟩
      unfold zeroValue
      rw [run_bind_ok (run_typeInfo w (hA.ty _ _ hi)), hv]
      rfl
theorem ex_assert (hA : A.Ok) (s : Sim E G V h w) (ht : TmR V tm nt a.tmps) {t t0 : TypeId} {x : Operand} {ok : Bool} (ho : o.op = .typeAssert x t0 t ok) {d : TypeDesc} {z : A0} (h1 : A.und t = some d) (hd : ∀ ms, d ≠ .interface ms)
    (hu : opd G tm x = some (.N t z)) : Snd E G A.P V h w (.val (if ok then .U [z, .C (.B true)] else .V z) h) ((execOp a.eval o).run A.P w) := by
  obtain ⟨v, hv, e⟩ : ∃ v, z.rel V v ∧ a.eval x = .iface t v := opd_rel s ht hu
  refine snd_of s (e := Instr.typeAssert (a.eval x) t0 t ok) (m := if ok then .tuple #[v, .bool true] else v) (by simp only [execOp, ho]) ?_ ?_
  · unfold Instr.typeAssert
    rw [run_und (hA.und h1), e]
    cases d <;> first | (simp; done) | exact absurd rfl (hd _)
  · cases ok
    · exact hv
    · exact ⟨[v, .bool true], ⟨hv, rfl, trivial⟩, rfl⟩
theorem ex_assert_no (hA : A.Ok) (s : Sim E G V h w) (ht : TmR V tm nt a.tmps) {t t0 u : TypeId} {x : Operand} (ho : o.op = .typeAssert x t0 t true) {d : TypeDesc} {z y : A0} (h1 : A.und t = some d) (hd : ∀ ms, d ≠ .interface ms)
    (hu : opd G tm x = some (.N u z)) (hne : u ≠ t) (hz : A.zero t = some y) : Snd E G A.P V h w (.val (.U [y, .C (.B false)]) h) ((execOp a.eval o).run A.P w) := by
  obtain ⟨v, hv, e⟩ : ∃ v, z.rel V v ∧ a.eval x = .iface u v := opd_rel s ht hu
  obtain ⟨y', r1, r2⟩ := zero_run (V := V) hA hz w
  refine snd_of s (e := Instr.typeAssert (a.eval x) t0 t true) (m := .tuple #[y', .bool false]) (by simp only [execOp, ho]) ?_ ⟨[y', .bool false], ⟨r2, rfl, trivial⟩, rfl⟩
  unfold Instr.typeAssert
  rw [run_und (hA.und h1), e]
  cases d <;> first | (simp [hne, r1]; done) | exact absurd rfl (hd _)
theorem ptrs_rel {l : List AV} {r : List (Nat × Nat)} (q : ptrs l = some r) {vs : List Value} (hv : All2 (AV.rel V) l vs) : All2 (fpR V) r vs := by
  induction l generalizing r vs with
  | nil => cases vs with
    | nil => cases q; trivial
    | cons v vs => exact hv.elim
  | cons x l ih => cases vs with
    | nil => exact hv.elim
    | cons v vs =>
      unfold ptrs at q
      split at q
      case h_1 e => cases e
      case h_2 p l' e =>
        injection e with e1 e2; subst e1; subst e2
        split at q
        case h_1 => cases q
        rename_i r' hr
        injection q with q; subst q
        exact ⟨hv.1, ih hr hv.2⟩
      case h_3 => cases q
theorem ex_func (s : Sim E G V h w) (ht : TmR V tm nt a.tmps) {f : FuncId} {fs cs : Array Operand} (ho : o.op = .makeFunc (.func f) fs cs) {k l : List AV} {q r : List (Nat × Nat)} (h1 : opds G tm fs.toList = some k) (h2 : opds G tm cs.toList = some l)
    (h3 : ptrs k = some q) (h4 : ptrs l = some r) : Snd E G A.P V h w (.val (.V (.C (.F f q r))) h) ((execOp a.eval o).run A.P w) := by
  refine snd_of s (e := Instr.makeFunc (.func f) (fs.map a.eval) (cs.map a.eval)) (m := .func (.func f) (fs.map a.eval) (cs.map a.eval)) (by simp only [execOp, ho]) rfl ?_
  exact ⟨_, _, ptrs_rel h3 (opds_rel s ht h1), ptrs_rel h4 (opds_rel s ht h2), by congr 1 <;> (apply Array.toList_inj.1; simp)⟩
theorem fieldAt_get : ∀ {l : List Field} {i : Nat} {f : Field}, fieldAt l i = some f → l[i]? = some f
  | _ :: _, 0, _, h => by cases h; rfl
  | _ :: l, i + 1, f, h => fieldAt_get (l := l) (i := i) h
theorem ex_fieldAddr (hA : A.Ok) (s : Sim E G V h w) (ht : TmR V tm nt a.tmps) {t : TypeId} {x : Operand} {i : Nat} (ho : o.op = .fieldAddr t x i) {fs : Array Field} {b p : Nat} {g : Field} {n : Nat} (h1 : A.und t = some (.struct fs))
    (hu : opd G tm x = some (.V (.C (.P (some (b, p)))))) (hf : fieldAt fs.toList i = some g) (hn : A.size g.type = some (n + 1)) :
    Snd E G A.P V h w (.val (.V (.C (.P (some (b, p + g.offset))))) h) ((execOp a.eval o).run A.P w) := by
  obtain ⟨y, ⟨q, hq, rfl⟩, e⟩ : ∃ y, pR V (b, p) y ∧ a.eval x = .pointer (some y) := opd_rel s ht hu
  refine snd_of s (e := Instr.fieldAt t (a.eval x) i) (m := .pointer (some ⟨q.bl, q.of + (p + g.offset), none⟩)) (by simp only [execOp, ho]) ?_ ⟨_, ⟨q, hq, rfl⟩, rfl⟩
  have hg : fs[i]? = some g := by rw [← Array.getElem?_toList]; exact fieldAt_get hf
  unfold Instr.fieldAt
  rw [run_und (hA.und h1), e]
  simp only [hg]
  have hp : (Go.fieldPlace ⟨q.bl, q.of + p, none⟩ g).run A.P w = .ok ⟨q.bl, q.of + (p + g.offset), none⟩ w := by
    unfold Go.fieldPlace
    rw [run_bind_ok (hA.size hn w), if_neg (by omega), add_addr]
    simp [Nat.add_assoc]
  simp only [Instr.sureAddr, pure_bind]
  rw [run_bind_ok hp]
  rfl
theorem ex_index (hA : A.Ok) (s : Sim E G V h w) (ht : TmR V tm nt a.tmps) {t : TypeId} {x y : Operand} (ho : o.op = .indexAddr t x y) {el : TypeId} {b p n j k : Nat} {kk : IntKind} {c : Cap} (h1 : A.und t = some (.slice el))
    (hu : opd G tm x = some (.V (.C (.L (some (b, p)) n c)))) (hj : opd G tm y = some (.V (.C (.I kk (.ofNat j))))) (hlt : j < n) (hk : A.size el = some k) :
    Snd E G A.P V h w (.val (.V (.C (.P (some (b, p + j * k))))) h) ((execOp a.eval o).run A.P w) := by
  have ej := int_of s ht hj
  have key : ∀ {q : Pl} {c' : Nat}, V b = some q → a.eval x = .slice (some ⟨q.bl, q.of + p, none⟩) n c' → Snd E G A.P V h w (.val (.V (.C (.P (some (b, p + j * k))))) h) ((execOp a.eval o).run A.P w) := fun {q c'} hq e => by
    refine snd_of s (e := Instr.indexAt t (a.eval x) (a.eval y)) (m := .pointer (some ⟨q.bl, q.of + (p + j * k), none⟩)) (by simp only [execOp, ho]) ?_ ⟨_, ⟨q, hq, rfl⟩, rfl⟩
    unfold Instr.indexAt
    rw [ej, e]
    simp only [asIntOf, pure_bind]
    rw [run_und (hA.und h1)]
    simp only
    rw [run_und (hA.und h1)]
    have hb : 0 ≤ Int.ofNat j ∧ Int.ofNat j < (n : Int) := by simp only [Int.ofNat_eq_natCast]; omega
    simp only [if_pos hb]
    rw [run_bind_ok (hA.size hk w), add_addr]
    simp [Nat.add_assoc]
  have ru := opd_rel s ht hu
  cases c with
  | k c => obtain ⟨z, ⟨q, hq, rfl⟩, e⟩ : ∃ z, pR V (b, p) z ∧ a.eval x = .slice (some z) n c := ru; exact key hq e
  | e d => obtain ⟨q, hq, _, e⟩ : ∃ q, V b = some q ∧ d + n ≤ q.cp ∧ a.eval x = .slice (some ⟨q.bl, q.of + p, none⟩) n (q.cp - d) := ru; exact key hq e
theorem ex_index_arr (hA : A.Ok) (s : Sim E G V h w) (ht : TmR V tm nt a.tmps) {t : TypeId} {x y : Operand} (ho : o.op = .indexAddr t x y) {el : TypeId} {b p n j k : Nat} {kk : IntKind} (h1 : A.und t = some (.array n el))
    (hu : opd G tm x = some (.V (.C (.P (some (b, p)))))) (hj : opd G tm y = some (.V (.C (.I kk (.ofNat j))))) (hlt : j < n) (hk : A.size el = some k) :
    Snd E G A.P V h w (.val (.V (.C (.P (some (b, p + j * k))))) h) ((execOp a.eval o).run A.P w) := by
  have ej := int_of s ht hj
  obtain ⟨z, ⟨q, hq, rfl⟩, e⟩ : ∃ z, pR V (b, p) z ∧ a.eval x = .pointer (some z) := opd_rel s ht hu
  refine snd_of s (e := Instr.indexAt t (a.eval x) (a.eval y)) (m := .pointer (some ⟨q.bl, q.of + (p + j * k), none⟩)) (by simp only [execOp, ho]) ?_ ⟨_, ⟨q, hq, rfl⟩, rfl⟩
  unfold Instr.indexAt
  rw [ej, e]
  simp only [asIntOf, pure_bind]
  rw [run_und (hA.und h1)]
  simp only [Instr.sureAddr, pure_bind]
  rw [run_und (hA.und h1)]
  have hb : 0 ≤ Int.ofNat j ∧ Int.ofNat j < (n : Int) := by simp only [Int.ofNat_eq_natCast]; omega
  simp only [if_pos hb]
  rw [run_bind_ok (hA.size hk w), add_addr]
  simp [Nat.add_assoc]
theorem ex_extract (s : Sim E G V h w) (ht : TmR V tm nt a.tmps) {x : Operand} {i : Nat} (ho : o.op = .extract x i) {l : List A0} {z : A0} {r : List A0} (hu : opd G tm x = some (.U l)) (hi : l.drop i = z :: r) :
    Snd E G A.P V h w (.val (.V z) h) ((execOp a.eval o).run A.P w) := by
  obtain ⟨vs, hv, e⟩ : ∃ vs : List Value, All2 (A0.rel V) l vs ∧ a.eval x = .tuple vs.toArray := opd_rel s ht hu
  have hz : l[i]? = some z := by
    have := congrArg (·[0]?) hi
    simpa using this
  obtain ⟨v, r1, r2⟩ := hv.get hz
  refine snd_of s (e := Instr.extract (a.eval x) i) (m := v) (by simp only [execOp, ho]) ?_ r2
  rw [e]; simp [Instr.extract, r1]
theorem part_run (hA : A.Ok) {t : TypeId} {l : List Ce} {i : Nat} {z : AV} (q : partO A t l i = some z) {vs : List Value} (hv : All2 (Ce.rel V) l vs) (w : World) : ∃ v, (Go.part t vs.toArray i).run A.P w = .ok v w ∧ z.rel V v := by
  unfold partO at q
  cases hd : A.und t with
  | none => simp [hd] at q
  | some d =>
    simp only [hd] at q
    unfold Go.part
    rw [run_bind_ok (run_isAgg (hA.und hd) w)]
    cases ha : isAggD d with
    | true =>
      simp only [ha] at q ⊢
      cases hn : A.size t with
      | none => simp [hn] at q
      | some n =>
        simp only [hn, Option.some.injEq] at q
        subst q
        simp only [if_true]
        rw [run_bind_ok (hA.size hn w)]
        refine ⟨.agg (vs.toArray.extract i (i + n)), rfl, ((vs.drop i).take n), (hv.drop i).take n, ?_⟩
        congr 1
        apply Array.toList_inj.1
        simp
    | false =>
      simp only [ha] at q ⊢
      split at q
      case h_1 => cases q
      rename_i x r hr
      injection q with q; subst q
      have hz : l[i]? = some x := by
        have := congrArg (·[0]?) hr
        simpa using this
      obtain ⟨v, r1, r2⟩ := hv.get hz
      refine ⟨v, ?_, r2⟩
      simp [r1]
theorem ex_field (hA : A.Ok) (s : Sim E G V h w) (ht : TmR V tm nt a.tmps) {t : TypeId} {x : Operand} {i : Nat} (ho : o.op = .field t x i) {fs : Array Field} {l : List Ce} {g : Field} {r : Res X} (h1 : A.und t = some (.struct fs))
    (hu : opd G tm x = some (.V (.G l))) (hf : fieldAt fs.toList i = some g) (q : ov h (partO A g.type l g.offset) = some r) : Snd E G A.P V h w r ((execOp a.eval o).run A.P w) := by
  obtain ⟨vs, hv, e⟩ : ∃ vs : List Value, All2 (Ce.rel V) l vs ∧ a.eval x = .agg vs.toArray := opd_rel s ht hu
  refine ov_snd s q fun u hq => ?_
  obtain ⟨v, r1, r2⟩ := part_run hA hq hv w
  have hg : fs[i]? = some g := by rw [← Array.getElem?_toList]; exact fieldAt_get hf
  refine ⟨v, ?_, r2⟩
  have : execOp a.eval o = (do pure (.value (← Instr.field t (a.eval x) i))) := by simp only [execOp, ho]
  rw [this]
  refine run_bind_ok (w' := w) ?_
  unfold Instr.field
  rw [run_und (hA.und h1), e]
  simp only [hg, asAgg, pure_bind]
  exact r1
theorem ex_index_str (hA : A.Ok) (s : Sim E G V h w) (ht : TmR V tm nt a.tmps) {t : TypeId} {x y : Operand} (ho : o.op = .index t x y) {l : List UInt8} {j : Nat} {kk : IntKind} {b : UInt8} {r : List UInt8} (h1 : A.und t = some .string)
    (hu : opd G tm x = some (.V (.C (.S l)))) (hj : opd G tm y = some (.V (.C (.I kk (.ofNat j))))) (hd : l.drop j = b :: r) : Snd E G A.P V h w (.val (.V (.C (.I .u8 (.ofNat b.toNat)))) h) ((execOp a.eval o).run A.P w) := by
  have ej := int_of s ht hj
  have hz : l[j]? = some b := by
    have := congrArg (·[0]?) hd
    simpa using this
  refine snd_of s (e := Instr.index t (a.eval x) (a.eval y)) (m := .int .u8 (b.toNat : Nat)) (by simp only [execOp, ho]) ?_ rfl
  unfold Instr.index
  rw [ej, str_of s ht hu]
  simp only [asIntOf, pure_bind]
  rw [run_und (hA.und h1)]
  have hlt := (List.getElem?_eq_some_iff.1 hz).1
  have : (⟨l.toArray⟩ : ByteArray)[(Int.ofNat j).toNat]? = some b := by
    show (⟨l.toArray⟩ : ByteArray)[j]? = some b
    have h2 : j < (⟨l.toArray⟩ : ByteArray).size := by show j < l.toArray.size; simpa using hlt
    rw [getElem?_pos _ j h2]
    congr 1
    have := (List.getElem?_eq_some_iff.1 hz).2
    show l.toArray[j] = b
    simpa using this
  have h0 : 0 ≤ Int.ofNat j := Int.natCast_nonneg j
  simp only [if_pos h0, this]
  rfl
theorem ex_index_agg (hA : A.Ok) (s : Sim E G V h w) (ht : TmR V tm nt a.tmps) {t : TypeId} {x y : Operand} (ho : o.op = .index t x y) {el : TypeId} {l : List Ce} {j n k : Nat} {kk : IntKind} {r : Res X} (h1 : A.und t = some (.array n el))
    (hu : opd G tm x = some (.V (.G l))) (hj : opd G tm y = some (.V (.C (.I kk (.ofNat j))))) (hlt : j < n) (hk : A.size el = some k) (q : ov h (partO A el l (j * k)) = some r) : Snd E G A.P V h w r ((execOp a.eval o).run A.P w) := by
  have ej := int_of s ht hj
  obtain ⟨vs, hv, e⟩ : ∃ vs : List Value, All2 (Ce.rel V) l vs ∧ a.eval x = .agg vs.toArray := opd_rel s ht hu
  refine ov_snd s q fun u hq => ?_
  obtain ⟨v, r1, r2⟩ := part_run hA hq hv w
  refine ⟨v, ?_, r2⟩
  have : execOp a.eval o = (do pure (.value (← Instr.index t (a.eval x) (a.eval y)))) := by simp only [execOp, ho]
  rw [this]
  refine run_bind_ok (w' := w) ?_
  unfold Instr.index
  rw [ej, e]
  simp only [asIntOf, pure_bind]
  rw [run_und (hA.und h1)]
  have hb : 0 ≤ Int.ofNat j ∧ Int.ofNat j < (n : Int) := by simp only [Int.ofNat_eq_natCast]; omega
  simp only [if_pos hb]
  rw [run_bind_ok (hA.size hk w)]
  exact r1
end Ev
end Go.Proofs.YtlkgdpdnhnakoaaGreatDoor

namespace Go.Proofs.YtlkgdpdnhnakoaaGreatDoor
namespace Ev
variable {X : Type} {E : Xs X} {G : Nat} {A : Tab} {V : Vn} {h : Hp X} {w : World} {tm : T AV} {nt : Nat} {a : Act} {o : Oper}

/-! ### Bounds -/
def oR (V : Vn) : Option AV → Option Value → Prop
  | none, x => x = none
  | some v, x => ∃ u, v.rel V u ∧ x = some u
theorem optO_rel (s : Sim E G V h w) (ht : TmR V tm nt a.tmps) {x : Option Operand} {v : Option AV} (q : optO G tm x = some v) : oR V v (x.map a.eval) := by
  cases x with
  | none => cases q; rfl
  | some x =>
    simp only [optO] at q
    cases hv : opd G tm x with
    | none => simp [hv] at q
    | some u => simp only [hv, Option.some.injEq] at q; subst q; exact ⟨_, opd_rel s ht hv, rfl⟩
def bR (x : Option Value) (n d : Nat) : Prop := (x = none ∧ n = d) ∨ ∃ k, x = some (.int k (Int.ofNat n))
theorem bnd_rel {d n : Nat} {v : Option AV} {x : Option Value} (q : bnd d v = some n) (r : oR V v x) : bR x n d := by
  unfold bnd at q
  split at q
  case h_1 => injection q with q; exact .inl ⟨r, q.symm⟩
  case h_2 k m =>
    injection q with q; subst q
    obtain ⟨u, r1, r2⟩ := r
    have : u = .int k (Int.ofNat m) := r1
    exact .inr ⟨k, by rw [r2, this]⟩
  case h_3 => cases q
theorem run_sliceBound {P : Program} (k : IntKind) {n y : Nat} (hn : n ≤ y) (code : BoundsCode) (w : World) : (Instr.sliceBound (.int k (Int.ofNat n)) y code).run P w = .ok n w := by
  unfold Instr.sliceBound
  simp only [asIntOf, pure_bind]
  have : 0 ≤ Int.ofNat n ∧ Int.ofNat n ≤ (y : Int) := by simp only [Int.ofNat_eq_natCast]; omega
  rw [if_pos this]; rfl
theorem run_bounds {P : Program} (is : Bool) {len cap l r m : Nat} {low high max : Option Value} (hl : bR low l 0) (hr : bR high r len) (hm : (max = none ∧ m = cap) ∨ ((∃ k, max = some (.int k (Int.ofNat m))) ∧ high.isSome = true))
    (h1 : l ≤ r) (h2 : r ≤ m) (h3 : m ≤ cap) (w : World) : (Instr.sliceBounds is len cap low high max).run P w = .ok (l, r, m) w := by
  unfold Instr.sliceBounds
  rcases hm with ⟨rfl, rfl⟩ | ⟨⟨k, rfl⟩, hs⟩
  · simp only [pure_bind]
    rcases hr with ⟨rfl, rfl⟩ | ⟨k, rfl⟩
    · rcases hl with ⟨rfl, rfl⟩ | ⟨k', rfl⟩
      · rfl
      · simp only; rw [run_bind_ok (run_sliceBound k' h1 _ w)]; rfl
    · simp only; rw [run_bind_ok (run_sliceBound k h2 _ w)]
      rcases hl with ⟨rfl, rfl⟩ | ⟨k', rfl⟩
      · rfl
      · simp only; rw [run_bind_ok (run_sliceBound k' h1 _ w)]; rfl
  · simp only
    rw [run_bind_ok (run_sliceBound k h3 _ w)]
    rcases hr with ⟨rfl, rfl⟩ | ⟨k, rfl⟩
    · cases hs
    · simp only; rw [run_bind_ok (run_sliceBound k h2 _ w)]
      rcases hl with ⟨rfl, rfl⟩ | ⟨k', rfl⟩
      · rfl
      · simp only; rw [run_bind_ok (run_sliceBound k' h1 _ w)]; rfl

/-! ### x[lo:hi:mx] -/
def sliced (p : Option Addr) (k l r m : Nat) : Value := .slice (if m = l then p else p.map (·.add (l * k))) (r - l) (m - l)
theorem inside_le (s : Sim E G V h w) {k b o d n r : Nat} (q : inside h k b o d n r = true) {p : Pl} (hp : V b = some p) (hn : d + n ≤ p.cp) : d + r ≤ p.cp := by
  unfold inside at q
  split at q
  case h_1 hb => have := Nat.le_of_ble_eq_true hb; omega
  case h_2 =>
    split at q
    case h_2 => cases q
    rename_i t m k' hg
    split at q
    case h_2 => cases q
    rename_i e1 e2 e3 e4
    have e1' : k' = k := by simpa using e1
    have e2' : o = d * k := Nat.eq_of_beq_eq_true e2
    have e3' : o + r * k ≤ m := Nat.le_of_ble_eq_true e3
    have e4' : 1 ≤ k := Nat.le_of_ble_eq_true e4
    obtain ⟨p', hp', c, ty, fz, _, _, _, hsz, hext⟩ := s.ob _ _ hg
    rw [hp] at hp'; cases hp'
    have := hext k' rfl
    rw [e1'] at this
    subst e2'
    have h1 : (d + r) * k ≤ p.cp * k := by rw [Nat.add_mul]; omega
    exact Nat.le_of_mul_le_mul_right h1 (by omega)
theorem mkSlice_run (s : Sim E G V h w) {k : Nat} {pa : Option (Nat × Nat)} {n : Nat} {c : Cap} {lo hi mx : Option AV} {z : AV} {h' : Hp X} (q : mkSlice h k pa n c lo hi mx = some (z, h')) {p : Option Addr} {cap : Nat}
    (hv : (AV.V (.C (.L pa n c))).rel V (.slice p n cap)) {low high max : Option Value} (rl : oR V lo low) (rh : oR V hi high) (rm : oR V mx max) :
    ∃ l r m, bR low l 0 ∧ bR high r n ∧ ((max = none ∧ m = cap) ∨ ((∃ k, max = some (.int k (Int.ofNat m))) ∧ high.isSome = true)) ∧ l ≤ r ∧ r ≤ m ∧ m ≤ cap ∧
      ∃ V', z.rel V' (sliced p k l r m) ∧ Sim E G V' h' w ∧ Ext E V h w V' h' w := by
  unfold mkSlice at q
  split at q
  case h_2 => cases q
  rename_i l r e1 e2
  have b1 := bnd_rel e1 rl
  have b2 := bnd_rel e2 rh
  split at q
  case h_1 => cases q
  rename_i hlr
  have hlr' := Nat.le_of_ble_eq_true hlr
  split at q
  case h_1 =>
    have hmx : max = none := rm
    split at q
    case h_1 c =>
      have e : Value.slice p n cap = .slice none n c := hv
      injection e with e3 e4 e5; subst e3; subst e5
      split at q
      case h_1 => cases q
      rename_i hb
      injection q with q; injection q with q q'; subst q; subst q'
      refine ⟨l, r, cap, b1, b2, .inl ⟨hmx, rfl⟩, hlr', Nat.le_of_ble_eq_true hb, Nat.le_refl _, V, ?_, s, .refl E V h w⟩
      show sliced none k l r cap = .slice none (r - l) (cap - l)
      unfold sliced; split <;> rfl
    case h_2 b o c =>
      obtain ⟨x, ⟨pl, hp, rfl⟩, e⟩ : ∃ x, pR V (b, o) x ∧ Value.slice p n cap = .slice (some x) n c := hv
      injection e with e3 e4 e5; subst e3; subst e5
      split at q
      case h_1 => cases q
      rename_i hb
      have hb' := Nat.le_of_ble_eq_true hb
      split at q
      case h_1 he =>
        have he' : cap = l := Nat.eq_of_beq_eq_true he
        injection q with q; injection q with q q'; subst q; subst q'
        refine ⟨l, r, cap, b1, b2, .inl ⟨hmx, rfl⟩, hlr', hb', Nat.le_refl _, V, ⟨_, ⟨pl, hp, rfl⟩, ?_⟩, s, .refl E V h w⟩
        unfold sliced; rw [if_pos he']; rfl
      case h_2 he =>
        have he' : cap ≠ l := Nat.ne_of_beq_eq_false he
        injection q with q; injection q with q q'; subst q; subst q'
        refine ⟨l, r, cap, b1, b2, .inl ⟨hmx, rfl⟩, hlr', hb', Nat.le_refl _, V, ⟨_, ⟨pl, hp, rfl⟩, ?_⟩, s, .refl E V h w⟩
        unfold sliced; rw [if_neg he', Option.map_some, add_addr]; simp [Nat.add_assoc]
    case h_3 b o d =>
      obtain ⟨pl, hp, hd, e⟩ : ∃ q, V b = some q ∧ d + n ≤ q.cp ∧ Value.slice p n cap = .slice (some ⟨q.bl, q.of + o, none⟩) n (q.cp - d) := hv
      injection e with e3 e4 e5; subst e3; subst e5
      split at q
      case h_1 => cases q
      rename_i hin
      have hr := inside_le s hin hp hd
      split at q
      case h_1 =>
        injection q with q; injection q with q q'; subst q; subst q'
        refine ⟨0, r, pl.cp - d, b1, b2, .inl ⟨hmx, rfl⟩, Nat.zero_le _, by omega, Nat.le_refl _, V, ⟨pl, hp, hr, ?_⟩, s, .refl E V h w⟩
        unfold sliced
        simp only [Nat.zero_mul, Nat.sub_zero]
        split
        · rfl
        · rw [Option.map_some, add_addr]; rfl
      case h_2 l =>
        split at q
        case h_1 q1 q2 =>
          have q1' : n ≤ l + 1 := Nat.le_of_ble_eq_true q1
          have q2' : r ≤ l + 1 := Nat.le_of_ble_eq_true q2
          injection q with q; injection q with q q'; subst q; subst q'
          have hlr2 : r = l + 1 := by omega
          -- an empty slice at an end that may or may not be the block's: a name of its own
          let np : Pl := ⟨pl.bl, if pl.cp - d = l + 1 then pl.of + o else pl.of + o + (l + 1) * k, pl.cp - d - (l + 1), 0, 0⟩
          refine ⟨l + 1, r, pl.cp - d, b1, b2, .inl ⟨hmx, rfl⟩, hlr', by omega, Nat.le_refl _, named V h.next np, ⟨np, named_self _ _ _, Nat.zero_le _, ?_⟩, s.name np, ?_⟩
          · unfold sliced
            rw [hlr2, Nat.sub_self]
            by_cases hc : pl.cp - d = l + 1
            · rw [if_pos hc]; simp [np, hc]
            · rw [if_neg hc, Option.map_some, add_addr]; simp [np, hc]
          · exact ⟨named_le (s.new _ (Nat.le_refl _)), Nat.le_refl _, Nat.le_succ _, fun j _ hn => ⟨rfl, fun lv => hn (lv.name s)⟩, fun b hb => named_ne (Nat.ne_of_lt hb), ⟨rfl, rfl, rfl⟩⟩
        case h_2 hno =>
          injection q with q; injection q with q q'; subst q; subst q'
          have hne : pl.cp - d ≠ l + 1 := by
            intro e
            by_cases q1 : n ≤ l + 1
            · by_cases q2 : r ≤ l + 1
              · exact hno (Nat.ble_eq_true_of_le q1) (Nat.ble_eq_true_of_le q2)
              · omega
            · omega
          refine ⟨l + 1, r, pl.cp - d, b1, b2, .inl ⟨hmx, rfl⟩, hlr', by omega, Nat.le_refl _, V, ⟨pl, hp, ?_, ?_⟩, s, .refl E V h w⟩
          · show d + (l + 1) + (r - (l + 1)) ≤ pl.cp; omega
          · unfold sliced
            rw [if_neg hne, Option.map_some, add_addr]
            show Value.slice _ _ _ = .slice _ _ (pl.cp - (d + (l + 1)))
            simp [Nat.add_assoc]; omega
    case h_4 => cases q
  case h_2 mv =>
    split at q
    case h_3 => cases q
    case h_1 m b o hv' e3 =>
      obtain ⟨uh, _, hhi⟩ : ∃ u, hv'.rel V u ∧ high = some u := rh
      have b3 := bnd_rel e3 rm
      have hm3 : ∃ k, max = some (.int k (Int.ofNat m)) := by
        rcases b3 with ⟨e, _⟩ | q
        · obtain ⟨u, _, e'⟩ := rm; rw [e] at e'; cases e'
        · exact q
      split at q
      case h_2 => cases q
      rename_i c1 c2
      have c2' := Nat.le_of_ble_eq_true c2
      have key : ∀ {pl : Pl}, V b = some pl → p = some ⟨pl.bl, pl.of + o, none⟩ → m ≤ cap → ∃ V', z.rel V' (sliced p k l r m) ∧ Sim E G V' h' w ∧ Ext E V h w V' h' w := fun {pl} hp hpe _ => by
        subst hpe
        split at q
        case h_1 he =>
          have he' : m = l := Nat.eq_of_beq_eq_true he
          injection q with q; injection q with q q'; subst q; subst q'
          refine ⟨V, ⟨_, ⟨pl, hp, rfl⟩, ?_⟩, s, .refl E V h w⟩
          unfold sliced; rw [if_pos he']; rfl
        case h_2 he =>
          have he' : m ≠ l := Nat.ne_of_beq_eq_false he
          injection q with q; injection q with q q'; subst q; subst q'
          refine ⟨V, ⟨_, ⟨pl, hp, rfl⟩, ?_⟩, s, .refl E V h w⟩
          unfold sliced; rw [if_neg he', Option.map_some, add_addr]; simp [Nat.add_assoc]
      have hcap : m ≤ cap ∧ ∃ pl, V b = some pl ∧ p = some ⟨pl.bl, pl.of + o, none⟩ := by
        cases c with
        | k c =>
          obtain ⟨x, ⟨pl, hp, rfl⟩, e⟩ : ∃ x, pR V (b, o) x ∧ Value.slice p n cap = .slice (some x) n c := hv
          injection e with e3 e4 e5; subst e3; subst e5
          exact ⟨Nat.le_of_ble_eq_true c1, pl, hp, rfl⟩
        | e d =>
          obtain ⟨pl, hp, hd, e⟩ : ∃ q, V b = some q ∧ d + n ≤ q.cp ∧ Value.slice p n cap = .slice (some ⟨q.bl, q.of + o, none⟩) n (q.cp - d) := hv
          injection e with e3 e4 e5; subst e3; subst e5
          have := Nat.le_of_ble_eq_true c1
          exact ⟨by omega, pl, hp, rfl⟩
      obtain ⟨hc, pl, hp, hpe⟩ := hcap
      exact ⟨l, r, m, b1, b2, .inr ⟨hm3, by rw [hhi]; rfl⟩, hlr', c2', hc, key hp hpe hc⟩
    case h_2 m hv' e3 =>
      obtain ⟨uh, _, hhi⟩ : ∃ u, hv'.rel V u ∧ high = some u := rh
      have b3 := bnd_rel e3 rm
      have hm3 : ∃ k, max = some (.int k (Int.ofNat m)) := by
        rcases b3 with ⟨e, _⟩ | q
        · obtain ⟨u, _, e'⟩ := rm; rw [e] at e'; cases e'
        · exact q
      split at q
      case h_2 => cases q
      rename_i c
      have e : Value.slice p n cap = .slice none n c := hv
      injection e with e3 e4 e5; subst e3; subst e5
      split at q
      case h_2 => cases q
      rename_i c1 c2
      injection q with q; injection q with q q'; subst q; subst q'
      refine ⟨l, r, m, b1, b2, .inr ⟨hm3, by rw [hhi]; rfl⟩, hlr', Nat.le_of_ble_eq_true c2, Nat.le_of_ble_eq_true c1, V, ?_, s, .refl E V h w⟩
      show sliced none k l r m = .slice none (r - l) (m - l)
      unfold sliced; split <;> rfl
theorem ex_slice (hA : A.Ok) (s : Sim E G V h w) (ht : TmR V tm nt a.tmps) {t el : TypeId} {x : Operand} {lo hi mx : Option Operand} (ho : o.op = .slice t x lo hi mx) {k n : Nat} {pa : Option (Nat × Nat)} {c : Cap} {lo' hi' mx' : Option AV} {z : AV} {h' : Hp X}
    (h1 : A.und t = some (.slice el)) (hu : opd G tm x = some (.V (.C (.L pa n c)))) (hl : optO G tm lo = some lo') (hh : optO G tm hi = some hi') (hm : optO G tm mx = some mx') (hk : A.size el = some k) (q : mkSlice h k pa n c lo' hi' mx' = some (z, h')) :
    Snd E G A.P V h w (.val z h') ((execOp a.eval o).run A.P w) := by
  have ru := opd_rel s ht hu
  have key : ∀ {p : Option Addr} {cap : Nat}, a.eval x = .slice p n cap → Snd E G A.P V h w (.val z h') ((execOp a.eval o).run A.P w) := fun {p cap} e => by
    rw [e] at ru
    obtain ⟨l, r, m, b1, b2, b3, q1, q2, q3, V', r1, r2, r3⟩ := mkSlice_run s q ru (optO_rel s ht hl) (optO_rel s ht hh) (optO_rel s ht hm)
    refine ⟨sliced p k l r m, w, V', ?_, r1, r2, r3⟩
    have : execOp a.eval o = (Instr.sliceAt t (a.eval x) (lo.map a.eval) (hi.map a.eval) (mx.map a.eval) >>= fun z => (pure (Next.value z) : Sem Next)) := by simp only [execOp, ho]
    rw [this]
    refine run_bind_ok (w' := w) ?_
    unfold Instr.sliceAt
    rw [run_und (hA.und h1)]
    simp only
    unfold Instr.slice
    rw [run_und (hA.und h1), e]
    simp only
    rw [run_bind_ok (run_bounds true b1 b2 b3 q1 q2 q3 w)]
    simp only
    rw [run_bind_ok (hA.size hk w)]
    rfl
  cases pa with
  | none => cases c with
    | k c => exact key (show a.eval x = .slice none n c from ru)
    | e d => exact (show False from ru).elim
  | some b => cases c with
    | k c => obtain ⟨y, hy, e⟩ : ∃ y, pR V b y ∧ a.eval x = .slice (some y) n c := ru; exact key e
    | e d => obtain ⟨p', hp, _, e⟩ : ∃ p', V b.1 = some p' ∧ d + n ≤ p'.cp ∧ a.eval x = .slice (some ⟨p'.bl, p'.of + b.2, none⟩) n (p'.cp - d) := ru; exact key e
theorem ex_slice_arr (hA : A.Ok) (s : Sim E G V h w) (ht : TmR V tm nt a.tmps) {t el : TypeId} {x : Operand} {lo hi mx : Option Operand} (ho : o.op = .slice t x lo hi mx) {k n : Nat} {b : Nat × Nat} {lo' hi' mx' : Option AV} {z : AV} {h' : Hp X}
    (h1 : A.und t = some (.array n el)) (hu : opd G tm x = some (.V (.C (.P (some b))))) (hl : optO G tm lo = some lo') (hh : optO G tm hi = some hi') (hm : optO G tm mx = some mx') (hk : A.size el = some k) (q : mkSlice h k (some b) n (.k n) lo' hi' mx' = some (z, h')) :
    Snd E G A.P V h w (.val z h') ((execOp a.eval o).run A.P w) := by
  obtain ⟨y, hy, e⟩ : ∃ y, pR V b y ∧ a.eval x = .pointer (some y) := opd_rel s ht hu
  obtain ⟨l, r, m, b1, b2, b3, q1, q2, q3, V', r1, r2, r3⟩ := mkSlice_run s q (p := some y) (cap := n) ⟨y, hy, rfl⟩ (optO_rel s ht hl) (optO_rel s ht hh) (optO_rel s ht hm)
  refine ⟨sliced (some y) k l r m, w, V', ?_, r1, r2, r3⟩
  have : execOp a.eval o = (Instr.sliceAt t (a.eval x) (lo.map a.eval) (hi.map a.eval) (mx.map a.eval) >>= fun z => (pure (Next.value z) : Sem Next)) := by simp only [execOp, ho]
  rw [this]
  refine run_bind_ok (w' := w) ?_
  unfold Instr.sliceAt
  rw [run_und (hA.und h1), e]
  simp only [Instr.sureAddr, pure_bind]
  rw [run_bind_ok (run_bounds false b1 b2 b3 q1 q2 q3 w)]
  simp only
  rw [run_bind_ok (hA.size hk w)]
  unfold sliced
  split <;> rfl
theorem ex_slice_str (hA : A.Ok) (s : Sim E G V h w) (ht : TmR V tm nt a.tmps) {t : TypeId} {x : Operand} {lo hi : Option Operand} (ho : o.op = .slice t x lo hi none) {l : List UInt8} {i j : Nat} {lo' hi' : Option AV}
    (h1 : A.und t = some .string) (hu : opd G tm x = some (.V (.C (.S l)))) (hl : optO G tm lo = some lo') (hh : optO G tm hi = some hi') (hi1 : bnd 0 lo' = some i) (hj1 : bnd l.length hi' = some j) (hij : i ≤ j) (hjl : j ≤ l.length) :
    Snd E G A.P V h w (.val (.V (.C (.S ((l.take j).drop i)))) h) ((execOp a.eval o).run A.P w) := by
  refine snd_of s (e := Instr.sliceAt t (a.eval x) (lo.map a.eval) (hi.map a.eval) none) (m := .string ⟨((l.take j).drop i).toArray⟩) (by simp only [execOp, ho]; rfl) ?_ rfl
  have hsz : (⟨l.toArray⟩ : ByteArray).size = l.length := by show l.toArray.size = _; simp
  unfold Instr.sliceAt
  rw [run_und (hA.und h1), str_of s ht hu]
  simp only
  unfold Instr.slice
  rw [run_und (hA.und h1)]
  simp only [Option.isSome_none, Bool.false_eq_true, if_false]
  have hb := run_bounds (P := A.P) false (len := (⟨l.toArray⟩ : ByteArray).size) (cap := (⟨l.toArray⟩ : ByteArray).size) (m := (⟨l.toArray⟩ : ByteArray).size) (bnd_rel hi1 (optO_rel s ht hl)) (by rw [hsz]; exact bnd_rel hj1 (optO_rel s ht hh)) (.inl ⟨rfl, rfl⟩) hij (by rw [hsz]; exact hjl) (Nat.le_refl _) w
  rw [run_bind_ok hb]
  show Result.ok _ w = _
  congr 2
  have hd : ((⟨l.toArray⟩ : ByteArray).extract i j).data = ((l.take j).drop i).toArray := by
    rw [ByteArray.data_extract]
    apply Array.toList_inj.1
    rw [Array.toList_extract]
    simp only [List.extract_eq_drop_take']
  cases hx : (⟨l.toArray⟩ : ByteArray).extract i j with
  | mk d => rw [hx] at hd; rw [← hd]
end Ev
end Go.Proofs.YtlkgdpdnhnakoaaGreatDoor

namespace Go.Proofs.YtlkgdpdnhnakoaaGreatDoor
namespace Ev
variable {X : Type} {E : Xs X} {G : Nat} {A : Tab} {V : Vn} {h : Hp X} {w : World} {tm : T AV} {nt : Nat} {a : Act} {o : Oper}

theorem run_newVar {P : Program} (t : TypeId) (v : Value) (w : World) : (newVar t v).run P w = .ok ⟨w.heap.size, 0, none⟩ { w with heap := w.heap.push (.cells v.cells t (0, 0)) } := rfl
theorem run_newRow {P : Program} (t : TypeId) (c : Array Value) (w : World) : (newRow t c).run P w = .ok ⟨w.heap.size, 0, none⟩ { w with heap := w.heap.push (.cells c t (0, 0)) } := rfl
/-- A new variable. -/
theorem newVar_sim (s : Sim E G V h w) {z : A0} {v : Value} (hv : z.rel V v) (t : TypeId) {n : Nat} (hn : n = z.cells.length) :
    Sim E G (named V h.next ⟨w.heap.size, 0, n, 0, 0⟩) (h.add (.cells (T.ofL z.cells) n none)) { w with heap := w.heap.push (.cells v.cells t (0, 0)) } ∧
      Ext E V h w (named V h.next ⟨w.heap.size, 0, n, 0, 0⟩) (h.add (.cells (T.ofL z.cells) n none)) { w with heap := w.heap.push (.cells v.cells t (0, 0)) } :=
  newCells s (rest := []) (A0.rel.cells hv) t 1 n (by simp [hn]) none (fun _ e => by cases e) (0, 0) (.inl rfl) _ (by simp) hn (fun i x _ g => T.get_ofL g)
theorem ex_alloc (hA : A.Ok) (s : Sim E G V h w) {t : TypeId} (ho : o.op = .alloc t) {z : A0} (hz : A.zero t = some z) :
    Snd E G A.P V h w (.val (.V (.C (.P (some (h.next, 0))))) (h.add (.cells (T.ofL z.cells) z.cells.length none))) ((execOp a.eval o).run A.P w) := by
  obtain ⟨v, r1, r2⟩ := zero_run (V := V) hA hz w
  obtain ⟨s1, s2⟩ := newVar_sim s r2 t rfl
  refine ⟨_, _, _, ?_, ⟨_, pNew _ _ _ _, rfl⟩, s1, s2⟩
  have : execOp a.eval o = (Instr.alloc t true (.tuple #[]) >>= fun z => (pure (Next.value z) : Sem Next)) := by simp only [execOp, ho]
  rw [this]
  refine run_bind_ok ?_
  unfold Instr.alloc
  rw [run_bind_ok r1]
  simp only
  rw [run_bind_ok (run_newVar t v w)]
  rfl
theorem ex_box (s : Sim E G V h w) (ht : TmR V tm nt a.tmps) {t : TypeId} {x : Operand} (ho : o.op = .box t x) {z : A0} (hu : opd G tm x = some (.V z)) :
    Snd E G A.P V h w (.val (.V (.C (.P (some (h.next, 0))))) (h.add (.cells (T.ofL z.cells) z.cells.length none))) ((execOp a.eval o).run A.P w) := by
  have ru : z.rel V (a.eval x) := opd_rel s ht hu
  obtain ⟨s1, s2⟩ := newVar_sim s ru t rfl
  refine ⟨_, _, _, ?_, ⟨_, pNew _ _ _ _, rfl⟩, s1, s2⟩
  have : execOp a.eval o = (Instr.box t (a.eval x) >>= fun z => (pure (Next.value z) : Sem Next)) := by simp only [execOp, ho]
  rw [this]
  refine run_bind_ok ?_
  unfold Instr.box
  rw [run_bind_ok (run_newVar t _ w)]
  rfl
theorem ex_load (hA : A.Ok) (s : Sim E G V h w) (ht : TmR V tm nt a.tmps) {t : TypeId} {x : Operand} (ho : o.op = .load t x) {b p : Nat} (hu : opd G tm x = some (.V (.C (.P (some (b, p)))))) {r : Res X} (q : ov h (loadAt A h t b p) = some r) :
    Snd E G A.P V h w r ((execOp a.eval o).run A.P w) := by
  obtain ⟨y, hy, e⟩ : ∃ y, pR V (b, p) y ∧ a.eval x = .pointer (some y) := opd_rel s ht hu
  refine ov_snd s q fun z hz => ?_
  obtain ⟨u, r1, r2⟩ := loadAt_run hA s hz hy
  refine ⟨u, ?_, r2⟩
  have : execOp a.eval o = (Instr.loadAt t (a.eval x) >>= fun z => (pure (Next.value z) : Sem Next)) := by simp only [execOp, ho]
  rw [this]
  refine run_bind_ok (w' := w) ?_
  unfold Instr.loadAt
  rw [e]
  exact r1
theorem ex_store (hA : A.Ok) (s : Sim E G V h w) (ht : TmR V tm nt a.tmps) {t : TypeId} {x y : Operand} (ho : o.op = .store t x y) {b p n : Nat} {z : A0} {h' : Hp X} (hx : opd G tm x = some (.V (.C (.P (some (b, p)))))) (hy : opd G tm y = some (.V z)) (hn : A.size t = some n)
    (hl : z.cells.length = n) (q : storeAt h b p z.cells = some h') : Snd E G A.P V h w (.skip h') ((execOp a.eval o).run A.P w) := by
  obtain ⟨u, hu, e⟩ : ∃ y, pR V (b, p) y ∧ a.eval x = .pointer (some y) := opd_rel s ht hx
  have rz : z.rel V (a.eval y) := opd_rel s ht hy
  have rc := A0.rel.cells rz
  obtain ⟨w', r1, r2, r3⟩ := storeAt_run (P := A.P) s q hu rc
  refine ⟨w', V, ?_, r2, r3⟩
  have : execOp a.eval o = (Instr.storeAt t (a.eval x) (a.eval y) >>= fun _ => (pure Next.skip : Sem Next)) := by simp only [execOp, ho]
  rw [this]
  refine run_unit ?_
  unfold Instr.storeAt
  rw [e]
  simp only [Instr.sureAddr, pure_bind]
  unfold storeVar
  rw [run_bind_ok (hA.size hn w)]
  have : (a.eval y).cells.size = n := by rw [← hl, rc.length]; simp
  simp only [this, ne_eq, not_true_eq_false, if_false]
  exact r1

/-! ### Rows of cells that are copied -/
theorem run_firstCells {k n : Nat} {x : Ce} {l : List Ce} (s : Sim E G V h w) (q : rowOf h k x n = some l) {v : Value} (hv : x.rel V v) : ∃ vs : List Value, All2 (Ce.rel V) l vs ∧ ∀ w', w'.heap = w.heap → (Builtin.firstCells k n v).run A.P w' = .ok vs.toArray w' := by
  have slc : ∀ {b o : Nat} {m : Nat} {c : Cap}, x = .L (some (b, o)) m c → ∃ vs : List Value, All2 (Ce.rel V) l vs ∧ ∀ w', w'.heap = w.heap → (Builtin.firstCells k n v).run A.P w' = .ok vs.toArray w' := fun {b o m c} e => by
    subst e
    have hp : ∃ p : Pl, V b = some p ∧ ∃ cap, v = .slice (some ⟨p.bl, p.of + o, none⟩) m cap := by
      cases c with
      | k c => obtain ⟨y, ⟨p, hp, rfl⟩, e⟩ := hv; exact ⟨p, hp, c, e⟩
      | e d => obtain ⟨p, hp, _, e⟩ := hv; exact ⟨p, hp, _, e⟩
    obtain ⟨p, hp, cap, rfl⟩ := hp
    unfold rowOf at q
    split at q
    case h_1 e => cases e
    case h_3 e => cases e
    case h_4 => rename_i q1 q2 q3; exact (q2 _ _ _ _ rfl).elim
    case h_2 b' o' _ _ e =>
      injection e with e1 e2 e3
      injection e1 with e1
      injection e1 with e1 e1'
      subst e1; subst e1'
      split at q
      case h_1 =>
        injection q with q; subst q
        exact ⟨[], trivial, fun _ _ => by simp [Builtin.firstCells, loadCells, loadCellsFrom]⟩
      case h_2 =>
        split at q
        case h_2 => cases q
        rename_i t m' ext hg
        split at q
        case h_2 => cases q
        rename_i hle
        obtain ⟨p', hp', c', ty, fz, hc, _, hcr⟩ := s.ob _ _ hg
        rw [hp] at hp'; cases hp'
        obtain ⟨vs, r1, r2, r3⟩ := hcr.getL (Nat.le_of_ble_eq_true hle) q
        exact ⟨vs, r1, fun w' hw' => run_loadCells (o := p.of + o) (by rw [hw']; exact hc) r2 (fun k v hk => r3 k v hk)⟩
  unfold rowOf at q
  split at q
  case h_1 m c =>
    split at q
    case h_2 => cases q
    injection q with q; subst q
    refine ⟨[], trivial, fun _ _ => ?_⟩
    cases c with
    | k c => have : v = .slice none m c := hv; subst this; rfl
    | e d => exact (show False from hv).elim
  case h_2 b o m c => exact slc rfl
  case h_3 l' =>
    split at q
    case h_2 => cases q
    injection q with q; subst q
    have : v = .string ⟨l'.toArray⟩ := hv
    subst this
    refine ⟨(l'.take n).map fun b => .int .u8 (b.toNat : Nat), ?_, fun w' _ => ?_⟩
    · induction l'.take n with
      | nil => trivial
      | cons b r ih => exact ⟨rfl, ih⟩
    · show Result.ok _ w' = _
      congr 1
      apply Array.toList_inj.1
      have hd : ((⟨l'.toArray⟩ : ByteArray).extract 0 n).data.toList = l'.take n := by
        rw [ByteArray.data_extract, Array.toList_extract]
        simp
      simp
  case h_4 => cases q
end Ev
end Go.Proofs.YtlkgdpdnhnakoaaGreatDoor

namespace Go.Proofs.YtlkgdpdnhnakoaaGreatDoor
namespace Ev
variable {X : Type} {E : Xs X} {G : Nat} {A : Tab} {V : Vn} {h : Hp X} {w : World} {tm : T AV} {nt : Nat} {a : Act} {o : Oper}

theorem elt_ok (hA : A.Ok) {e : TypeId} {k : Nat} {zl : List Ce} (q : A.elt e = some (k, zl)) :
    ∃ i : TypeInfo, A.P.info? e = some i ∧ i.size = k ∧ 1 ≤ k ∧ i.bytes ≤ 65536 ∧ ∃ v, i.zero = some v ∧ zl.length = k ∧ ∀ V, All2 (Ce.rel V) zl v.cells.toList := by
  unfold Tab.elt at q
  cases hi : A.ty.get e with
  | none => simp [hi] at q
  | some i =>
    simp only [hi] at q
    cases hz : i.zero with
    | none => simp [hz] at q
    | some v =>
      simp only [hz] at q
      cases ha : a0Of v with
      | none => simp [ha] at q
      | some z =>
        simp only [ha] at q
        split at q
        case h_2 => cases q
        rename_i e1 e2 e3
        injection q with q; injection q with q1 q2
        subst q1; subst q2
        exact ⟨i, hA.ty _ _ hi, rfl, Nat.le_of_ble_eq_true e1, Nat.le_of_ble_eq_true e2, v, hz, Nat.eq_of_beq_eq_true e3, fun V => A0.rel.cells (a0Of_rel (V := V) ha)⟩
theorem run_info {P : Program} {t : TypeId} {i : TypeInfo} (h : P.info? t = some i) (w : World) {β : Type} (f : TypeInfo → Sem β) : (typeInfo t >>= f).run P w = (f i).run P w := run_bind_ok (run_typeInfo w h)
theorem run_size {P : Program} {t : TypeId} {i : TypeInfo} (h : P.info? t = some i) (w : World) : (sizeOf t).run P w = .ok i.size w := by
  rw [run_sizeOf (w := w) h, Program.cellsOf, h]; rfl
theorem run_zero {P : Program} {t : TypeId} {i : TypeInfo} {v : Value} (h : P.info? t = some i) (hz : i.zero = some v) (w : World) : (zeroValue t).run P w = .ok v w := by
  unfold zeroValue; rw [run_info h, hz]; rfl
theorem rep_length (n : Nat) (l : List Ce) : (rep n l).length = n * l.length := by
  induction n with
  | zero => simp [rep]
  | succ n ih => simp only [rep, List.length_append, ih]; rw [Nat.add_mul, Nat.one_mul, Nat.add_comm]
theorem rep_get (n : Nat) (l : List Ce) (i : Nat) (hi : i < n * l.length) : (rep n l)[i]? = l[i % l.length]? := by
  induction n generalizing i with
  | zero => simp at hi
  | succ n ih =>
    simp only [rep]
    have hl : 0 < l.length := by
      rcases Nat.eq_zero_or_pos l.length with h0 | h0
      · rw [h0] at hi; simp at hi
      · exact h0
    rcases Nat.lt_or_ge i l.length with hlt | hge
    · rw [List.getElem?_append_left hlt, Nat.mod_eq_of_lt hlt]
    · rw [List.getElem?_append_right hge, ih (i - l.length) (by rw [Nat.add_mul, Nat.one_mul] at hi; omega), Nat.mod_eq_sub_mod hge]
theorem zeroCells_size (z : Array Value) (n : Nat) : (Builtin.zeroCells z n).size = n * z.size := by simp [Builtin.zeroCells]
theorem zeros_rel {z : Array Value} {zl : List Ce} (hz : All2 (Ce.rel V) zl z.toList) (n m : Nat) (hm : m = n * z.size) : All2 (Ce.rel V) (rep n zl) ((Array.range m).map (fun i => z[i % z.size]!)).toList := by
  have hlen := hz.length
  simp only [Array.length_toList] at hlen
  refine All2.of_get (by simp [rep_length, hlen, hm]) fun i c hc => ?_
  have hi : i < n * zl.length := by have := (List.getElem?_eq_some_iff.1 hc).1; rw [rep_length] at this; exact this
  rw [rep_get n zl i hi] at hc
  obtain ⟨v, r1, r2⟩ := hz.get hc
  have hi2 : i < m := by rw [hm, ← hlen]; exact hi
  have hpos : i % z.size < z.size := by have := (List.getElem?_eq_some_iff.1 r1).1; rw [hlen] at this; simpa using this
  refine ⟨v, ?_, r2⟩
  rw [hlen] at r1
  have hr : (Array.range m)[i]? = some i := by simp [hi2]
  rw [Array.toList_map, List.getElem?_map, Array.getElem?_toList, hr]
  simp only [Option.map_some]
  congr 1
  rw [getElem!_pos z _ hpos]
  rw [Array.getElem?_toList, Array.getElem?_eq_getElem hpos] at r1
  exact Option.some.inj r1
theorem nextcap_le (need c : Nat) (h : c < need) : Builtin.nextslicecap need c ≤ 2 * need + 1024 := by
  unfold Builtin.nextslicecap
  split
  · omega
  · split
    · omega
    · have step : ∀ r c, c < need ∨ c ≤ 2 * need + 1024 → Builtin.growBy need r c ≤ 2 * need + 1024 := by
        intro r
        induction r with
        | zero =>
          intro c hc
          unfold Builtin.growBy
          omega
        | succ r ih =>
          intro c hc
          unfold Builtin.growBy
          split
          · omega
          · exact ih _ (.inr (by omega))
      exact step 4 c (.inl h)
theorem i64_max : IntKind.i64.max = 9223372036854775807 := rfl
theorem run_askRoom {P : Program} (n : Nat) (w : World) : (askRoom n).run P w = .ok () w := by
  unfold askRoom; split <;> rfl
theorem run_choose_cap {P : Program} (need old : Nat) (e : TypeId) (w : World) : ∃ c, need ≤ c ∧ (choose (.appendCap need old e)).run P w = .ok c { w with drawn := w.drawn + 1 } := by
  refine ⟨need + w.tape w.drawn (.appendCap need old e) % (2 ^ 63 - need), Nat.le_add_right _ _, ?_⟩
  simp [choose, Sem.run, Question.forced, Question.cut]

section
variable {P : Program} {t u e ty : TypeId} {d : TypeDesc} {i : TypeInfo} {x zv : Value} {n m cap : Nat} {news olds : Array Value}
/-- append where there is room. -/
theorem append_fit (ht : P.underlying t = some (.slice e)) (hu : P.underlying u = some d) (hi : P.info? e = some i) (hd : isIntD d = false) (hl : (Builtin.lenOf x).run P w = .ok m w) (hf : (Builtin.firstCells i.size m x).run P w = .ok news w)
    (hr : n + m ≤ cap) (b : Option Addr) : (Builtin.append_ #[t, u] ty #[.slice b n cap, x]).run P w = (match b with | some a => (storeCells (a.add (n * i.size)) news.toList).run P w | none => .ok () w).andThen fun _ w' => .ok (.slice b (n + m) cap) w' := by
  unfold Builtin.append_
  simp only [List.getElem?_toArray, List.getElem?_cons_zero, List.getElem?_cons_succ]
  rw [run_und ht]
  simp only
  rw [run_bind_ok (run_size hi w), run_und hu]
  cases d <;> first
    | (cases hd; done)
    | (simp only [pure_bind, Bool.false_eq_true, if_false, Bool.not_false, if_true]
       rw [run_bind_ok hl]
       simp only [if_pos hr]
       rw [run_bind_ok hf]
       cases b with
       | none => rfl
       | some a => simp only; rw [Sem.run_bind]; rfl)
/-- append where there is no room. -/
theorem append_grow (ht : P.underlying t = some (.slice e)) (hu : P.underlying u = some d) (hi : P.info? e = some i) (hzv : i.zero = some zv) (hd : isIntD d = false) (hl : (Builtin.lenOf x).run P w = .ok m w) (hr : cap < n + m) (hn : n + m ≤ 16777216) (hby : i.bytes ≤ 65536)
    {b : Option Addr} (hf : ∀ w', w'.heap = w.heap → (Builtin.firstCells i.size m x).run P w' = .ok news w') (ho : ∀ w', w'.heap = w.heap → (Builtin.firstCells i.size n (.slice b n cap)).run P w' = .ok olds w') :
    ∃ c, n + m ≤ c ∧ (Builtin.append_ #[t, u] ty #[.slice b n cap, x]).run P w =
      .ok (.slice (some ⟨w.heap.size, 0, none⟩) (n + m) c) { w with drawn := w.drawn + 1, heap := w.heap.push (.cells (olds ++ news ++ Builtin.zeroCells zv.cells (c - (n + m))) e (0, 0)) } := by
  obtain ⟨c, hc1, hc2⟩ := run_choose_cap (P := P) (n + m) cap e w
  refine ⟨c, hc1, ?_⟩
  unfold Builtin.append_
  simp only [List.getElem?_toArray, List.getElem?_cons_zero, List.getElem?_cons_succ]
  rw [run_und ht]
  simp only
  rw [run_bind_ok (run_size hi w), run_und hu]
  have hno : ¬ n + m ≤ cap := by omega
  have h1 : ¬ (((n + m : Nat) : Int) > IntKind.i64.max ∧ (False ∨ i.bytes = 0)) := by rw [i64_max]; omega
  have h2 : ¬ (Builtin.nextslicecap (n + m) cap * i.bytes > 2 ^ 48) := by
    have := nextcap_le (n + m) cap hr
    have h3 : Builtin.nextslicecap (n + m) cap * i.bytes ≤ (2 * 16777216 + 1024) * 65536 := Nat.mul_le_mul (by omega) hby
    omega
  cases d <;> first
    | (cases hd; done)
    | (simp only [pure_bind, Bool.false_eq_true, if_false, Bool.not_false, if_true]
       rw [run_bind_ok hl]
       simp only [if_neg hno]
       rw [run_info hi]
       simp only [if_neg h1]
       rw [run_info hi]
       simp only [if_neg h2]
       rw [run_bind_ok hc2, run_info hi, run_bind_ok (run_askRoom _ _), run_bind_ok (ho { w with drawn := w.drawn + 1 } rfl), run_bind_ok (hf { w with drawn := w.drawn + 1 } rfl), run_bind_ok (run_zero hi hzv _), run_bind_ok (run_newRow _ _ _)]
       rfl)
theorem append_fit0 {k : IntKind} (ht : P.underlying t = some (.slice e)) (hu : P.underlying u = some (.int k)) (hi : P.info? e = some i) (hz : i.zero = some zv) (hm : m ≤ 16777216) (hby : m * i.bytes ≤ 281474976710656) (hs : m * i.size ≠ 0)
    (hr : n + m ≤ cap) (b : Option Addr) : (Builtin.append_ #[t, u] ty #[.slice b n cap, .int .i64 (m : Int)]).run P w = (match b with | some a => (storeCells (a.add (n * i.size)) (Builtin.zeroCells zv.cells m).toList).run P w | none => .ok () w).andThen fun _ w' => .ok (.slice b (n + m) cap) w' := by
  have hw : IntKind.i64.wrap (m : Int) = (m : Int) := wrap_i64 (by omega) (by omega)
  have h1 : ¬ ((m : Int) < 0) := by omega
  have h2 : ¬ ((m : Int) * (i.bytes : Int) > 281474976710656) := by rw [← Int.natCast_mul]; omega
  have h2' : ¬ (281474976710656 < (m : Int) * (i.bytes : Int)) := h2
  unfold Builtin.append_
  simp only [List.getElem?_toArray, List.getElem?_cons_zero, List.getElem?_cons_succ]
  rw [run_und ht]
  simp only
  rw [run_bind_ok (run_size hi w), run_und hu]
  simp only [pure_bind, Bool.not_true, Bool.false_eq_true, if_false, if_true, asInt, asIntOf, hw, if_neg h1]
  rw [run_info hi]
  have h2'' : ¬ ((m : Int) * (i.bytes : Int) > 2 ^ 48) := h2
  simp only [if_neg h2'', Int.toNat_natCast, if_pos hr, if_neg hs]
  rw [run_bind_ok (run_bind_ok (run_zero hi hz w))]
  cases b with
  | none => rfl
  | some a => simp only; rw [Sem.run_bind]; rfl
theorem append_grow0 {k : IntKind} (ht : P.underlying t = some (.slice e)) (hu : P.underlying u = some (.int k)) (hi : P.info? e = some i) (hzv : i.zero = some zv) (hm : m ≤ 16777216) (hmb : m * i.bytes ≤ 281474976710656) (hs : m * i.size ≠ 0)
    (hr : cap < n + m) (hn : n + m ≤ 16777216) (hby : i.bytes ≤ 65536) {b : Option Addr} (ho : ∀ w', w'.heap = w.heap → (Builtin.firstCells i.size n (.slice b n cap)).run P w' = .ok olds w') :
    ∃ c, n + m ≤ c ∧ (Builtin.append_ #[t, u] ty #[.slice b n cap, .int .i64 (m : Int)]).run P w =
      .ok (.slice (some ⟨w.heap.size, 0, none⟩) (n + m) c) { w with drawn := w.drawn + 1, heap := w.heap.push (.cells (olds ++ Builtin.zeroCells zv.cells m ++ Builtin.zeroCells zv.cells (c - (n + m))) e (0, 0)) } := by
  obtain ⟨c, hc1, hc2⟩ := run_choose_cap (P := P) (n + m) cap e w
  refine ⟨c, hc1, ?_⟩
  have hw : IntKind.i64.wrap (m : Int) = (m : Int) := wrap_i64 (by omega) (by omega)
  have g1 : ¬ ((m : Int) < 0) := by omega
  have g2 : ¬ ((m : Int) * (i.bytes : Int) > 2 ^ 48) := by
    have : ¬ ((m : Int) * (i.bytes : Int) > 281474976710656) := by rw [← Int.natCast_mul]; omega
    exact this
  have hno : ¬ n + m ≤ cap := by omega
  have h1 : ¬ (((n + m : Nat) : Int) > IntKind.i64.max ∧ (True ∨ i.bytes = 0)) := by rw [i64_max]; omega
  have h2 : ¬ (Builtin.nextslicecap (n + m) cap * i.bytes > 2 ^ 48) := by
    have := nextcap_le (n + m) cap hr
    have h3 : Builtin.nextslicecap (n + m) cap * i.bytes ≤ (2 * 16777216 + 1024) * 65536 := Nat.mul_le_mul (by omega) hby
    omega
  unfold Builtin.append_
  simp only [List.getElem?_toArray, List.getElem?_cons_zero, List.getElem?_cons_succ]
  rw [run_und ht]
  simp only
  rw [run_bind_ok (run_size hi w), run_und hu]
  simp only [pure_bind, Bool.not_true, Bool.false_eq_true, if_false, if_true, asInt, asIntOf, hw, if_neg g1]
  rw [run_info hi]
  simp only [if_neg g2, Int.toNat_natCast, if_neg hno, if_neg hs]
  rw [run_info hi]
  simp only [if_neg h1]
  rw [run_info hi]
  simp only [if_neg h2]
  rw [run_bind_ok hc2, run_info hi, run_bind_ok (run_askRoom _ _), run_bind_ok (ho { w with drawn := w.drawn + 1 } rfl), run_bind_ok (run_bind_ok (run_zero hi hzv _)), run_bind_ok (run_zero hi hzv _), run_bind_ok (run_newRow _ _ _)]
  rfl
end
/-- What a run of append is, whether there is room or not. -/
def ApR (P : Program) (V : Vn) (w : World) (run : Result Value) (p : Option Addr) (n cap m k : Nat) (new : List Ce) : Prop :=
  ∃ vs : List Value, All2 (Ce.rel V) new vs ∧
    (n + m ≤ cap → run = (match p with | some a => (storeCells (a.add (n * k)) vs).run P w | none => .ok () w).andThen fun _ w' => .ok (.slice p (n + m) cap) w') ∧
    (cap < n + m → ∀ olds : List Value, (∀ w', w'.heap = w.heap → (Builtin.firstCells k n (.slice p n cap)).run P w' = .ok olds.toArray w') →
      ∃ (c : Nat) (rest : List Value) (e : TypeId), n + m ≤ c ∧ rest.length = (c - (n + m)) * k ∧
        run = .ok (.slice (some ⟨w.heap.size, 0, none⟩) (n + m) c) { w with drawn := w.drawn + 1, heap := w.heap.push (.cells (olds ++ vs ++ rest).toArray e (0, 0)) })
theorem store_at {P : Program} (s : Sim E G V h w) {b o : Nat} {l : List Ce} {h' : Hp X} (q : storeAt h b o l = some h') {p : Pl} (hp : V b = some p) {vs : List Value} (hr : All2 (Ce.rel V) l vs) (o1 o2 : Nat) (ho : p.of + o = o1 + o2) :
    ∃ w', (storeCells ((⟨p.bl, o1, none⟩ : Addr).add o2) vs).run P w = .ok () w' ∧ Sim E G V h' w' ∧ Ext E V h w V h' w' := by
  rw [add_addr, ← ho]
  exact storeAt_run s q ⟨p, hp, rfl⟩ hr
/-- Growth into a new row, the old cells at hand. -/
theorem append_new (s : Sim E G V h w) {k n m : Nat} {new : List Ce} (hlen : new.length = m * k) {vs : List Value} (hvs : All2 (Ce.rel V) new vs) {run : Result Value} {l : List Ce} {olds : List Value} (hl : All2 (Ce.rel V) l olds) (hll : l.length = n * k)
    (hr : ∃ (c : Nat) (rest : List Value) (e : TypeId), n + m ≤ c ∧ rest.length = (c - (n + m)) * k ∧ run = .ok (.slice (some ⟨w.heap.size, 0, none⟩) (n + m) c) { w with drawn := w.drawn + 1, heap := w.heap.push (.cells (olds ++ vs ++ rest).toArray e (0, 0)) })
    (t : T Ce) (ht : ∀ i x, i < (l ++ new).length → t.get i = some x → (l ++ new)[i]? = some x) :
    ∃ u w' V', run = .ok u w' ∧ (AV.V (.C (.L (some (h.next, 0)) (n + m) (.e 0)))).rel V' u ∧ Sim E G V' (h.add (.cells t ((n + m) * k) (some k))) w' ∧ Ext E V h w V' (h.add (.cells t ((n + m) * k) (some k))) w' := by
  obtain ⟨c', rest, e, r1, r2, r3⟩ := hr
  have hsz : c' * k = (l ++ new).length + rest.length := by
    rw [List.length_append, hll, hlen, r2, ← Nat.add_mul, ← Nat.add_mul]; congr 1; omega
  obtain ⟨s1, s2⟩ := newCells s (l := l ++ new) (vs := olds ++ vs) (rest := rest) (hl.append hvs) e k c' hsz (some k) (fun _ e => by cases e; rfl) (0, 0) (.inl rfl) { w with drawn := w.drawn + 1, heap := w.heap.push (.cells (olds ++ vs ++ rest).toArray e (0, 0)) } rfl
    (n := (n + m) * k) (by rw [List.length_append, hll, hlen, Nat.add_mul]) ht
  refine ⟨_, _, _, r3, ⟨_, named_self _ _ _, by simp only [Nat.zero_add]; exact r1, ?_⟩, s1, s2⟩
  simp
theorem newRowCR (s : Sim E G V h w) {t : T Ce} {n cp : Nat} {ext : Option Nat} {c : Array Value} {ty : TypeId} {fz : Nat × Nat} {w' : World} (hw : w'.heap = w.heap.push (.cells c ty fz)) (hfz : fz.1 = fz.2 ∨ c.size ≤ fz.1)
    (hcr : CR (named V h.next ⟨w.heap.size, 0, cp, 0, 0⟩) 0 cp t n ext c) (hO : Outer w w' := by exact ⟨rfl, rfl, rfl⟩) : Sim E G (named V h.next ⟨w.heap.size, 0, cp, 0, 0⟩) (h.add (.cells t n ext)) w' ∧ Ext E V h w (named V h.next ⟨w.heap.size, 0, cp, 0, 0⟩) (h.add (.cells t n ext)) w' :=
  s.add (p := ⟨w.heap.size, 0, cp, 0, 0⟩) rfl ⟨c, ty, fz, by rw [hw]; simp, hfz, hcr⟩ (fun j hj => by rw [hw, Array.getElem?_push]; simp [Nat.ne_of_lt hj]) (by rw [hw]; simp) hO
theorem rowOf_length {k n : Nat} {b : Nat × Nat} {_j : Nat} {c : Cap} {l : List Ce} (hl : rowOf h k (.L (some b) _j c) n = some l) : l.length = n * k := by
  unfold rowOf at hl
  simp only at hl
  split at hl
  case h_1 => injection hl with hl; subst hl; simp
  case h_2 =>
    split at hl
    case h_2 => cases hl
    split at hl
    case h_2 => cases hl
    exact (T.getL_spec hl).1
theorem Ext.drop (V : Vn) (h : Hp X) (w : World) (b : Nat) : Ext E V h w V ⟨h.t.drop b, h.next⟩ w :=
  ⟨.refl V, Nat.le_refl _, Nat.le_refl _, fun _ _ hn => ⟨rfl, fun ⟨b', ob, p, g, q, hj⟩ => hn ⟨b', ob, p, (T.get_drop g).2, q, hj⟩⟩, fun _ _ => rfl, ⟨rfl, rfl, rfl⟩⟩
theorem appendC_run (s : Sim E G V h w) {k : Nat} (hk : 1 ≤ k) {pa : Option (Nat × Nat)} {n m : Nat} {c : Cap} {p : Option Addr} {cap : Nat} (hv : (AV.V (.C (.L pa n c))).rel V (.slice p n cap)) {new : List Ce} (hlen : new.length = m * k) {z : AV} {h' : Hp X}
    (q : appendC h k pa n c new m = some (z, h')) {run : Result Value} (hap : ApR A.P V w run p n cap m k new) : ∃ u w' V', run = .ok u w' ∧ z.rel V' u ∧ Sim E G V' h' w' ∧ Ext E V h w V' h' w' := by
  obtain ⟨vs, hvs, hfit, hgrow⟩ := hap
  have hvl := hvs.length
  unfold appendC at q
  split at q
  case h_1 => cases q
  split at q
  case h_1 c =>
    have e : Value.slice p n cap = .slice none n c := hv
    injection e with e1 e2 e3; subst e1; subst e3
    split at q
    case h_1 hb =>
      have hb' : n + m ≤ cap := Nat.le_of_ble_eq_true hb
      split at q
      case h_2 => cases q
      injection q with q; injection q with q1 q2; subst q1; subst q2
      exact ⟨_, w, V, by rw [hfit hb']; rfl, rfl, s, .refl E V h w⟩
    case h_2 hb =>
      have hb' : cap < n + m := lt_of_ble hb
      split at q
      case h_2 => cases q
      injection q with q; injection q with q1 q2; subst q1; subst q2
      have := append_new s (n := 0) (l := []) (olds := []) hlen hvs trivial (by simp) (hgrow hb' [] (fun w' _ => rfl)) (T.ofL new) (fun i x _ g => by simpa using T.get_ofL g)
      simpa using this
  case h_2 b o c =>
    obtain ⟨x, ⟨pl, hp, rfl⟩, e⟩ : ∃ x, pR V (b, o) x ∧ Value.slice p n cap = .slice (some x) n c := hv
    injection e with e1 e2 e3; subst e1; subst e3
    split at q
    case h_1 hb =>
      have hb' : n + m ≤ cap := Nat.le_of_ble_eq_true hb
      split at q
      case h_1 => cases q
      rename_i h1 hs1
      injection q with q; injection q with q1 q2; subst q1; subst q2
      obtain ⟨w', r1, r2, r3⟩ := store_at (P := A.P) s hs1 hp hvs (pl.of + o) (n * k) (by show pl.of + (o + n * k) = _; omega)
      exact ⟨_, w', V, by rw [hfit hb']; simp only; rw [r1]; rfl, ⟨_, ⟨pl, hp, rfl⟩, rfl⟩, r2, r3⟩
    case h_2 hb =>
      have hb' : cap < n + m := lt_of_ble hb
      split at q
      case h_1 => cases q
      rename_i l hl
      injection q with q; injection q with q1 q2; subst q1; subst q2
      obtain ⟨olds, o2, o1⟩ := run_firstCells (A := A) s hl (v := .slice (some ⟨pl.bl, pl.of + o, none⟩) n cap) ⟨_, ⟨pl, hp, rfl⟩, rfl⟩
      exact append_new s hlen hvs o2 (rowOf_length hl) (hgrow hb' olds o1) (T.ofL (l ++ new)) (fun i x _ g => T.get_ofL g)
  case h_3 b o d =>
    obtain ⟨pl, hp, hd, e⟩ : ∃ q, V b = some q ∧ d + n ≤ q.cp ∧ Value.slice p n cap = .slice (some ⟨q.bl, q.of + o, none⟩) n (q.cp - d) := hv
    injection e with e1 e2 e3; subst e1; subst e3
    split at q
    case h_2 => cases q
    rename_i t q0 k' hg
    split at q
    case h_2 => cases q
    rename_i ek eo
    have ek' : k' = k := Nat.eq_of_beq_eq_true ek
    have eo' : o = d * k := Nat.eq_of_beq_eq_true eo
    subst ek'
    obtain ⟨p', hp', c, ty, fz, hc, hfz, hcr⟩ := s.ob _ _ hg
    rw [hp] at hp'; cases hp'
    have hext := hcr.2.2 k' rfl
    have hkn := hcr.2.1
    split at q
    case h_1 hb =>
      have hb' : o + (n + m) * k' ≤ q0 := Nat.le_of_ble_eq_true hb
      have hfits : d + (n + m) ≤ pl.cp := by
        have h1 : (d + (n + m)) * k' ≤ pl.cp * k' := by rw [Nat.add_mul]; omega
        exact Nat.le_of_mul_le_mul_right h1 (by omega)
      split at q
      case h_1 => cases q
      rename_i h1 hs1
      injection q with q; injection q with q1 q2; subst q1; subst q2
      obtain ⟨w', r1, r2, r3⟩ := store_at (P := A.P) s hs1 hp hvs (pl.of + o) (n * k') (by show pl.of + (o + n * k') = _; omega)
      exact ⟨_, w', V, by rw [hfit (by omega)]; simp only; rw [r1]; rfl, ⟨pl, hp, hfits, rfl⟩, r2, r3⟩
    case h_2 hb =>
      split at q
      case h_2 => cases q
      rename_i eq0
      have eq0' : q0 = n * k' := Nat.eq_of_beq_eq_true eq0
      injection q with q; injection q with q1 q2; subst q1; subst q2
      have eo2 : o = 0 := by simpa using eo'
      subst eo2
      subst eq0'
      have hn : V h.next = none := s.new _ (Nat.le_refl _)
      have sd := s.drop b
      simp only [Nat.sub_zero] at hfit hgrow ⊢
      rcases Nat.lt_or_ge pl.cp (n + m) with hlt | hge
      · -- no room: a new row
        let olds : List Value := (List.range (n * k')).map fun j => c.getD (pl.of + j) undef
        have hin : ∀ j, j < n * k' → c[pl.of + j]? = some (c.getD (pl.of + j) undef) := fun j hj => by
          have : pl.of + j < c.size := by omega
          simp [Array.getD_eq_getD_getElem?, Array.getElem?_eq_getElem this]
        have hol : olds.length = n * k' := by simp [olds]
        have hog : ∀ (j : Nat) v, olds[j]? = some v → c[pl.of + j]? = some v := fun j v hj => by
          have hlt : j < n * k' := by have := (List.getElem?_eq_some_iff.1 hj).1; omega
          simp only [olds, List.getElem?_map, List.getElem?_range hlt, Option.map_some, Option.some.injEq] at hj
          rw [hin j hlt, hj]
        have ho : ∀ w', w'.heap = w.heap → (Builtin.firstCells k' n (.slice (some ⟨pl.bl, pl.of + 0, none⟩) n pl.cp)).run A.P w' = .ok olds.toArray w' := fun w' hw' =>
          run_loadCells (o := pl.of) (by rw [hw']; exact hc) hol hog
        obtain ⟨c', rest, e, r1, r2, r3⟩ := hgrow hlt olds ho
        have hc'k : c' * k' = (n + m) * k' + rest.length := by rw [r2, ← Nat.add_mul]; congr 1; omega
        have hnm : (n + m) * k' = n * k' + vs.length := by rw [Nat.add_mul, ← hlen, hvl]
        obtain ⟨s1, s2⟩ := newRowCR sd (t := T.putL new t (n * k')) (n := (n + m) * k') (cp := c') (ext := some k') (c := (olds ++ vs ++ rest).toArray) (ty := e) (fz := (0, 0))
          (w' := { w with drawn := w.drawn + 1, heap := w.heap.push (.cells (olds ++ vs ++ rest).toArray e (0, 0)) }) rfl (.inl rfl) ⟨fun i x hi g => by
            simp only [Nat.zero_add, List.getElem?_toArray]
            rcases T.get_putL g with ⟨g1, g2⟩ | ⟨g1, g2⟩
            · obtain ⟨v, q1, q2⟩ := hvs.get g2
              refine ⟨v, ?_, q2.mono (named_le hn)⟩
              have hlt2 := (List.getElem?_eq_some_iff.1 q1).1
              rw [List.getElem?_append_left (by simp only [List.length_append]; omega), List.getElem?_append_right (by omega), hol]; exact q1
            · have hi2 : i < n * k' := by rw [← hvl] at hnm; omega
              obtain ⟨v, q1, q2⟩ := hcr.1 i x hi2 g2
              refine ⟨v, ?_, q2.mono (named_le hn)⟩
              rw [List.getElem?_append_left (by simp only [List.length_append]; omega), List.getElem?_append_left (by omega)]
              simp only [olds, List.getElem?_map, List.getElem?_range hi2, Option.map_some]
              rw [← hin i hi2]; exact q1,
            by simp only [Nat.zero_add, List.size_toArray, List.length_append]; omega,
            fun k2 hk2 => by cases hk2; simp only [Nat.zero_add, List.size_toArray, List.length_append]; omega⟩
        exact ⟨_, _, _, r3, ⟨_, named_self _ _ _, by simp only [Nat.zero_add]; exact r1, by simp⟩, s1, (Ext.drop V h w b).trans s2⟩
      · -- there is room: in place
        have one : ∀ v ∈ vs, v.oneCell = true := fun v hv => by
          obtain ⟨i, hi, e⟩ := List.getElem_of_mem hv
          have : new[i]? = some (new[i]'(by omega)) := List.getElem?_eq_getElem _
          obtain ⟨v', r1, r2⟩ := hvs.get this
          rw [List.getElem?_eq_getElem hi, e] at r1; cases r1; exact r2.one
        have hroom : pl.of + n * k' + vs.length ≤ c.size := by
          have h1 : (n + m) * k' ≤ pl.cp * k' := Nat.mul_le_mul_right _ hge
          rw [← hvl, hlen, hext, Nat.add_assoc, ← Nat.add_mul]; omega
        have hst := run_storeCells (P := A.P) (b := pl.bl) (o := pl.of + n * k') (ty := ty) (fz := fz) vs w c 0 hc hfz (by omega) one
        let np : Pl := ⟨pl.bl, pl.of, pl.cp, 0, 0⟩
        have hadd : (⟨pl.bl, pl.of + 0, none⟩ : Addr).add (n * k') = ⟨pl.bl, pl.of + n * k', none⟩ := by rw [add_addr]; rfl
        refine ⟨_, _, named V h.next np, by rw [hfit hge]; simp only; rw [hadd, hst]; rfl, ⟨np, named_self _ _ _, by show 0 + (n + m) ≤ pl.cp; omega, rfl⟩, ?_, ?_⟩
        · refine (sd.name np).put (named_self _ _ _) ⟨setRun c (pl.of + n * k' + 0) vs, ty, fz, setBlk_self hc, by rw [setRun_size]; exact hfz, fun i x hi g => ?_, ?_, fun k2 hk2 => ?_⟩ (fun j _ hj => ?_) (by rw [setBlk_size]; exact Nat.le_refl _) ?_
          · rw [setRun_get _ _ _ _ (by omega)]
            rcases T.get_putL g with ⟨g1, g2⟩ | ⟨g1, g2⟩
            · have hi2 := (List.getElem?_eq_some_iff.1 g2).1
              obtain ⟨v, r1, r2⟩ := hvs.get g2
              refine ⟨v, ?_, r2.mono (named_le hn)⟩
              show (if _ then _ else _) = _
              rw [if_pos (by show pl.of + n * k' + 0 ≤ pl.of + i ∧ pl.of + i < pl.of + n * k' + 0 + vs.length; omega), show np.of + i - (pl.of + n * k' + 0) = i - n * k' by show pl.of + i - _ = _; omega]; exact r1
            · have hi3 : i < (n + m) * k' := hi
              have hi2 : i < n * k' := by rw [Nat.add_mul, ← hlen] at hi3; omega
              obtain ⟨v, r2, r3⟩ := hcr.1 i x hi2 g2
              refine ⟨v, ?_, r3.mono (named_le hn)⟩
              show (if _ then _ else _) = _
              rw [if_neg (by show ¬(pl.of + n * k' + 0 ≤ pl.of + i ∧ pl.of + i < pl.of + n * k' + 0 + vs.length); omega)]; exact r2
          · rw [setRun_size]
            show pl.of + (n + m) * k' ≤ c.size
            rw [Nat.add_mul, ← hlen, hvl]; omega
          · rw [setRun_size]; cases hk2; exact hext
          · simp only [foot, List.mem_singleton] at hj
            exact setBlk_ne hj
          · intro b' ob' p2 j g hne hv2 hf1 hf2
            obtain ⟨hb2, g'⟩ := T.get_drop g
            simp only [foot, List.mem_singleton] at hf2
            obtain ⟨p3, hv3, _⟩ := s.ob _ _ g'
            have := named_le (p := np) hn _ _ hv3
            rw [hv2] at this; cases this
            exact hb2 (s.apart b' ob' _ b _ pl j g' hg hv3 hp hf1 (by simp only [foot, List.mem_singleton]; exact hf2))
        · refine ⟨named_le hn, by rw [setBlk_size]; exact Nat.le_refl _, Nat.le_succ _, fun j hj hnl => ?_, fun b hb => named_ne (Nat.ne_of_lt hb), ⟨rfl, rfl, rfl⟩⟩
          have hjb : j ≠ pl.bl := fun e => hnl ⟨b, _, pl, hg, hp, by simp only [foot, List.mem_singleton]; exact e⟩
          refine ⟨setBlk_ne hjb, fun lv => ?_⟩
          rcases Live.put (h := ⟨h.t.drop b, h.next + 1⟩) (named_self _ _ _) lv with l1 | l1
          · obtain ⟨b', ob, p2, g, q2, hj2⟩ := l1.name sd
            exact hnl ⟨b', ob, p2, (T.get_drop g).2, q2, hj2⟩
          · simp only [foot, List.mem_singleton] at l1; exact hjb l1
  case h_4 => cases q
end Ev
end Go.Proofs.YtlkgdpdnhnakoaaGreatDoor

namespace Go.Proofs.YtlkgdpdnhnakoaaGreatDoor
namespace Ev
variable {X : Type} {E : Xs X} {G : Nat} {A : Tab} {V : Vn} {h : Hp X} {w : World} {tm : T AV} {nt : Nat} {a : Act} {o : Oper}

/-- A run that gives a value, the heap turned so. -/
def Got (E : Xs X) (G : Nat) (V : Vn) (h : Hp X) (w : World) (run : Result Value) (z : AV) (h' : Hp X) : Prop :=
  ∃ u w' V', run = .ok u w' ∧ z.rel V' u ∧ Sim E G V' h' w' ∧ Ext E V h w V' h' w'
theorem Got.same (s : Sim E G V h w) {run : Result Value} {z : AV} {u : Value} (hr : run = .ok u w) (hz : z.rel V u) : Got E G V h w run z h := ⟨u, w, V, hr, hz, s, .refl E V h w⟩

theorem lenOf_run {P : Program} {x : Ce} {v : Value} (hv : x.rel V v) {m : Nat} (q : lenC x = some m) (w : World) : (Builtin.lenOf v).run P w = .ok m w := by
  unfold lenC at q
  split at q
  case h_1 a n c =>
    injection q with q; subst q
    cases a with
    | none =>
      cases c with
      | k c => have : v = .slice none n c := hv; subst this; rfl
      | e d => exact (show False from hv).elim
    | some a =>
      cases c with
      | k c => obtain ⟨y, _, rfl⟩ := hv; rfl
      | e d => obtain ⟨p, _, _, rfl⟩ := hv; rfl
  case h_2 l =>
    injection q with q; subst q
    have : v = .string ⟨l.toArray⟩ := hv
    subst this
    show Result.ok _ w = _
    congr 1
  case h_3 => cases q
theorem rowOf_len {k n : Nat} {x : Ce} {l : List Ce} (hl : rowOf h k x n = some l) : l.length = n * k := by
  unfold rowOf at hl
  split at hl
  case h_1 =>
    split at hl
    case h_1 => injection hl with hl; subst hl; simp
    case h_2 => cases hl
  case h_2 b o m c =>
    split at hl
    case h_1 => injection hl with hl; subst hl; simp
    case h_2 =>
      split at hl
      case h_2 => cases hl
      split at hl
      case h_2 => cases hl
      exact (T.getL_spec hl).1
  case h_3 s =>
    split at hl
    case h_2 => cases hl
    rename_i hk hle
    injection hl with hl; subst hl
    rw [Nat.eq_of_beq_eq_true hk]
    have := Nat.le_of_ble_eq_true hle
    simp; omega
  case h_4 => cases hl
theorem slice_of {pa : Option (Nat × Nat)} {n : Nat} {c : Cap} {v : Value} (hv : (AV.V (.C (.L pa n c))).rel V v) : ∃ p cap, v = .slice p n cap := by
  cases pa with
  | none =>
    cases c with
    | k c => exact ⟨_, _, show v = .slice none n c from hv⟩
    | e d => exact (show False from hv).elim
  | some a =>
    cases c with
    | k c => obtain ⟨y, _, e⟩ := hv; exact ⟨_, _, e⟩
    | e d => obtain ⟨p, _, _, e⟩ := hv; exact ⟨_, _, e⟩
theorem appendC_room {k : Nat} {pa : Option (Nat × Nat)} {n m : Nat} {c : Cap} {new : List Ce} {r : AV × Hp X} (q : appendC h k pa n c new m = some r) : (n + m) * k ≤ 16777216 := by
  unfold appendC at q
  split at q
  case h_1 => cases q
  rename_i hb
  exact Nat.le_of_ble_eq_true hb
theorem bi_append (hA : A.Ok) (s : Sim E G V h w) {t u e ty : TypeId} {d : TypeDesc} (ht : A.und t = some (.slice e)) (hu : A.und u = some d) (hd : isIntD d = false) {k : Nat} {zl : List Ce} (hk : A.elt e = some (k, zl)) {pa : Option (Nat × Nat)} {n m : Nat} {c : Cap} {x : Ce}
    (hm : lenC x = some m) {new : List Ce} (hrow : rowOf h k x m = some new) {z : AV} {h' : Hp X} (q : appendC h k pa n c new m = some (z, h')) {v1 v2 : Value} (r1 : (AV.V (.C (.L pa n c))).rel V v1) (r2 : x.rel V v2) :
    Got E G V h w ((Builtin.append_ #[t, u] ty #[v1, v2]).run A.P w) z h' := by
  obtain ⟨p, cap, rfl⟩ := slice_of r1
  obtain ⟨i, hi, rfl, hk1, hby, zv, hzv, _, _⟩ := elt_ok hA hk
  obtain ⟨vs, f1, f2⟩ := run_firstCells (A := A) s hrow r2
  have hnm : n + m ≤ 16777216 := Nat.le_trans (Nat.le_mul_of_pos_right _ hk1) (appendC_room q)
  exact appendC_run s hk1 r1 (rowOf_len hrow) q ⟨vs, f1, fun hr => append_fit (hA.und ht) (hA.und hu) hi hd (lenOf_run r2 hm w) (f2 w rfl) hr p, fun hr olds ho => by
    obtain ⟨c', q1, q2⟩ := append_grow (hA.und ht) (hA.und hu) hi hzv hd (lenOf_run r2 hm w) hr hnm hby f2 ho
    refine ⟨c', (Builtin.zeroCells zv.cells (c' - (n + m))).toList, e, q1, ?_, ?_⟩
    · have : (zeroValue e).run A.P w = .ok zv w := run_zero hi hzv w
      rw [Array.length_toList, zeroCells_size]
      congr 1
      have hl := (elt_ok hA hk)
      obtain ⟨i', hi', e1, _, _, zv', hzv', hlen, hrel⟩ := hl
      rw [hi] at hi'; cases hi'
      rw [hzv] at hzv'; cases hzv'
      exact (hrel V).length.symm.trans hlen
    · rw [q2]
      congr 3
      simp⟩
theorem bi_append0 (hA : A.Ok) (s : Sim E G V h w) {t u e ty : TypeId} {kk : IntKind} (ht : A.und t = some (.slice e)) (hu : A.und u = some (.int kk)) {k : Nat} {zl : List Ce} (hk : A.elt e = some (k, zl)) {pa : Option (Nat × Nat)} {n m : Nat} {c : Cap}
    (hm : m * k ≤ 16777216) (hm1 : 1 ≤ m) {z : AV} {h' : Hp X} (q : appendC h k pa n c (rep m zl) m = some (z, h')) {v1 : Value} (r1 : (AV.V (.C (.L pa n c))).rel V v1) :
    Got E G V h w ((Builtin.append_ #[t, u] ty #[v1, .int .i64 (m : Int)]).run A.P w) z h' := by
  obtain ⟨p, cap, rfl⟩ := slice_of r1
  obtain ⟨i, hi, rfl, hk1, hby, zv, hzv, hlen, hrel⟩ := elt_ok hA hk
  have hnm : n + m ≤ 16777216 := Nat.le_trans (Nat.le_mul_of_pos_right _ hk1) (appendC_room q)
  have hsz : zv.cells.size = i.size := by
    exact (hrel V).length.symm.trans hlen
  have hmb : m * i.bytes ≤ 281474976710656 := Nat.le_trans (Nat.mul_le_mul (show m ≤ 16777216 by omega) hby) (by decide)
  have hs : m * i.size ≠ 0 := Nat.ne_of_gt (Nat.mul_pos hm1 hk1)
  have hvs : All2 (Ce.rel V) (rep m zl) (Builtin.zeroCells zv.cells m).toList := zeros_rel (hrel V) m _ rfl
  exact appendC_run s hk1 r1 (by rw [rep_length, hlen]) q ⟨_, hvs, fun hr => append_fit0 (hA.und ht) (hA.und hu) hi hzv (by omega) hmb hs hr p, fun hr olds ho => by
    obtain ⟨c', q1, q2⟩ := append_grow0 (hA.und ht) (hA.und hu) hi hzv (by omega) hmb hs hr hnm hby ho
    refine ⟨c', (Builtin.zeroCells zv.cells (c' - (n + m))).toList, e, q1, ?_, ?_⟩
    · rw [Array.length_toList, zeroCells_size, hsz]
    · rw [q2]
      congr 3
      simp⟩
theorem bi_copy (hA : A.Ok) (s : Sim E G V h w) {t e ty : TypeId} {ts : List TypeId} (ht : A.und t = some (.slice e)) {k : Nat} (hk : A.size e = some k) {pa : Option (Nat × Nat)} {n m : Nat} {c : Cap} {x : Ce} (hm : lenC x = some m) {new : List Ce} (hrow : rowOf h k x (Nat.min m n) = some new)
    {h' : Hp X} (q : (match pa with | none => some h | some (b, o) => storeAt h b o new) = some h') {v1 v2 : Value} (r1 : (AV.V (.C (.L pa n c))).rel V v1) (r2 : x.rel V v2) :
    Got E G V h w ((Builtin.copy_ (t :: ts).toArray ty #[v1, v2]).run A.P w) (.V (.C (.I .i64 (.ofNat (Nat.min m n))))) h' := by
  obtain ⟨vs, f1, f2⟩ := run_firstCells (A := A) s hrow r2
  have go : ∀ (p : Option Addr) (cap : Nat), (Builtin.copy_ (t :: ts).toArray ty #[.slice p n cap, v2]).run A.P w = (match p with | some a => (storeCells a vs).run A.P w | none => .ok () w).andThen fun _ w' => .ok (goInt (Nat.min m n)) w' := fun p cap => by
    unfold Builtin.copy_
    simp only [List.getElem?_toArray, List.getElem?_cons_zero, List.getElem?_cons_succ]
    rw [run_und (hA.und ht)]
    simp only
    rw [run_bind_ok (lenOf_run r2 hm w), run_bind_ok (hA.size hk w), run_bind_ok (f2 w rfl)]
    cases p with
    | none => rfl
    | some a => simp only; rw [Sem.run_bind]; rfl
  obtain ⟨p, cap, rfl⟩ := slice_of r1
  cases pa with
  | none =>
    injection q with q; subst q
    have : p = none := by
      cases c with
      | k c => have e : Value.slice p n cap = .slice none n c := r1; injection e
      | e d => exact (show False from r1).elim
    subst this
    exact .same s (go none cap) rfl
  | some b =>
    obtain ⟨b, o⟩ := b
    have : ∃ x, pR V (b, o) x ∧ p = some x := by
      cases c with
      | k c => obtain ⟨y, h1, e⟩ := r1; injection e with e; exact ⟨y, h1, e⟩
      | e d => obtain ⟨p', h1, _, e⟩ := r1; injection e with e; exact ⟨_, ⟨p', h1, rfl⟩, e⟩
    obtain ⟨x, hx, rfl⟩ := this
    obtain ⟨w', s1, s2, s3⟩ := storeAt_run (P := A.P) s q hx f1
    exact ⟨_, w', V, by rw [go]; simp only; rw [s1]; rfl, rfl, s2, s3⟩
theorem bi_len_slice (hA : A.Ok) (s : Sim E G V h w) {t e ty : TypeId} {ts : List TypeId} (ht : A.und t = some (.slice e)) {pa : Option (Nat × Nat)} {n : Nat} {c : Cap} {v : Value} (r : (AV.V (.C (.L pa n c))).rel V v) :
    Got E G V h w ((Builtin.len_ (t :: ts).toArray ty #[v]).run A.P w) (.V (.C (.I .i64 (.ofNat n)))) h := by
  obtain ⟨p, cap, rfl⟩ := slice_of r
  refine .same s ?_ rfl
  unfold Builtin.len_
  simp only [List.getElem?_toArray, List.getElem?_cons_zero]
  rw [run_und (hA.und ht)]
  rfl
theorem bi_len_str (hA : A.Ok) (s : Sim E G V h w) {t ty : TypeId} {ts : List TypeId} (ht : A.und t = some .string) {l : List UInt8} {v : Value} (r : (AV.V (.C (.S l))).rel V v) :
    Got E G V h w ((Builtin.len_ (t :: ts).toArray ty #[v]).run A.P w) (.V (.C (.I .i64 (.ofNat l.length)))) h := by
  have : v = .string ⟨l.toArray⟩ := r
  subst this
  refine .same s ?_ rfl
  unfold Builtin.len_
  simp only [List.getElem?_toArray, List.getElem?_cons_zero]
  rw [run_und (hA.und ht)]
  show Result.ok _ w = _
  congr 1
theorem bi_len_arr (hA : A.Ok) (s : Sim E G V h w) {t ty el : TypeId} {n : Nat} {ts : List TypeId} (ht : A.und t = some (.array n el)) {v : Value} :
    Got E G V h w ((Builtin.len_ (t :: ts).toArray ty #[v]).run A.P w) (.V (.C (.I .i64 (.ofNat n)))) h := by
  refine .same s (u := goInt n) ?_ rfl
  unfold Builtin.len_
  simp only [List.getElem?_toArray, List.getElem?_cons_zero]
  rw [run_und (hA.und ht)]
  rfl
theorem bi_cap (hA : A.Ok) (s : Sim E G V h w) {t e ty : TypeId} {ts : List TypeId} (ht : A.und t = some (.slice e)) {pa : Option (Nat × Nat)} {n c : Nat} {v : Value} (r : (AV.V (.C (.L pa n (.k c)))).rel V v) :
    Got E G V h w ((Builtin.cap_ (t :: ts).toArray ty #[v]).run A.P w) (.V (.C (.I .i64 (.ofNat c)))) h := by
  have : ∃ p, v = .slice p n c := by
    cases pa with
    | none => exact ⟨_, r⟩
    | some a => obtain ⟨y, _, e⟩ := r; exact ⟨_, e⟩
  obtain ⟨p, rfl⟩ := this
  refine .same s ?_ rfl
  unfold Builtin.cap_
  simp only [List.getElem?_toArray, List.getElem?_cons_zero]
  rw [run_und (hA.und ht)]
  rfl
theorem map_of {r : Nat} {v : Value} (q : (AV.V (.C (.M (some r)))).rel V v) : ∃ p, V r = some p ∧ v = .map (some p.bl) := q
theorem run_getObj {P : Program} {b : Nat} {ob : Obj} (h : w.heap[b]? = some ob) (hn : ∀ c e f, ob ≠ .cells c e f) {β : Type} (f : Obj → Sem β) : (getObj b >>= f).run P w = (f ob).run P w := by
  refine run_bind_ok ?_
  cases ob <;> first | exact (hn _ _ _ rfl).elim | simp [getObj, Sem.run, h]
theorem bi_len_map (hA : A.Ok) (s : Sim E G V h w) {t ty k el : TypeId} {ts : List TypeId} (ht : A.und t = some (.map k el)) {r : Nat} {es : List (Ce × A0 × Nat)} {cl : Nat} (hg : h.t.get r = some (.map es cl)) {v : Value} (q : (AV.V (.C (.M (some r)))).rel V v) :
    Got E G V h w ((Builtin.len_ (t :: ts).toArray ty #[v]).run A.P w) (.V (.C (.I .i64 (.ofNat es.length)))) h := by
  obtain ⟨p, hp, rfl⟩ := map_of q
  obtain ⟨p', hp', ms, q1, q2⟩ := s.ob _ _ hg
  rw [hp] at hp'; cases hp'
  refine .same s (u := goInt ms.length) ?_ (by rw [q2.length]; rfl)
  unfold Builtin.len_
  simp only [List.getElem?_toArray, List.getElem?_cons_zero]
  rw [run_und (hA.und ht)]
  simp only
  rw [run_getObj q1 (fun _ _ _ e => by cases e)]
  show Result.ok _ w = _
  congr 1
theorem bi_len_nil (hA : A.Ok) (s : Sim E G V h w) {t ty k el : TypeId} {ts : List TypeId} (ht : A.und t = some (.map k el)) {v : Value} (q : (AV.V (.C (.M none))).rel V v) :
    Got E G V h w ((Builtin.len_ (t :: ts).toArray ty #[v]).run A.P w) (.V (.C (.I .i64 (.ofNat 0)))) h := by
  have : v = .map none := q
  subst this
  refine .same s ?_ rfl
  unfold Builtin.len_
  simp only [List.getElem?_toArray, List.getElem?_cons_zero]
  rw [run_und (hA.und ht)]
  rfl
end Ev
end Go.Proofs.YtlkgdpdnhnakoaaGreatDoor

namespace Go.Proofs.YtlkgdpdnhnakoaaGreatDoor
namespace Ev
variable {X : Type} {E : Xs X} {G : Nat} {A : Tab} {V : Vn} {h : Hp X} {w : World} {tm : T AV} {nt : Nat} {a : Act} {o : Oper}

theorem sameNow_of {d : TypeDesc} {x y : Ce} {r : Bool} (q : keyEq d x y = some r) {u v : Value} (hu : x.rel V u) (hv : y.rel V v) : Instr.sameNow d u v = some r := by
  unfold keyEq at q
  split at q
  case h_1 =>
    simp only [Ce.rel] at hu hv
    subst hu; subst hv
    split at q
    · rename_i hk
      injection q with q; subst q
      have := of_decide_eq_true hk
      simp [Instr.sameNow, this, BEq.beq]
    · cases q
  case h_2 a b =>
    simp only [Ce.rel] at hu hv
    subst hu; subst hv
    injection q with q; subst q
    show some _ = _
    congr 1
    rw [beq_toListBytes]; simp
  case h_3 =>
    simp only [Ce.rel] at hu hv
    subst hu; subst hv
    injection q with q; subst q
    rfl
  case h_4 => cases q
theorem check_of {P : Program} {d : TypeDesc} {x y : Ce} {r : Bool} (q : keyEq d x y = some r) {t : TypeId} (ht : P.underlying t = some d) {u : Value} (hu : x.rel V u) (em : Bool) (n : Nat) : (Instr.checkKey em (n + 1) t u).run P w = .ok () w := by
  unfold Instr.checkKey
  rw [run_und ht]
  unfold keyEq at q
  split at q
  case h_1 => simp only [Ce.rel] at hu; subst hu; rfl
  case h_2 => simp only [Ce.rel] at hu; subst hu; rfl
  case h_3 => simp only [Ce.rel] at hu; subst hu; rfl
  case h_4 => cases q
theorem same_of {d : TypeDesc} {x y : Ce} (q : keyEq d x y = some true) {u v : Value} (hu : x.rel V u) (hv : y.rel V v) (n : Nat) : Instr.sameBits n v u = true := by
  unfold keyEq at q
  split at q
  case h_1 =>
    simp only [Ce.rel] at hu hv
    subst hu; subst hv
    split at q
    · rename_i hk
      injection q with q
      have h1 := of_decide_eq_true hk
      have h2 := of_decide_eq_true q
      subst h1; subst h2
      simp [Instr.sameBits]
    · cases q
  case h_2 a b =>
    simp only [Ce.rel] at hu hv
    subst hu; subst hv
    injection q with q
    have : a = b := by simpa using q
    subst this
    simp only [Instr.sameBits]
    rw [beq_toListBytes]; simp
  case h_3 a b =>
    simp only [Ce.rel] at hu hv
    subst hu; subst hv
    injection q with q
    have : a = b := by simpa using q
    subst this
    simp [Instr.sameBits]
  case h_4 => cases q
theorem mfind_run {P : Program} {d : TypeDesc} {t : TypeId} (ht : P.underlying t = some d) {k : Ce} {kv : Value} (hk : k.rel V kv) (n : Nat) : ∀ {es : List (Ce × A0 × Nat)} {ms : List MapEntry} {r : Option A0} (i : Nat), mfind d k es = some r → All2 (mR V) es ms →
    (∀ em w, (Instr.checkKey em (n + 1) t kv).run P w = .ok () w) ∧ ((r = none ∧ Instr.findNow d kv ms i = some none) ∨ ∃ v u j, r = some v ∧ v.rel V u ∧ Instr.findNow d kv ms i = some (some (j, u)))
  | [], [], r, i, q, _ => by
    unfold mfind at q
    split at q
    case h_2 => cases q
    rename_i hq
    injection q with q; subst q
    exact ⟨fun em w => check_of hq ht hk em n, .inl ⟨rfl, rfl⟩⟩
  | (j, v, b) :: l, m :: ms, r, i, q, hr => by
    obtain ⟨⟨r1, r2, r3⟩, hr'⟩ := hr
    unfold mfind at q
    split at q
    case h_1 hq =>
      injection q with q; subst q
      refine ⟨fun em w => check_of hq ht hk em n, .inr ⟨v, m.val, i, rfl, r2, ?_⟩⟩
      simp [Instr.findNow, sameNow_of hq hk r1]
    case h_2 hq =>
      obtain ⟨c, f⟩ := mfind_run ht hk n (i + 1) q hr'
      refine ⟨c, ?_⟩
      have e : Instr.findNow d kv (m :: ms) i = Instr.findNow d kv ms (i + 1) := by simp [Instr.findNow, sameNow_of hq hk r1]
      rw [e]; exact f
    case h_3 => cases q
theorem mput_run {P : Program} {d : TypeDesc} {t : TypeId} (ht : P.underlying t = some d) {k : Ce} {kv : Value} (hk : k.rel V kv) (n : Nat) {v : A0} {cl : Nat} : ∀ {es : List (Ce × A0 × Nat)} {ms : List MapEntry} {es' : List (Ce × A0 × Nat)} {new : Bool} (i : Nat), mput d k v cl es = some (es', new) → All2 (mR V) es ms →
    (∀ em w, (Instr.checkKey em (n + 1) t kv).run P w = .ok () w) ∧ ((new = true ∧ es' = es ++ [(k, v, cl)] ∧ Instr.findNow d kv ms i = some none) ∨
      ∃ j u k0 u0 n0, new = false ∧ es[j]? = some (k0, u0, n0) ∧ keyEq d k k0 = some true ∧ es' = es.set j (k, v, n0) ∧ Instr.findNow d kv ms i = some (some (i + j, u)))
  | [], [], es', new, i, q, _ => by
    unfold mput at q
    split at q
    case h_2 => cases q
    rename_i hq
    injection q with q; injection q with q1 q2; subst q1; subst q2
    exact ⟨fun em w => check_of hq ht hk em n, .inl ⟨rfl, rfl, rfl⟩⟩
  | (j, u, b) :: l, m :: ms, es', new, i, q, hr => by
    obtain ⟨⟨r1, r2, r3⟩, hr'⟩ := hr
    unfold mput at q
    split at q
    case h_1 hq =>
      injection q with q; injection q with q1 q2; subst q1; subst q2
      refine ⟨fun em w => check_of hq ht hk em n, .inr ⟨0, m.val, j, u, b, rfl, rfl, hq, rfl, ?_⟩⟩
      simp [Instr.findNow, sameNow_of hq hk r1]
    case h_2 hq =>
      split at q
      case h_2 => cases q
      rename_i r new' hp
      injection q with q; injection q with q1 q2; subst q1; subst q2
      obtain ⟨c, f⟩ := mput_run ht hk n (i + 1) hp hr'
      refine ⟨c, ?_⟩
      have e : Instr.findNow d kv (m :: ms) i = Instr.findNow d kv ms (i + 1) := by simp [Instr.findNow, sameNow_of hq hk r1]
      rw [e]
      rcases f with ⟨f1, f2, f3⟩ | ⟨j', u', k0, u0, n0, f1, f2, f3, f4, f5⟩
      · exact .inl ⟨f1, by rw [f2]; rfl, f3⟩
      · refine .inr ⟨j' + 1, u', k0, u0, n0, f1, f2, f3, by rw [f4]; rfl, by rw [f5]; congr 3; omega⟩
    case h_3 => cases q
theorem mdel_run {P : Program} {d : TypeDesc} {t : TypeId} (ht : P.underlying t = some d) {k : Ce} {kv : Value} (hk : k.rel V kv) (n : Nat) : ∀ {es : List (Ce × A0 × Nat)} {ms : List MapEntry} {es' : List (Ce × A0 × Nat)} (i : Nat), mdel d k es = some es' → All2 (mR V) es ms →
    (∀ em w, (Instr.checkKey em (n + 1) t kv).run P w = .ok () w) ∧ ((es' = es ∧ Instr.findNow d kv ms i = some none) ∨ ∃ j u, All2 (mR V) es' (ms.eraseIdx j) ∧ j < ms.length ∧ Instr.findNow d kv ms i = some (some (i + j, u)))
  | [], [], es', i, q, _ => by
    unfold mdel at q
    split at q
    case h_2 => cases q
    rename_i hq
    injection q with q; subst q
    exact ⟨fun em w => check_of hq ht hk em n, .inl ⟨rfl, rfl⟩⟩
  | (j, u, b) :: l, m :: ms, es', i, q, hr => by
    obtain ⟨⟨r1, r2, r3⟩, hr'⟩ := hr
    unfold mdel at q
    split at q
    case h_1 hq =>
      injection q with q; subst q
      refine ⟨fun em w => check_of hq ht hk em n, .inr ⟨0, m.val, hr', by simp, ?_⟩⟩
      simp [Instr.findNow, sameNow_of hq hk r1]
    case h_2 hq =>
      split at q
      case h_2 => cases q
      rename_i r hp
      injection q with q; subst q
      obtain ⟨c, f⟩ := mdel_run ht hk n (i + 1) hp hr'
      refine ⟨c, ?_⟩
      have e : Instr.findNow d kv (m :: ms) i = Instr.findNow d kv ms (i + 1) := by simp [Instr.findNow, sameNow_of hq hk r1]
      rw [e]
      rcases f with ⟨f1, f2⟩ | ⟨j', u', f1, f2, f3⟩
      · exact .inl ⟨by rw [f1], f2⟩
      · exact .inr ⟨j' + 1, u', ⟨⟨r1, r2, r3⟩, f1⟩, by simp; omega, by rw [f3]; congr 3; omega⟩
    case h_3 => cases q

/-- A map turns. -/
theorem map_turn (s : Sim E G V h w) {r : Nat} {es es' : List (Ce × A0 × Nat)} {cl cl' : Nat} (hg : h.t.get r = some (.map es cl)) {p : Pl} (hp : V r = some p) {ms' : List MapEntry} (hm : All2 (mR V) es' ms') {w' : World} (hw : w'.heap = w.heap.setIfInBounds p.bl (.map ms'.toArray cl')) (hO : Outer w w' := by exact ⟨rfl, rfl, rfl⟩) :
    Sim E G V ⟨h.t.put r (.map es' cl'), h.next⟩ w' ∧ Ext E V h w V ⟨h.t.put r (.map es' cl'), h.next⟩ w' := by
  obtain ⟨p', hp', ms, q1, q2⟩ := s.ob _ _ hg
  rw [hp] at hp'; cases hp'
  have hlt := (Array.getElem?_eq_some_iff.1 q1).1
  refine s.turn hg hp rfl ⟨ms', by rw [hw]; simp [hlt], hm⟩ (fun j _ hj => ?_) (by rw [hw]; simp) hO
  simp only [foot, List.mem_singleton] at hj
  rw [hw]; exact Array.getElem?_setIfInBounds_ne (fun e => hj e.symm)
/-- Where a map lies. -/
theorem map_at (s : Sim E G V h w) {r : Nat} {es : List (Ce × A0 × Nat)} {cl : Nat} (hg : h.t.get r = some (.map es cl)) {v : Value} (q : (AV.V (.C (.M (some r)))).rel V v) :
    ∃ p ms, V r = some p ∧ v = .map (some p.bl) ∧ w.heap[p.bl]? = some (.map (List.toArray ms) cl) ∧ All2 (mR V) es ms := by
  obtain ⟨p, hp, rfl⟩ := map_of q
  obtain ⟨p', hp', ms, q1, q2⟩ := s.ob _ _ hg
  rw [hp] at hp'; cases hp'
  exact ⟨p, ms, hp, rfl, q1, q2⟩
theorem run_keyStays {P : Program} {u v : Value} (hs : Instr.sameBits 10000 u v = true) (w : World) : (Instr.keyThatStays u v).run P w = .ok v w := by
  unfold Instr.keyThatStays
  rw [hs]; rfl

theorem bi_delete (hA : A.Ok) (s : Sim E G V h w) {t ty kt el : TypeId} {ts : List TypeId} {d : TypeDesc} (ht : A.und t = some (.map kt el)) (hd : A.und kt = some d) {r : Nat} {es es' : List (Ce × A0 × Nat)} {cl : Nat} (hg : h.t.get r = some (.map es cl)) {k : Ce} (q : mdel d k es = some es')
    {v kv : Value} (r1 : (AV.V (.C (.M (some r)))).rel V v) (r2 : k.rel V kv) : Got E G V h w ((Builtin.delete_ (t :: ts).toArray ty #[v, kv]).run A.P w) (.U []) ⟨h.t.put r (.map es' cl), h.next⟩ := by
  obtain ⟨p, ms, hp, rfl, hb, hm⟩ := map_at s hg r1
  obtain ⟨ck, f⟩ := mdel_run (V := V) (hA.und hd) r2 9999 0 q hm
  have go : ∀ {ms' : List MapEntry}, (match Instr.findNow d kv ms 0 with | some (some (i, _)) => ms.toArray.eraseIdxIfInBounds i | _ => ms.toArray) = ms'.toArray → (∃ a, Instr.findNow d kv ms 0 = some a) →
      (Builtin.delete_ (t :: ts).toArray ty #[.map (some p.bl), kv]).run A.P w = .ok (.tuple #[]) { w with heap := w.heap.setIfInBounds p.bl (.map ms'.toArray cl) } := fun {ms'} e hf => by
    obtain ⟨a, hf⟩ := hf
    rw [hf] at e
    unfold Builtin.delete_
    simp only [List.getElem?_toArray, List.getElem?_cons_zero, List.getElem?_cons_succ]
    rw [run_und (hA.und ht)]
    simp only
    rw [run_getObj hb (fun _ _ _ e => by cases e)]
    simp only
    rw [run_bind_ok (ck _ _), run_bind_ok (MapKept.run_findKey (hA.und hd) (l := ms) hf)]
    cases a with
    | none => simp only at e ⊢; rw [e, run_bind_ok (MapKept.run_setObj_map _ hb)]; rfl
    | some x => obtain ⟨i, u⟩ := x; simp only at e ⊢; rw [e, run_bind_ok (MapKept.run_setObj_map _ hb)]; rfl
  rcases f with ⟨rfl, f2⟩ | ⟨j, u, f1, f2, f3⟩
  · obtain ⟨s1, s2⟩ := map_turn (cl' := cl) s hg hp hm (w' := { w with heap := w.heap.setIfInBounds p.bl (.map ms.toArray cl) }) rfl
    exact ⟨_, _, V, go (by rw [f2]) ⟨_, f2⟩, ⟨[], trivial, rfl⟩, s1, s2⟩
  · obtain ⟨s1, s2⟩ := map_turn (cl' := cl) s hg hp f1 (w' := { w with heap := w.heap.setIfInBounds p.bl (.map (ms.eraseIdx j).toArray cl) }) rfl
    refine ⟨_, _, V, go ?_ ⟨_, f3⟩, ⟨[], trivial, rfl⟩, s1, s2⟩
    rw [f3]
    simp only [Nat.zero_add]
    apply Array.toList_inj.1
    simp [Array.eraseIdxIfInBounds, f2]
theorem bi_clear_map (hA : A.Ok) (s : Sim E G V h w) {t ty kt el : TypeId} {ts : List TypeId} (ht : A.und t = some (.map kt el)) {r : Nat} {es : List (Ce × A0 × Nat)} {cl : Nat} (hg : h.t.get r = some (.map es cl)) {v : Value} (r1 : (AV.V (.C (.M (some r)))).rel V v) :
    Got E G V h w ((Builtin.clear_ (t :: ts).toArray ty #[v]).run A.P w) (.U []) ⟨h.t.put r (.map [] cl), h.next⟩ := by
  obtain ⟨p, ms, hp, rfl, hb, hm⟩ := map_at s hg r1
  obtain ⟨s1, s2⟩ := map_turn (es' := []) (ms' := []) (cl' := cl) s hg hp trivial (w' := { w with heap := w.heap.setIfInBounds p.bl (.map #[] cl) }) rfl
  refine ⟨_, _, V, ?_, ⟨[], trivial, rfl⟩, s1, s2⟩
  unfold Builtin.clear_
  simp only [List.getElem?_toArray, List.getElem?_cons_zero]
  rw [run_und (hA.und ht)]
  rw [run_getObj hb (fun _ _ _ e => by cases e)]
  simp only
  rw [run_bind_ok (MapKept.run_setObj_map _ hb)]
  rfl
/-- What a lookup does behind reading the entries. -/
def lookCont (kt el : TypeId) (kv : Value) (ok : Bool) (es : Array MapEntry) : Sem Value := do
  Instr.checkKey es.isEmpty 10000 kt kv
  let (v, ok') ← match ← Instr.findKey kt kv es.toList with
    | some (_, v) => pure (v, true)
    | none => do pure (← zeroValue el, false)
  pure (if ok then .tuple #[v, .bool ok'] else v)
theorem in_lookup (hA : A.Ok) (s : Sim E G V h w) {t kt el : TypeId} {d : TypeDesc} (ht : A.und t = some (.map kt el)) (hd : A.und kt = some d) {r : Option Nat} {es : List (Ce × A0 × Nat)} (he : entriesO h r = some es) {k : Ce} {f : Option A0} (q : mfind d k es = some f)
    {v kv : Value} (r1 : (AV.V (.C (.M r))).rel V v) (r2 : k.rel V kv) (ok : Bool) {z : A0} {b : Bool} (hz : (f = some z ∧ b = true) ∨ (f = none ∧ A.zero el = some z ∧ b = false)) :
    ∃ u, z.rel V u ∧ (Instr.lookup t v kv ok).run A.P w = .ok (if ok then .tuple #[u, .bool b] else u) w := by
  have hes : ∃ ms, All2 (mR V) es ms ∧ (Instr.lookup t v kv ok).run A.P w = (lookCont kt el kv ok (List.toArray ms)).run A.P w := by
    unfold Instr.lookup
    rw [run_und (hA.und ht)]
    cases r with
    | none =>
      have e1 : v = .map none := r1
      subst e1
      injection he with he; subst he
      exact ⟨[], trivial, rfl⟩
    | some r =>
      unfold entriesO at he
      simp only at he
      split at he
      case h_2 => cases he
      rename_i es' cl hg
      injection he with he; subst he
      obtain ⟨p, ms, hp, rfl, hb, hm⟩ := map_at s hg r1
      refine ⟨ms, hm, ?_⟩
      simp only
      rw [run_getObj hb (fun _ _ _ e => by cases e)]
      rfl
  obtain ⟨ms, hm, hes⟩ := hes
  obtain ⟨ck, g⟩ := mfind_run (V := V) (hA.und hd) r2 9999 0 q hm
  rw [hes]
  unfold lookCont
  rw [run_bind_ok (ck _ _)]
  rcases g with ⟨e, g⟩ | ⟨v', u, j, e, gr, g⟩
  · rcases hz with ⟨hz, _⟩ | ⟨_, hz, rfl⟩
    · rw [e] at hz; cases hz
    · obtain ⟨zv, z1, z2⟩ := zero_run (V := V) hA hz w
      refine ⟨zv, z2, ?_⟩
      rw [run_bind_ok (MapKept.run_findKey (hA.und hd) (l := ms) g)]
      simp only
      rw [run_bind_ok z1]
      rfl
  · rcases hz with ⟨hz, rfl⟩ | ⟨hz, _, _⟩
    · rw [e] at hz; cases hz
      refine ⟨u, gr, ?_⟩
      rw [run_bind_ok (MapKept.run_findKey (hA.und hd) (l := ms) g)]
      rfl
    · rw [e] at hz; cases hz
theorem in_update (hA : A.Ok) (s : Sim E G V h w) {t kt el : TypeId} {d : TypeDesc} (ht : A.und t = some (.map kt el)) (hd : A.und kt = some d) {r : Nat} {es es' : List (Ce × A0 × Nat)} {cl : Nat} (hg : h.t.get r = some (.map es cl)) {k : Ce} {x : A0} {new : Bool} (q : mput d k x cl es = some (es', new))
    {v kv xv : Value} (r1 : (AV.V (.C (.M (some r)))).rel V v) (r2 : k.rel V kv) (r3 : x.rel V xv) {h' : Hp X} (hh : h' = ⟨h.t.put r (.map es' (if new then cl + 1 else cl)), h.next⟩) :
    ∃ w', (Instr.mapUpdate t v kv xv).run A.P w = .ok () w' ∧ Sim E G V h' w' ∧ Ext E V h w V h' w' := by
  subst hh
  obtain ⟨p, ms, hp, rfl, hb, hm⟩ := map_at s hg r1
  obtain ⟨ck, f⟩ := mput_run (V := V) (hA.und hd) r2 9999 0 q hm
  have start : ∀ (w' : World) a, Instr.findNow d kv ms 0 = some a → ((match a with
      | some (i, _) => do
        let key ← Instr.keyThatStays (((ms.toArray[i]?).map (·.key)).getD kv) kv
        setObj p.bl (.map (ms.toArray.modify i fun e => { e with key, val := xv }) cl)
      | none => setObj p.bl (.map (ms.toArray.push { key := kv, val := xv, born := cl }) (cl + 1)) : Sem Unit)).run A.P w = .ok () w' → (Instr.mapUpdate t (.map (some p.bl)) kv xv).run A.P w = .ok () w' := fun w' a ha hr => by
    unfold Instr.mapUpdate
    rw [run_und (hA.und ht)]
    simp only
    rw [run_getObj hb (fun _ _ _ e => by cases e)]
    simp only
    rw [run_bind_ok (ck _ _), run_bind_ok (MapKept.run_findKey (hA.und hd) (l := ms) ha)]
    exact hr
  rcases f with ⟨rfl, rfl, f2⟩ | ⟨j, u, k0, u0, n0, rfl, f1, f2, rfl, f3⟩
  · have hm' : All2 (mR V) (es ++ [(k, x, cl)]) (ms ++ [({ key := kv, val := xv, born := cl } : MapEntry)]) := hm.append ⟨⟨r2, r3, rfl⟩, trivial⟩
    obtain ⟨s1, s2⟩ := map_turn (cl' := cl + 1) s hg hp hm' (w' := { w with heap := w.heap.setIfInBounds p.bl (.map (ms ++ [({ key := kv, val := xv, born := cl } : MapEntry)]).toArray (cl + 1)) }) rfl
    refine ⟨_, start _ _ f2 ?_, s1, s2⟩
    simp only
    rw [MapKept.run_setObj_map _ hb]
    simp
  · rw [Nat.zero_add] at f3
    obtain ⟨m0, hm0, hk0, _, hb0⟩ := hm.get f1
    have hst := same_of f2 r2 hk0 10000
    have hjl : j < ms.length := (List.getElem?_eq_some_iff.1 hm0).1
    have hje : j < es.length := (List.getElem?_eq_some_iff.1 f1).1
    have hm' : All2 (mR V) (es.set j (k, x, n0)) (ms.set j { key := kv, val := xv, born := m0.born }) := by
      refine All2.of_get (by simp [hm.length]) fun i c hc => ?_
      rw [List.getElem?_set] at hc ⊢
      by_cases hi : j = i
      · subst hi
        rw [if_pos rfl, if_pos hje] at hc
        rw [if_pos rfl, if_pos hjl]
        injection hc with hc; subst hc
        exact ⟨_, rfl, r2, r3, hb0⟩
      · rw [if_neg hi] at hc ⊢
        exact hm.get hc
    obtain ⟨s1, s2⟩ := map_turn (cl' := cl) s hg hp hm' (w' := { w with heap := w.heap.setIfInBounds p.bl (.map (ms.set j { key := kv, val := xv, born := m0.born }).toArray cl) }) rfl
    refine ⟨_, start _ _ f3 ?_, s1, s2⟩
    simp only [List.getElem?_toArray, hm0, Option.map_some, Option.getD_some]
    rw [run_bind_ok (run_keyStays hst w), MapKept.run_setObj_map _ hb]
    congr 3
    have : ms.toArray.modify j (fun e => { e with key := kv, val := xv }) = (ms.set j { key := kv, val := xv, born := m0.born }).toArray := by
      apply Array.ext_getElem?
      intro i
      rw [Array.getElem?_modify, List.getElem?_toArray, List.getElem?_toArray, List.getElem?_set]
      by_cases hi : j = i
      · subst hi
        obtain ⟨_, hme⟩ := List.getElem?_eq_some_iff.1 hm0
        simp [hjl, hme]
      · simp [hi]
    rw [this]
end Ev
end Go.Proofs.YtlkgdpdnhnakoaaGreatDoor

namespace Go.Proofs.YtlkgdpdnhnakoaaGreatDoor
namespace Ev
variable {X : Type} {E : Xs X} {G : Nat} {A : Tab} {V : Vn} {h : Hp X} {w : World} {tm : T AV} {nt : Nat} {a : Act} {o : Oper}

theorem got_snd {P : Program} {z : AV} {h' : Hp X} {e : Sem Value} (ho : execOp a.eval o = (e >>= fun z => (pure (Next.value z) : Sem Next))) (g : Got E G V h w (e.run P w) z h') : Snd E G P V h w (.val z h') ((execOp a.eval o).run P w) := by
  obtain ⟨u, w', V', g1, g2, g3, g4⟩ := g
  exact ⟨u, w', V', by rw [ho]; exact run_bind_ok g1, g2, g3, g4⟩
theorem ex_makeMap (s : Sim E G V h w) {t : TypeId} (ho : o.op = .makeMap t none) : Snd E G A.P V h w (.val (.V (.C (.M (some h.next)))) (h.add (.map [] 0))) ((execOp a.eval o).run A.P w) := by
  refine got_snd (e := Instr.makeMap t none) (by simp only [execOp, ho]; rfl) ?_
  obtain ⟨s1, s2⟩ := s.add (p := ⟨w.heap.size, 0, 0, 0, 0⟩) (ob := .map [] 0) (w' := { w with heap := w.heap.push (.map #[] 0) }) rfl ⟨[], by simp, trivial⟩ (fun j hj => by simp [Array.getElem?_push, Nat.ne_of_lt hj]) (by simp)
  exact ⟨_, _, _, rfl, ⟨_, named_self _ _ _, rfl⟩, s1, s2⟩
theorem asInt_run {P : Program} (k : IntKind) (n : Int) (w : World) {β : Type} (f : Int → Sem β) : (asInt (.int k n) >>= f).run P w = (f n).run P w := rfl
theorem wrap_small {n : Nat} (hn : n ≤ 65536) : IntKind.i64.wrap (n : Int) = n := wrap_i64 (by omega) (by omega)
theorem zeros_get {c : Nat} {zl : List Ce} {i : Nat} {x : Ce} (hi : i < (rep c zl).length) (g : (zeros c zl).get i = some x) : (rep c zl)[i]? = some x := by
  have all : ∀ (y : Ce) (n i : Nat) (x : Ce), (T.all n y).get i = some x → x = y := fun y n => by
    induction n with
    | zero => intro i x g; exact absurd g (by rw [show T.all 0 y = .e from rfl, T.get_e]; simp)
    | succ n ih =>
      intro i x g
      have e : T.all (n + 1) y = .nd (some y) (T.all n y) (T.all n y) := rfl
      rw [e] at g
      cases i with
      | zero => rw [T.get_zero] at g; exact (Option.some.inj g).symm
      | succ i => rw [T.get_succ] at g; split at g <;> exact ih _ _ g
  unfold zeros at g
  split at g
  case h_1 y r =>
    split at g
    case h_1 hs =>
      have := all y _ _ _ g
      subst this
      rw [rep_length] at hi
      rw [rep_get _ _ _ hi]
      have hm : ∀ (l : List Ce), sameC x l = true → ∀ z ∈ l, z = x := by
        intro l
        induction l with
        | nil => intro _ z hz; cases hz
        | cons a l ih =>
          intro q z hz
          have q : (match decide (a = x) with | true => sameC x l | false => false) = true := q
          split at q
          · rename_i hd
            rcases List.mem_cons.1 hz with rfl | hz
            · exact of_decide_eq_true hd
            · exact ih q z hz
          · cases q
      have hlt : i % (x :: r).length < (x :: r).length := Nat.mod_lt _ (by simp)
      rw [List.getElem?_eq_getElem hlt]
      congr 1
      rcases List.mem_cons.1 (List.getElem_mem hlt) with e | e
      · exact e
      · exact hm r hs _ e
    case h_2 => exact T.get_ofL g
  case h_2 => exact T.get_ofL g
theorem ex_makeSlice (hA : A.Ok) (s : Sim E G V h w) (ht : TmR V tm nt a.tmps) {t e : TypeId} {x y : Operand} (ho : o.op = .makeSlice t x y) {k1 k2 : IntKind} {n c k : Nat} {zl : List Ce} (h1 : A.und t = some (.slice e)) (hx : opd G tm x = some (.V (.C (.I k1 (.ofNat n))))) (hy : opd G tm y = some (.V (.C (.I k2 (.ofNat c)))))
    (hk : A.elt e = some (k, zl)) (hnc : n ≤ c) (hc : c ≤ 65536) : Snd E G A.P V h w (.val (.V (.C (.L (some (h.next, 0)) n (.k c)))) (h.add (.cells (zeros c zl) (Nat.mul c k) none))) ((execOp a.eval o).run A.P w) := by
  obtain ⟨i, hi, rfl, hk1, hby, zv, hzv, hlen, hrel⟩ := elt_ok hA hk
  refine got_snd (e := Instr.makeSlice t (a.eval x) (a.eval y)) (by simp only [execOp, ho]) ?_
  rw [int_of s ht hx, int_of s ht hy]
  have hsz : zv.cells.size = i.size := (hrel V).length.symm.trans hlen
  have h2 : ∀ m : Nat, m ≤ 65536 → ¬ ((i.bytes : Int) * (m : Int) > 2 ^ 48) := fun m hm => by
    have h3 : i.bytes * m ≤ 65536 * 65536 := Nat.mul_le_mul hby hm
    have : ¬ ((i.bytes : Int) * (m : Int) > 281474976710656) := by rw [← Int.natCast_mul]; omega
    exact this
  have hz : ∀ (z : Array Value), (c * i.size = 0 ∧ z = #[] ∨ z = zv.cells) → All2 (Ce.rel V) (rep c zl) ((Array.range (c * i.size)).map (fun j => z[j % z.size]!)).toList := fun z hz => by
    rcases hz with ⟨h0, rfl⟩ | rfl
    · have : c = 0 := by
        rcases Nat.mul_eq_zero.1 h0 with q | q
        · exact q
        · omega
      subst this
      simp [rep, All2]
    · exact zeros_rel (hrel V) c _ (by rw [hsz])
  have hlen2 : (rep c zl).length = c * i.size := by rw [rep_length, hlen]
  have fin : ∀ (z : Array Value), (c * i.size = 0 ∧ z = #[] ∨ z = zv.cells) → ∀ {run : Result Value},
      run = .ok (.slice (some ⟨w.heap.size, 0, none⟩) n c) { w with heap := w.heap.push (.cells ((Array.range (c * i.size)).map (fun j => z[j % z.size]!)) e (0, 0)) } → Got E G V h w run (.V (.C (.L (some (h.next, 0)) n (.k c)))) (h.add (.cells (zeros c zl) (Nat.mul c i.size) none)) := fun z hz' run hr => by
    obtain ⟨s1, s2⟩ := newCells s (rest := []) (hz z hz') e 1 (c * i.size) (by simp [hlen2]) none (fun _ e => by cases e) (0, 0) (.inl rfl) { w with heap := w.heap.push (.cells ((Array.range (c * i.size)).map (fun j => z[j % z.size]!)) e (0, 0)) } (by simp only [List.append_nil, Array.toArray_toList]) (n := c * i.size) hlen2.symm (t := zeros c zl) (fun i x hi g => zeros_get hi g)
    exact ⟨_, _, _, hr, ⟨_, pNew _ _ _ _, rfl⟩, s1, s2⟩
  unfold Instr.makeSlice
  rw [run_und (hA.und h1)]
  simp only
  rw [asInt_run, asInt_run, run_info hi]
  simp only [Int.ofNat_eq_natCast, wrap_small hc, wrap_small (Nat.le_trans hnc hc)]
  have e1 : (((c : Int) < 0) || decide ((i.bytes : Int) * (c : Int) > 2 ^ 48)) = false := by
    have := h2 c hc
    simp only [decide_eq_false this, Bool.or_false, decide_eq_false_iff_not]
    omega
  have e2 : ¬ ((n : Int) < 0) := by omega
  have e3 : ¬ ((n : Int) > (c : Int)) := by omega
  simp only [e1, e2, e3, Bool.false_eq_true, decide_false, Bool.or_self, if_false, Int.toNat_natCast]
  rw [run_bind_ok (run_askRoom _ _), run_bind_ok (run_size hi w)]
  by_cases h0 : c * i.size = 0
  · simp only [if_pos h0]
    rw [run_bind_ok (a := #[]) rfl, run_bind_ok (run_newRow _ _ _)]
    exact fin #[] (.inl ⟨h0, rfl⟩) rfl
  · simp only [if_neg h0]
    rw [run_bind_ok (run_zero hi hzv w)]
    show Got E G V h w ((newRow e _ >>= _).run A.P w) _ _
    rw [run_bind_ok (run_newRow _ _ _)]
    exact fin zv.cells (.inr rfl) rfl

/-! ### Parts filled in -/
theorem setL_len : ∀ (l : List Ce) (o : Nat) (cs : List Ce), (setL l o cs).length = l.length
  | l, o, [] => by cases o <;> cases l <;> rfl
  | [], o, _ :: _ => by cases o <;> rfl
  | _ :: l, 0, c :: cs => by simp [setL, setL_len l 0 cs]
  | _ :: l, o + 1, c :: cs => by simp [setL, setL_len l o (c :: cs)]
theorem setL_get : ∀ (l : List Ce) (o : Nat) (cs : List Ce) (i : Nat), o + cs.length ≤ l.length → (setL l o cs)[i]? = if o ≤ i ∧ i < o + cs.length then cs[i - o]? else l[i]?
  | l, o, [], i, _ => by
    rw [if_neg (by simp only [List.length_nil]; omega)]
    cases o <;> cases l <;> rfl
  | [], o, _ :: _, i, hle => by simp only [List.length_cons, List.length_nil] at hle; omega
  | y :: l, 0, c :: cs, i, hle => by
    cases i with
    | zero => simp [setL]
    | succ i =>
      simp only [List.length_cons] at hle
      have := setL_get l 0 cs i (by omega)
      simp only [setL, List.getElem?_cons_succ, List.length_cons, Nat.zero_add, Nat.zero_le, true_and, Nat.sub_zero] at this ⊢
      rw [this]
      by_cases h1 : i < cs.length
      · rw [if_pos h1, if_pos (by omega)]
      · rw [if_neg h1, if_neg (by omega)]
  | y :: l, o + 1, c :: cs, i, hle => by
    cases i with
    | zero => rw [if_neg (by omega)]; rfl
    | succ i =>
      simp only [List.length_cons] at hle
      have := setL_get l o (c :: cs) i (by simp only [List.length_cons]; omega)
      simp only [setL, List.getElem?_cons_succ] at this ⊢
      rw [this]
      by_cases h1 : o ≤ i ∧ i < o + (c :: cs).length
      · rw [if_pos h1, if_pos (by omega), show i + 1 - (o + 1) = i - o by omega]
      · rw [if_neg h1, if_neg (by omega)]
theorem zip_foldl (o : Nat) : ∀ (vs : List Value) (c : Array Value) (k : Nat), (vs.zipIdx k).foldl (fun cs (x : Value × Nat) => cs.setIfInBounds (o + x.2) x.1) c = setRun c (o + k) vs
  | [], _, _ => rfl
  | v :: vs, c, k => by
    simp only [List.zipIdx_cons, List.foldl_cons, setRun]
    exact zip_foldl o vs _ (k + 1)
theorem fill_run {place : Nat → Option (Nat × Nat)} {q : Nat → Option (Nat × Nat)} (hp : ∀ i x, place i = some x → q i = some x) : ∀ {ps : List (Nat × A0)} {l l' : List Ce} {ps' : List (Nat × Value)} {c : Array Value}, fillC place l ps = some l' → All2 (Ce.rel V) l c.toList →
    All2 (fun (x : Nat × A0) (y : Nat × Value) => x.1 = y.1 ∧ x.2.rel V y.2) ps ps' → ∃ c', Instr.fill q c ps' = some c' ∧ All2 (Ce.rel V) l' c'.toList
  | [], l, l', [], c, hf, hl, _ => by injection hf with hf; subst hf; exact ⟨c, rfl, hl⟩
  | (i, v) :: ps, l, l', (j, u) :: ps', c, hf, hl, hr => by
    obtain ⟨⟨e, r⟩, hr'⟩ := hr
    simp only at e r
    subst e
    unfold fillC at hf
    split at hf
    case h_1 => cases hf
    rename_i o n hpl
    split at hf
    case h_2 => cases hf
    rename_i e1 e2
    have e1' : v.cells.length = n := Nat.eq_of_beq_eq_true e1
    have e2' : o + n ≤ l.length := Nat.le_of_ble_eq_true e2
    have rc := A0.rel.cells r
    have hsz : u.cells.size = n := (rc.length.symm.trans e1' : u.cells.toList.length = n)
    have hls : l.length = c.size := hl.length
    have hset : All2 (Ce.rel V) (setL l o v.cells) (setRun c o u.cells.toList).toList := by
      refine All2.of_get (by rw [setL_len, hls]; exact (setRun_size _ _ _).symm) fun k x hk => ?_
      rw [setL_get _ _ _ _ (by rw [e1']; exact e2')] at hk
      have hg := setRun_get u.cells.toList c o k (by rw [Array.length_toList, hsz, ← hls]; exact e2')
      rw [Array.getElem?_toList, hg, Array.length_toList, hsz]
      rw [e1'] at hk
      split at hk
      case isTrue h1 => rw [if_pos h1]; exact rc.get hk
      case isFalse h1 =>
        rw [if_neg h1]
        obtain ⟨y, y1, y2⟩ := hl.get hk
        exact ⟨y, by rw [Array.getElem?_toList] at y1; exact y1, y2⟩
    obtain ⟨c', g1, g2⟩ := fill_run hp hf hset hr'
    refine ⟨c', ?_, g2⟩
    unfold Instr.fill
    rw [hp _ _ hpl]
    simp only
    rw [if_neg (by rw [hsz]; simp; omega)]
    have : u.cells.zipIdx.foldl (fun cs (x : Value × Nat) => cs.setIfInBounds (o + x.2) x.1) c = setRun c o u.cells.toList := by
      rw [← Array.foldl_toList, Array.toList_zipIdx]
      exact zip_foldl o _ c 0
    rw [← g1, ← this]
theorem pairs_rel (s : Sim E G V h w) (ht : TmR V tm nt a.tmps) : ∀ {ps : List (Nat × Operand)} {qs : List (Nat × A0)}, pairs G tm ps = some qs → All2 (fun (x : Nat × A0) (y : Nat × Value) => x.1 = y.1 ∧ x.2.rel V y.2) qs (ps.map fun x => (x.1, a.eval x.2))
  | [], qs, q => by injection q with q; subst q; trivial
  | (i, x) :: ps, qs, q => by
    unfold pairs at q
    split at q
    case h_2 => cases q
    rename_i z hz
    split at q
    case h_1 => cases q
    rename_i r hr
    injection q with q; subst q
    exact ⟨⟨rfl, opd_rel s ht hz⟩, pairs_rel s ht hr⟩
end Ev
end Go.Proofs.YtlkgdpdnhnakoaaGreatDoor

namespace Go.Proofs.YtlkgdpdnhnakoaaGreatDoor
namespace Ev
variable {X : Type} {E : Xs X} {G : Nat} {A : Tab} {V : Vn} {h : Hp X} {w : World} {tm : T AV} {nt : Nat} {a : Act} {o : Oper}

theorem nthP_get : ∀ {l : List (Nat × Nat)} {i : Nat} {x : Nat × Nat}, nthP l i = some x → l[i]? = some x
  | _ :: _, 0, _, h => h
  | _ :: l, i + 1, _, h => nthP_get (l := l) (i := i) h
theorem places_run (hA : A.Ok) (w : World) : ∀ {fs : List Field} {ps : List (Nat × Nat)}, placesO A fs = some ps → (fs.mapM (fun f => do pure (f.offset, ← sizeOf f.type) : Field → Sem (Nat × Nat))).run A.P w = .ok ps w
  | [], ps, q => by injection q with q; subst q; rfl
  | f :: fs, ps, q => by
    unfold placesO at q
    split at q
    case h_2 => cases q
    rename_i n r hn hr
    injection q with q; subst q
    rw [List.mapM_cons, run_bind_ok (a := (f.offset, n)) (w' := w) (by rw [run_bind_ok (hA.size hn w)]; rfl), run_bind_ok (places_run hA w hr)]
    rfl
theorem ex_build (hA : A.Ok) (s : Sim E G V h w) (ht : TmR V tm nt a.tmps) {t : TypeId} {ps : Array (Nat × Operand)} (ho : o.op = .build t ps) {fs : Array Field} (h1 : A.und t = some (.struct fs)) {z l : List Ce} {qs : List (Nat × A0)} {pl : List (Nat × Nat)} (hz : A.zero t = some (.G z)) (hq : pairs G tm ps.toList = some qs)
    (hp : placesO A fs.toList = some pl) (q : fillC (nthP pl) z qs = some l) : Snd E G A.P V h w (.val (.V (.G l)) h) ((execOp a.eval o).run A.P w) := by
  obtain ⟨zv, z1, z2⟩ := zero_run (V := V) hA hz w
  have rc := A0.rel.cells z2
  obtain ⟨c', f1, f2⟩ := fill_run (q := fun i => pl.toArray[i]?) (fun i x hx => by simpa using nthP_get hx) q rc (pairs_rel s ht hq)
  refine snd_of s (e := Instr.build t (ps.map fun (i, x) => (i, a.eval x))) (m := .agg c') (by simp only [execOp, ho]) ?_ ⟨c'.toList, f2, by simp⟩
  unfold Instr.build
  rw [run_bind_ok z1, run_und (hA.und h1)]
  simp only
  have hm : (fs.mapM (fun f => do pure (f.offset, ← sizeOf f.type) : Field → Sem (Nat × Nat))).run A.P w = .ok pl.toArray w := by
    rw [Array.mapM_eq_mapM_toList, map_eq_pure_bind, run_bind_ok (places_run hA w hp)]
    rfl
  rw [run_bind_ok hm]
  simp only [Array.toList_map]
  rw [f1]
  rfl
theorem ex_build_arr (hA : A.Ok) (s : Sim E G V h w) (ht : TmR V tm nt a.tmps) {t : TypeId} {ps : Array (Nat × Operand)} (ho : o.op = .build t ps) {n k : Nat} {e : TypeId} (h1 : A.und t = some (.array n e)) {z l : List Ce} {qs : List (Nat × A0)} (hz : A.zero t = some (.G z)) (hq : pairs G tm ps.toList = some qs)
    (hk : A.size e = some k) (q : fillC (fun i => some (i * k, k)) z qs = some l) : Snd E G A.P V h w (.val (.V (.G l)) h) ((execOp a.eval o).run A.P w) := by
  obtain ⟨zv, z1, z2⟩ := zero_run (V := V) hA hz w
  have rc := A0.rel.cells z2
  obtain ⟨c', f1, f2⟩ := fill_run (q := fun i => some (i * k, k)) (fun i x hx => hx) q rc (pairs_rel s ht hq)
  refine snd_of s (e := Instr.build t (ps.map fun (i, x) => (i, a.eval x))) (m := .agg c') (by simp only [execOp, ho]) ?_ ⟨c'.toList, f2, by simp⟩
  unfold Instr.build
  rw [run_bind_ok z1, run_und (hA.und h1)]
  simp only
  rw [run_bind_ok (hA.size hk w)]
  simp only [Array.toList_map]
  rw [f1]
  rfl
theorem ex_buildSlice (hA : A.Ok) (s : Sim E G V h w) (ht : TmR V tm nt a.tmps) {t : TypeId} {n : Nat} {ps : Array (Nat × Operand)} (ho : o.op = .buildSlice t n ps) {e : TypeId} {k : Nat} {zl l : List Ce} {qs : List (Nat × A0)} (h1 : A.und t = some (.slice e)) (hk : A.elt e = some (k, zl)) (hq : pairs G tm ps.toList = some qs)
    (q : fillC (fun i => some (i * k, k)) (rep n zl) qs = some l) (hn : n * k ≤ 16777216) : Snd E G A.P V h w (.val (.V (.C (.L (some (h.next, 0)) n (.k n)))) (h.add (.cells (T.ofL l) (Nat.mul n k) none))) ((execOp a.eval o).run A.P w) := by
  obtain ⟨i, hi, rfl, hk1, hby, zv, hzv, hlen, hrel⟩ := elt_ok hA hk
  refine got_snd (e := Instr.buildSlice t n (ps.map fun (i, x) => (i, a.eval x))) (by simp only [execOp, ho]) ?_
  have hsz : zv.cells.size = i.size := (hrel V).length.symm.trans hlen
  have fin : ∀ (z : Array Value), All2 (Ce.rel V) (rep n zl) ((Array.range (n * i.size)).map (fun j => z[j % z.size]!)).toList → Got E G V h w ((match Instr.fill (fun j => some (j * i.size, i.size)) ((Array.range (n * i.size)).map (fun j => z[j % z.size]!)) (ps.map fun ((i, x) : Nat × Operand) => (i, a.eval x)).toList with
      | some cells => (do pure (.slice (some (← newRow e cells)) n n) : Sem Value)
      | _ => stuck "buildSlice: a part of the wrong size").run A.P w) (.V (.C (.L (some (h.next, 0)) n (.k n)))) (h.add (.cells (T.ofL l) (Nat.mul n i.size) none)) := fun z hz => by
    obtain ⟨c', f1, f2⟩ := fill_run (q := fun j => some (j * i.size, i.size)) (fun i x hx => hx) q hz (pairs_rel s ht hq)
    rw [Array.toList_map, f1]
    simp only
    rw [run_bind_ok (run_newRow _ _ _)]
    have hl : l.length = n * i.size := by
      have hfl : ∀ (ps : List (Nat × A0)) (l l' : List Ce), fillC (fun j => some (j * i.size, i.size)) l ps = some l' → l'.length = l.length := by
        intro ps
        induction ps with
        | nil => intro l l' e; injection e with e; rw [e]
        | cons p ps ih =>
          intro l l' e
          obtain ⟨j, v⟩ := p
          unfold fillC at e
          simp only at e
          split at e
          case h_2 => cases e
          rw [ih _ _ e, setL_len]
      rw [hfl _ _ _ q, rep_length, hlen]
    obtain ⟨s1, s2⟩ := newCells s (rest := []) f2 e 1 (n * i.size) (by simp [hl]) none (fun _ e => by cases e) (0, 0) (.inl rfl) { w with heap := w.heap.push (.cells c' e (0, 0)) } (by simp only [List.append_nil, Array.toArray_toList]) (n := n * i.size) hl.symm (t := T.ofL l) (fun i x _ g => T.get_ofL g)
    exact ⟨_, _, _, rfl, ⟨_, pNew _ _ _ _, rfl⟩, s1, s2⟩
  unfold Instr.buildSlice
  rw [run_und (hA.und h1)]
  simp only
  rw [run_bind_ok (run_size hi w), if_neg (show ¬ (n * i.size > 2 ^ 24) by have : ¬ (n * i.size > 16777216) := by omega
                                                                           exact this)]
  by_cases h0 : n * i.size = 0
  · simp only [if_pos h0]
    refine fin #[] ?_
    have : n = 0 := by
      rcases Nat.mul_eq_zero.1 h0 with q | q
      · exact q
      · omega
    subst this
    simp [rep, All2]
  · simp only [if_neg h0]
    rw [run_bind_ok (run_zero hi hzv w)]
    exact fin zv.cells (zeros_rel (hrel V) n _ (by rw [hsz]))

/-! ### Smallest, largest, clear of a slice -/
theorem min_run {P : Program} {k : IntKind} : ∀ {l : List AV} {b c : Int} {vs : List Value} (w : World), minI k b l = some c → All2 (AV.rel V) l vs → (vs.foldlM Builtin.min2 (.int k b)).run P w = .ok (.int k c) w
  | [], b, c, [], w, q, _ => by injection q with q; subst q; rfl
  | .V (.C (.I j y)) :: l, b, c, v :: vs, w, q, hr => by
    obtain ⟨r, hr'⟩ := hr
    have : v = .int j y := r
    subst this
    unfold minI at q
    rw [List.foldlM_cons, run_bind_ok (a := .int k (if y < b then y else b)) (w' := w) rfl]
    refine min_run w ?_ hr'
    rw [← q]
    congr 1
    by_cases h1 : y < b <;> simp [h1]
theorem max_run {P : Program} {k : IntKind} : ∀ {l : List AV} {b c : Int} {vs : List Value} (w : World), maxI k b l = some c → All2 (AV.rel V) l vs → (vs.foldlM Builtin.max2 (.int k b)).run P w = .ok (.int k c) w
  | [], b, c, [], w, q, _ => by injection q with q; subst q; rfl
  | .V (.C (.I j y)) :: l, b, c, v :: vs, w, q, hr => by
    obtain ⟨r, hr'⟩ := hr
    have : v = .int j y := r
    subst this
    unfold maxI at q
    rw [List.foldlM_cons, run_bind_ok (a := .int k (if y > b then y else b)) (w' := w) rfl]
    refine max_run w ?_ hr'
    rw [← q]
    congr 1
    by_cases h1 : b < y <;> simp [h1]
theorem bi_min (s : Sim E G V h w) {ts : Array TypeId} {ty : TypeId} {k : IntKind} {b c : Int} {l : List AV} (q : minI k b l = some c) {v : Value} {vs : List Value} (r : (AV.V (.C (.I k b))).rel V v) (hr : All2 (AV.rel V) l vs) :
    Got E G V h w ((Builtin.min_ ts ty (v :: vs).toArray).run A.P w) (.V (.C (.I k c))) h := by
  have : v = .int k b := r
  subst this
  exact .same s (min_run w q hr) rfl
theorem bi_max (s : Sim E G V h w) {ts : Array TypeId} {ty : TypeId} {k : IntKind} {b c : Int} {l : List AV} (q : maxI k b l = some c) {v : Value} {vs : List Value} (r : (AV.V (.C (.I k b))).rel V v) (hr : All2 (AV.rel V) l vs) :
    Got E G V h w ((Builtin.max_ ts ty (v :: vs).toArray).run A.P w) (.V (.C (.I k c))) h := by
  have : v = .int k b := r
  subst this
  exact .same s (max_run w q hr) rfl
theorem bi_clear (hA : A.Ok) (s : Sim E G V h w) {t e ty : TypeId} {ts : List TypeId} (ht : A.und t = some (.slice e)) {b o n : Nat} {c : Cap} {z : A0} (hz : A.zero e = some z) {h' : Hp X} (q : storeAt h b o (rep n z.cells) = some h') {v : Value} (r : (AV.V (.C (.L (some (b, o)) n c))).rel V v) :
    Got E G V h w ((Builtin.clear_ (t :: ts).toArray ty #[v]).run A.P w) (.U []) h' := by
  obtain ⟨zv, z1, z2⟩ := zero_run (V := V) hA hz w
  have rc := A0.rel.cells z2
  have hzs : All2 (Ce.rel V) (rep n z.cells) (Builtin.zeroCells zv.cells n).toList := zeros_rel rc n _ rfl
  have : ∃ x cap, pR V (b, o) x ∧ v = .slice (some x) n cap := by
    cases c with
    | k c => obtain ⟨y, h1, e⟩ := r; exact ⟨y, _, h1, e⟩
    | e d => obtain ⟨p', h1, _, e⟩ := r; exact ⟨_, _, ⟨p', h1, rfl⟩, e⟩
  obtain ⟨x, cap, hx, rfl⟩ := this
  obtain ⟨w', s1, s2, s3⟩ := storeAt_run (P := A.P) s q hx hzs
  cases n with
  | zero =>
    have e1 : w' = w := by
      have hz0 : (Builtin.zeroCells zv.cells 0).toList = [] := by simp [Builtin.zeroCells]
      rw [hz0] at s1
      injection s1 with _ s1
      exact s1.symm
    subst e1
    refine ⟨.tuple #[], w', V, ?_, ⟨[], trivial, rfl⟩, s2, s3⟩
    unfold Builtin.clear_
    simp only [List.getElem?_toArray, List.getElem?_cons_zero]
    rw [run_und (hA.und ht)]
    rfl
  | succ n =>
    refine ⟨.tuple #[], w', V, ?_, ⟨[], trivial, rfl⟩, s2, s3⟩
    unfold Builtin.clear_
    simp only [List.getElem?_toArray, List.getElem?_cons_zero]
    rw [run_und (hA.und ht)]
    simp only
    rw [run_bind_ok z1, run_bind_ok s1]
    rfl
end Ev
end Go.Proofs.YtlkgdpdnhnakoaaGreatDoor

namespace Go.Proofs.YtlkgdpdnhnakoaaGreatDoor
namespace Ev
variable {X : Type} {E : Xs X} {G : Nat} {A : Tab} {V : Vn} {h : Hp X} {w : World} {tm : T AV} {nt : Nat} {a : Act} {o : Oper}

theorem iter_add (s : Sim E G V h w) {m : Option Nat} {r : Option Nat} (hr : onR V m r) (c : Nat) :
    Got E G V h w ((do pure (.pointer (some ⟨← newObj (.mapIter r c #[] c), 0, none⟩)) : Sem Value).run A.P w) (.V (.C (.P (some (h.next, 0))))) (h.add (.iter m c [] c)) := by
  have hn : V h.next = none := s.new _ (Nat.le_refl _)
  obtain ⟨s1, s2⟩ := s.add (p := ⟨w.heap.size, 0, 0, 0, 0⟩) (ob := .iter m c [] c) (w' := { w with heap := w.heap.push (.mapIter r c #[] c) }) rfl ⟨r, rfl, by
    cases m with
    | none => exact hr
    | some x => obtain ⟨p', r1, r2⟩ := hr; exact ⟨p', named_le hn _ _ r1, r2⟩, by simp⟩ (fun j hj => by simp [Array.getElem?_push, Nat.ne_of_lt hj]) (by simp)
  exact ⟨_, _, _, rfl, ⟨_, pNew _ _ _ _, rfl⟩, s1, s2⟩
theorem ex_range_nil (hA : A.Ok) (s : Sim E G V h w) (ht : TmR V tm nt a.tmps) {t : TypeId} {x : Operand} (ho : o.op = .range t x) {k e : TypeId} (h1 : A.und t = some (.map k e)) (hx : opd G tm x = some (.V (.C (.M none)))) :
    Snd E G A.P V h w (.val (.V (.C (.P (some (h.next, 0))))) (h.add (.iter none 0 [] 0))) ((execOp a.eval o).run A.P w) := by
  have e1 : a.eval x = .map none := opd_rel s ht hx
  refine got_snd (e := Instr.range t (a.eval x)) (by simp only [execOp, ho]) ?_
  unfold Instr.range
  rw [e1, run_und (hA.und h1)]
  exact iter_add s (m := none) rfl 0
theorem ex_range (hA : A.Ok) (s : Sim E G V h w) (ht : TmR V tm nt a.tmps) {t : TypeId} {x : Operand} (ho : o.op = .range t x) {k e : TypeId} (h1 : A.und t = some (.map k e)) {r : Nat} (hx : opd G tm x = some (.V (.C (.M (some r))))) {es : List (Ce × A0 × Nat)} {c : Nat} (hg : h.t.get r = some (.map es c)) :
    Snd E G A.P V h w (.val (.V (.C (.P (some (h.next, 0))))) (h.add (.iter (some r) c [] c))) ((execOp a.eval o).run A.P w) := by
  obtain ⟨p, ms, hp, e1, hb, hm⟩ := map_at s hg (opd_rel s ht hx)
  refine got_snd (e := Instr.range t (a.eval x)) (by simp only [execOp, ho]) ?_
  unfold Instr.range
  rw [e1, run_und (hA.und h1)]
  simp only
  rw [run_getObj hb (fun _ _ _ e => by cases e)]
  exact iter_add s (m := some r) ⟨p, hp, rfl⟩ c
/-- An iterator turns. -/
theorem iter_turn (s : Sim E G V h w) {r : Nat} {m : Option Nat} {since last last' : Nat} {seen seen' : List Nat} (hg : h.t.get r = some (.iter m since seen last)) {p : Pl} (hp : V r = some p) {q : Option Nat} (hq : onR V m q) {w' : World} (hw : w'.heap = w.heap.setIfInBounds p.bl (.mapIter q since seen'.reverse.toArray last')) (hO : Outer w w' := by exact ⟨rfl, rfl, rfl⟩) :
    Sim E G V ⟨h.t.put r (.iter m since seen' last'), h.next⟩ w' ∧ Ext E V h w V ⟨h.t.put r (.iter m since seen' last'), h.next⟩ w' := by
  obtain ⟨p', hp', q', q0, q1, q2⟩ := s.ob _ _ hg
  rw [hp] at hp'; cases hp'
  have hlt := (Array.getElem?_eq_some_iff.1 q2).1
  refine s.turn hg hp rfl ⟨q, q0, hq, by rw [hw]; simp [hlt]⟩ (fun j _ hj => ?_) (by rw [hw]; simp) hO
  simp only [foot, List.mem_singleton] at hj
  rw [hw]; exact Array.getElem?_setIfInBounds_ne (fun e => hj e.symm)
theorem iter_at (s : Sim E G V h w) {r : Nat} {m : Option Nat} {since last : Nat} {seen : List Nat} (hg : h.t.get r = some (.iter m since seen last)) {v : Value} (q : (AV.V (.C (.P (some (r, 0))))).rel V v) :
    ∃ p y, V r = some p ∧ v = .pointer (some ⟨p.bl, 0, none⟩) ∧ onR V m y ∧ w.heap[p.bl]? = some (.mapIter y since seen.reverse.toArray last) := by
  obtain ⟨x, ⟨p, hp, rfl⟩, rfl⟩ := q
  obtain ⟨p', hp', y, q0, q1, q2⟩ := s.ob _ _ hg
  rw [hp] at hp'; cases hp'
  exact ⟨p, y, hp, by rw [q0]; rfl, q1, q2⟩
theorem All2.filter {α β : Type} {R : α → β → Prop} {p : α → Bool} {q : β → Bool} (hpq : ∀ a b, R a b → p a = q b) : ∀ {l : List α} {m : List β}, All2 R l m → All2 R (l.filter p) (m.filter q)
  | [], [], _ => trivial
  | a :: l, b :: m, h => by
    have ih := All2.filter hpq h.2
    simp only [List.filter_cons, hpq a b h.1]
    cases q b
    · exact ih
    · exact ⟨h.1, ih⟩
theorem run_choose1 {P : Program} (w : World) : ∃ w', (choose (.mapNext 1)).run P w = .ok 0 w' ∧ w'.heap = w.heap ∧ Outer w w' := by
  by_cases hf : (Question.mapNext 1).forced = true
  · exact ⟨_, by simp [choose, Sem.run, Question.forced], rfl, ⟨rfl, rfl, rfl⟩⟩
  · exact (hf (by simp [Question.forced])).elim
/-- A step of a loop over a map, where no entry, or one old one, is left. -/
theorem next_run {P : Program} {b m ty : Nat} {since last clock : Nat} {seen : List Nat} {ms : List MapEntry} (hi : w.heap[b]? = some (.mapIter (some m) since seen.reverse.toArray last)) (hm : w.heap[m]? = some (.map ms.toArray clock)) {left : List MapEntry} (hl : ms.filter (fun e => !(seen.any (Nat.beq e.born))) = left)
    (hg : seen = [] ∨ ms = [] ∨ ∃ e ∈ ms, e.born < last) :
    (left = [] → ∃ w', (Instr.next (.pointer (some ⟨b, 0, none⟩)) false ty).run P w = .ok (.tuple #[.bool false]) w' ∧ w'.heap = w.heap ∧ Outer w w') ∧
    (∀ e, left = [e] → e.born < since → ∃ w', (Instr.next (.pointer (some ⟨b, 0, none⟩)) false ty).run P w = .ok (.tuple #[.bool true, e.key, e.val]) w' ∧ w'.heap = w.heap.setIfInBounds b (.mapIter (some m) since (e.born :: seen).reverse.toArray clock) ∧ Outer w w') := by
  have hguard : (!(seen.reverse.toArray.isEmpty) && !(ms.toArray.isEmpty) && ms.toArray.all (fun e => decide (e.born ≥ last))) = false := by
    rcases hg with rfl | rfl | ⟨e, he, hlt⟩
    · rfl
    · simp
    · have : ms.toArray.all (fun e => decide (e.born ≥ last)) = false := by
        rw [Bool.eq_false_iff]
        intro h
        rw [Array.all_eq_true'] at h
        have := h e (by simpa using he)
        simp only [ge_iff_le, decide_eq_true_eq] at this
        omega
      rw [this, Bool.and_false]
  have hleft : ms.toArray.filter (fun e => !(seen.reverse.toArray.contains e.born)) = left.toArray := by
    rw [← hl, List.filter_toArray]
    congr 2
    funext e
    congr 1
    rw [List.contains_toArray, List.contains_reverse, List.contains_eq_any_beq]
    congr 1
    funext x
    rw [Bool.eq_iff_iff, Nat.beq_eq]
    simp
  constructor
  · rintro rfl
    obtain ⟨w', c1, c2, c3⟩ := run_choose1 (P := P) w
    refine ⟨w', ?_, c2, c3⟩
    unfold Instr.next
    simp only
    rw [run_getObj hi (fun _ _ _ e => by cases e)]
    simp only
    rw [run_getObj hm (fun _ _ _ e => by cases e)]
    simp only [hguard, hleft, Bool.false_eq_true, if_false]
    simp only [List.filter_toArray', List.filter_nil, List.isEmpty_toArray, List.isEmpty_nil, if_true, List.append_toArray, List.append_nil, List.map_toArray, List.map_nil, List.size_toArray, List.length_cons, List.length_nil]
    rw [run_bind_ok c1]
    rfl
  · rintro e rfl hlt
    obtain ⟨w', c1, c2, c3⟩ := run_choose1 (P := P) w
    refine ⟨{ w' with heap := w'.heap.setIfInBounds b (.mapIter (some m) since (e.born :: seen).reverse.toArray clock) }, ?_, by rw [c2], ⟨c3.os, c3.tape, c3.output⟩⟩
    unfold Instr.next
    simp only
    rw [run_getObj hi (fun _ _ _ e => by cases e)]
    simp only
    rw [run_getObj hm (fun _ _ _ e => by cases e)]
    have hge : ¬ (e.born ≥ since) := by omega
    simp only [hguard, hleft, Bool.false_eq_true, if_false]
    simp only [List.filter_toArray', List.filter_cons, List.filter_nil, hlt, hge, decide_true, decide_false, Bool.false_eq_true, if_true, if_false, List.isEmpty_toArray, List.isEmpty_cons, List.append_toArray, List.append_nil, List.nil_append, List.map_toArray, List.map_cons, List.map_nil, List.size_toArray, List.length_cons, List.length_nil, Nat.zero_add]
    rw [run_bind_ok c1]
    simp only [List.getElem?_toArray, List.getElem?_cons_zero]
    rw [run_bind_ok (a := ()) (w' := { w' with heap := w'.heap.setIfInBounds b (.mapIter (some m) since (e.born :: seen).reverse.toArray clock) })]
    · rfl
    · have hi' : w'.heap[b]? = some (.mapIter (some m) since seen.reverse.toArray last) := by rw [c2]; exact hi
      simp [setObj, Sem.run, hi']
end Ev
end Go.Proofs.YtlkgdpdnhnakoaaGreatDoor

namespace Go.Proofs.YtlkgdpdnhnakoaaGreatDoor
namespace Ev
variable {X : Type} {E : Xs X} {G : Nat} {A : Tab} {V : Vn} {h : Hp X} {w : World} {tm : T AV} {nt : Nat} {a : Act} {o : Oper}

theorem ex_next_nil (s : Sim E G V h w) (ht : TmR V tm nt a.tmps) {x : Operand} (ho : o.op = .next x false) {r : Nat} (hx : opd G tm x = some (.V (.C (.P (some (r, 0)))))) {s1 s3 : Nat} {s2 : List Nat} (hi : h.t.get r = some (.iter none s1 s2 s3)) :
    Snd E G A.P V h w (.val (.U [.C (.B false)]) h) ((execOp a.eval o).run A.P w) := by
  obtain ⟨p, y, hp, e1, hy, hb⟩ := iter_at s hi (opd_rel s ht hx)
  have : y = none := hy
  subst this
  refine snd_of s (e := Instr.next (a.eval x) false o.type) (m := .tuple #[.bool false]) (by simp only [execOp, ho]) ?_ ⟨[.bool false], ⟨rfl, trivial⟩, rfl⟩
  unfold Instr.next
  rw [e1]
  simp only
  rw [run_getObj hb (fun _ _ _ e => by cases e)]
  rfl
theorem next_pre (s : Sim E G V h w) {r m : Nat} {v : Value} (r1 : (AV.V (.C (.P (some (r, 0))))).rel V v) {since last : Nat} {seen : List Nat} (hi : h.t.get r = some (.iter (some m) since seen last)) {es : List (Ce × A0 × Nat)} {c : Nat} (hm : h.t.get m = some (.map es c))
    (hg : seen = [] ∨ es = [] ∨ es.any (fun e => Nat.ble (Nat.succ e.2.2) last) = true) :
    ∃ p q ms, V r = some p ∧ V m = some q ∧ v = .pointer (some ⟨p.bl, 0, none⟩) ∧ w.heap[p.bl]? = some (.mapIter (some q.bl) since seen.reverse.toArray last) ∧ w.heap[q.bl]? = some (.map (List.toArray ms) c) ∧ All2 (mR V) es ms ∧
      (seen = [] ∨ ms = [] ∨ ∃ e ∈ ms, e.born < last) ∧ All2 (mR V) (es.filter fun e => !(seen.any (Nat.beq e.2.2))) (ms.filter fun e => !(seen.any (Nat.beq e.born))) := by
  obtain ⟨p, y, hp, e1, hy, hb⟩ := iter_at s hi r1
  obtain ⟨q, hq, rfl⟩ := hy
  obtain ⟨q', hq', ms, q1, q2⟩ := s.ob _ _ hm
  rw [hq] at hq'; cases hq'
  refine ⟨p, q, ms, hp, hq, e1, hb, q1, q2, ?_, q2.filter fun x y hxy => by rw [hxy.2.2]⟩
  rcases hg with g | g | g
  · exact .inl g
  · subst g
    refine .inr (.inl ?_)
    have := q2.length
    simp only [List.length_nil] at this
    exact List.eq_nil_of_length_eq_zero this.symm
  · obtain ⟨e, he, hlt⟩ := List.any_eq_true.1 g
    obtain ⟨i, hi2, e2⟩ := List.getElem_of_mem he
    obtain ⟨y, y1, y2⟩ := q2.get (show es[i]? = some e by rw [List.getElem?_eq_getElem hi2, e2])
    refine .inr (.inr ⟨y, List.mem_of_getElem? y1, ?_⟩)
    rw [y2.2.2]
    exact Nat.le_of_ble_eq_true hlt
theorem ex_next_over (s : Sim E G V h w) (ht : TmR V tm nt a.tmps) {x : Operand} (ho : o.op = .next x false) {r m : Nat} (hx : opd G tm x = some (.V (.C (.P (some (r, 0)))))) {since last : Nat} {seen : List Nat} (hi : h.t.get r = some (.iter (some m) since seen last)) {es : List (Ce × A0 × Nat)} {c : Nat} (hm : h.t.get m = some (.map es c))
    (hg : seen = [] ∨ es = [] ∨ es.any (fun e => Nat.ble (Nat.succ e.2.2) last) = true) (hl : (es.filter fun e => !(seen.any (Nat.beq e.2.2))) = []) :
    Snd E G A.P V h w (.val (.U [.C (.B false)]) h) ((execOp a.eval o).run A.P w) := by
  obtain ⟨p, q, ms, hp, hq, e1, hb, hq1, hms, hg', hf⟩ := next_pre s (opd_rel s ht hx) hi hm hg
  rw [hl] at hf
  have hnil : (ms.filter fun e => !(seen.any (Nat.beq e.born))) = [] := by
    have := hf.length
    simp only [List.length_nil] at this
    exact List.eq_nil_of_length_eq_zero this.symm
  obtain ⟨w', n1, n2, n3⟩ := (next_run (P := A.P) (ty := o.type) hb hq1 hnil hg').1 rfl
  refine got_snd (e := Instr.next (a.eval x) false o.type) (by simp only [execOp, ho]) ⟨_, w', V, by rw [e1]; exact n1, ⟨[.bool false], ⟨rfl, trivial⟩, rfl⟩, s.heap n2, Ext.heap V h n2 n3⟩
theorem ex_next_step (s : Sim E G V h w) (ht : TmR V tm nt a.tmps) {x : Operand} (ho : o.op = .next x false) {r m : Nat} (hx : opd G tm x = some (.V (.C (.P (some (r, 0)))))) {since last : Nat} {seen : List Nat} (hi : h.t.get r = some (.iter (some m) since seen last)) {es : List (Ce × A0 × Nat)} {c : Nat} (hm : h.t.get m = some (.map es c))
    (hg : seen = [] ∨ es = [] ∨ es.any (fun e => Nat.ble (Nat.succ e.2.2) last) = true) {k : Ce} {v : A0} {n : Nat} (hl : (es.filter fun e => !(seen.any (Nat.beq e.2.2))) = [(k, v, n)]) (hn : n < since) :
    Snd E G A.P V h w (.val (.U [.C (.B true), .C k, v]) ⟨h.t.put r (.iter (some m) since (n :: seen) c), h.next⟩) ((execOp a.eval o).run A.P w) := by
  obtain ⟨p, q, ms, hp, hq, e1, hb, hq1, hms, hg', hf⟩ := next_pre s (opd_rel s ht hx) hi hm hg
  rw [hl] at hf
  obtain ⟨e, he⟩ : ∃ e, (ms.filter fun e => !(seen.any (Nat.beq e.born))) = [e] := by
    have := hf.length
    exact List.length_eq_one_iff.1 this.symm
  rw [he] at hf
  obtain ⟨⟨r1, r2, r3⟩, _⟩ := hf
  have r3' : e.born = n := r3
  obtain ⟨w', n1, n2, n3⟩ := (next_run (P := A.P) (ty := o.type) hb hq1 he hg').2 e rfl (by rw [r3']; exact hn)
  rw [r3'] at n2
  obtain ⟨s1, s2⟩ := iter_turn (last' := c) (seen' := n :: seen) s hi hp (q := some q.bl) ⟨q, hq, rfl⟩ n2 n3
  exact got_snd (e := Instr.next (a.eval x) false o.type) (by simp only [execOp, ho]) ⟨_, w', V, by rw [e1]; exact n1, ⟨[.bool true, e.key, e.val], ⟨rfl, r1, r2, trivial⟩, rfl⟩, s1, s2⟩
theorem All2.find {α β : Type} {R : α → β → Prop} {p : α → Bool} {q : β → Bool} (hpq : ∀ a b, R a b → p a = q b) : ∀ {l : List α} {m : List β}, All2 R l m → ∀ {x : α}, l.find? p = some x → ∃ y, m.find? q = some y ∧ R x y
  | a :: l, b :: m, h, x, hx => by
    rw [List.find?_cons] at hx
    rw [List.find?_cons, ← hpq a b h.1]
    cases hp : p a with
    | true => rw [hp] at hx; cases hx; exact ⟨b, rfl, h.1⟩
    | false => rw [hp] at hx; exact All2.find hpq h.2 hx
theorem ex_entry (s : Sim E G V h w) (ht : TmR V tm nt a.tmps) {x : Operand} (ho : o.op = .entry x) {r m : Nat} (hx : opd G tm x = some (.V (.C (.P (some (r, 0)))))) {since last sx : Nat} {seen : List Nat} (hi : h.t.get r = some (.iter (some m) since (sx :: seen) last)) {es : List (Ce × A0 × Nat)} {c : Nat} (hm : h.t.get m = some (.map es c))
    (hc : Nat.beq c last = true) {k : Ce} {v : A0} {n : Nat} (hl : es.find? (fun e => Nat.beq e.2.2 sx) = some (k, v, n)) : Snd E G A.P V h w (.val (.U [.C k, v]) h) ((execOp a.eval o).run A.P w) := by
  obtain ⟨p, y, hp, e1, hy, hb⟩ := iter_at s hi (opd_rel s ht hx)
  obtain ⟨q, hq, rfl⟩ := hy
  obtain ⟨q', hq', ms, q1, q2⟩ := s.ob _ _ hm
  rw [hq] at hq'; cases hq'
  have hc' : c = last := Nat.eq_of_beq_eq_true hc
  subst hc'
  obtain ⟨e, he, r1, r2, r3⟩ := q2.find (q := fun e => e.born == sx) (fun x y hxy => by rw [hxy.2.2, Bool.eq_iff_iff, Nat.beq_eq]; simp) hl
  refine snd_of s (e := Instr.entry (a.eval x)) (m := .tuple #[e.key, e.val]) (by simp only [execOp, ho]) ?_ ⟨[e.key, e.val], ⟨r1, r2, trivial⟩, rfl⟩
  unfold Instr.entry
  rw [e1]
  simp only
  rw [run_getObj hb (fun _ _ _ e => by cases e)]
  have hback : ((sx :: seen).reverse.toArray).back? = some sx := by simp
  simp only [hback]
  rw [run_getObj q1 (fun _ _ _ e => by cases e)]
  simp only [bne_self_eq_false, Bool.false_eq_true, if_false, List.find?_toArray, he]
  rfl

/-! ### Strings and bytes -/
theorem run_stringish {P : Program} {b o : Nat} {c : Array Value} {ty : TypeId} {fz : Nat × Nat} (hb : w.heap[b]? = some (.cells c ty fz)) (hfz : fz.1 = fz.2 ∨ c.size ≤ fz.1) :
    ∃ fz', (fz'.1 = fz'.2 ∨ c.size ≤ fz'.1) ∧ (markStringish ⟨b, o, none⟩).run P w = .ok () (setBlk w b (.cells c ty fz')) := by
  refine ⟨if fz.1 == fz.2 then (c.size, c.size + 1) else (min fz.1 c.size, max fz.2 (c.size + 1)), .inr ?_, ?_⟩
  · split
    · exact Nat.le_refl _
    · rename_i hne
      rcases hfz with h1 | h1
      · exact (hne (by simp [h1])).elim
      · show c.size ≤ min fz.1 c.size
        omega
  · have hsh : w.shape? b = some (ty, c.size) := by simp [World.shape?, hb]
    unfold markStringish
    rw [run_bind_ok (a := some (ty, c.size)) (w' := w) (by simp [shape, Sem.run, hsh])]
    show Result.ok () _ = _
    congr 1
    unfold World.freeze setBlk
    rw [if_neg (by omega)]
    congr 1
    apply Array.ext_getElem?
    intro i
    rw [Array.getElem?_modify, Array.getElem?_setIfInBounds]
    by_cases hi : b = i
    · subst hi
      obtain ⟨hlt, e⟩ := Array.getElem?_eq_some_iff.1 hb
      simp [hlt, e]
    · simp [hi]
theorem bytes_rel : ∀ (l : List UInt8), All2 (Ce.rel V) (l.map fun b => Ce.I .u8 (.ofNat b.toNat)) (l.map fun b => Value.int .u8 (b.toNat : Nat))
  | [] => trivial
  | _ :: l => ⟨rfl, bytes_rel l⟩
theorem ex_conv_bytes (hA : A.Ok) (s : Sim E G V h w) (ht : TmR V tm nt a.tmps) {t1 t2 e : TypeId} {x : Operand} (ho : o.op = .convert t1 t2 x) {d : TypeDesc} {l : List UInt8} (h1 : A.und t1 = some d) (h2 : A.und t2 = some (.slice e)) (h3 : A.und e = some (.int .u8))
    (hu : opd G tm x = some (.V (.C (.S l)))) : Snd E G A.P V h w (.val (.V (.C (.L (some (h.next, 0)) l.length (.e 0)))) (h.add (.cells (T.ofL (l.map fun b => .I .u8 (.ofNat b.toNat))) l.length (some 1)))) ((execOp a.eval o).run A.P w) := by
  refine got_snd (e := convert t1 t2 (a.eval x)) (by simp only [execOp, ho]) ?_
  have e1 : a.eval x = .string ⟨l.toArray⟩ := str_of s ht hu
  obtain ⟨c, hc1, hc2⟩ := run_choose_cap (P := A.P) l.length 0 e w
  have start : (convert t1 t2 (a.eval x)).run A.P w = (Conv.stringToBytes e ⟨l.toArray⟩).run A.P w := by
    unfold convert
    rw [e1, run_und (hA.und h1), run_und (hA.und h2)]
    cases d <;> (simp only; rw [run_und (hA.und h3)])
  rw [start]
  let elems : List Value := l.map fun b => .int .u8 (b.toNat : Nat)
  let rest : List Value := List.replicate (c - l.length) (.int .u8 0)
  have hrow : ((⟨l.toArray⟩ : ByteArray).data.map (fun b => Value.int .u8 b.toNat)) ++ Array.replicate (c - (⟨l.toArray⟩ : ByteArray).size) (Value.int .u8 0) = (elems ++ rest).toArray := by
    apply Array.toList_inj.1
    simp [elems, rest]
    rfl
  have hrel : All2 (Ce.rel V) (l.map fun b => Ce.I .u8 (.ofNat b.toNat)) elems := bytes_rel l
  have hlen : (l.map fun b => Ce.I .u8 (.ofNat b.toNat)).length = l.length := List.length_map ..
  have hrl : rest.length = c - l.length := List.length_replicate ..
  have hel : elems.length = l.length := List.length_map ..
  have hbk : (w.heap.push (.cells (elems ++ rest).toArray e (0, 0)))[w.heap.size]? = some (.cells (elems ++ rest).toArray e (0, 0)) := by simp
  obtain ⟨fz, f1, f2⟩ := run_stringish (P := A.P) (o := 0) (w := { w with drawn := w.drawn + 1, heap := w.heap.push (.cells (elems ++ rest).toArray e (0, 0)) }) hbk (.inl rfl)
  have hw : (setBlk { w with drawn := w.drawn + 1, heap := w.heap.push (.cells (elems ++ rest).toArray e (0, 0)) } w.heap.size (.cells (elems ++ rest).toArray e fz)).heap = w.heap.push (.cells (elems ++ rest).toArray e fz) := by
    unfold setBlk
    apply Array.ext_getElem?
    intro i
    simp only [Array.getElem?_setIfInBounds, Array.getElem?_push, Array.size_push]
    by_cases hi : w.heap.size = i
    · subst hi; simp
    · rw [if_neg hi, if_neg (fun e => hi e.symm), if_neg (fun e => hi e.symm)]
  obtain ⟨s1, s2⟩ := newCells s (rest := rest) hrel e 1 c (by rw [hlen, hrl]; omega) (some 1) (fun _ e => by cases e; rfl) fz (by
    rcases f1 with q | q
    · exact .inl q
    · refine .inr ?_
      rw [List.size_toArray, List.length_append, hel] at q
      rw [hlen]; exact q) (setBlk { w with drawn := w.drawn + 1, heap := w.heap.push (.cells (elems ++ rest).toArray e (0, 0)) } w.heap.size (.cells (elems ++ rest).toArray e fz)) hw (n := l.length) hlen.symm (t := T.ofL (l.map fun b => .I .u8 (.ofNat b.toNat))) (fun i x _ g => T.get_ofL g)
  refine ⟨.slice (some ⟨w.heap.size, 0, none⟩) l.length c, _, _, ?_, ⟨_, named_self _ _ _, by simpa using hc1, by simp⟩, s1, s2⟩
  unfold Conv.stringToBytes
  have hsz : (⟨l.toArray⟩ : ByteArray).size = l.length := rfl
  rw [hsz, run_bind_ok hc2]
  simp only
  rw [hsz] at hrow
  rw [hrow, run_bind_ok (run_newRow _ _ _), run_bind_ok f2]
  rfl
theorem bytes_loop {P : Program} {f : Value → ByteArray → Sem (ForInStep ByteArray)} (hf : ∀ (n : Int) s w, (f (.int .u8 n) s).run P w = .ok (.yield (s.push (UInt8.ofNat n.toNat))) w) : ∀ {l : List Ce} {r : List UInt8} {vs : List Value} (acc : List UInt8) (w : World), bytesOf l = some r → All2 (Ce.rel V) l vs →
    Sem.run P (forIn (m := Sem) vs (⟨acc.toArray⟩ : ByteArray) f) w = Result.ok (⟨(acc ++ r).toArray⟩ : ByteArray) w
  | [], r, [], acc, w, q, _ => by injection q with q; subst q; simp
  | .I .u8 n :: l, r, v :: vs, acc, w, q, hr => by
    obtain ⟨r1, hr'⟩ := hr
    have : v = .int .u8 n := r1
    subst this
    unfold bytesOf at q
    split at q
    case h_1 => cases q
    rename_i r' hr2
    injection q with q; subst q
    rw [List.forIn_cons, run_bind_ok (hf n _ w)]
    have := bytes_loop hf (acc ++ [UInt8.ofNat n.toNat]) w hr2 hr'
    have e : (⟨acc.toArray⟩ : ByteArray).push (UInt8.ofNat n.toNat) = ⟨(acc ++ [UInt8.ofNat n.toNat]).toArray⟩ := by
      unfold ByteArray.push
      simp
    simp only [e]
    rw [this]
    simp
theorem ex_conv_string (hA : A.Ok) (s : Sim E G V h w) (ht : TmR V tm nt a.tmps) {t1 t2 e : TypeId} {x : Operand} (ho : o.op = .convert t1 t2 x) {pa : Option (Nat × Nat)} {n : Nat} {c : Cap} {l : List Ce} {r : List UInt8} (h1 : A.und t1 = some (.slice e)) (h2 : A.und t2 = some .string) (h3 : A.und e = some (.int .u8))
    (hu : opd G tm x = some (.V (.C (.L pa n c)))) (hr : rowOf h 1 (.L pa n c) n = some l) (hb : bytesOf l = some r) : Snd E G A.P V h w (.val (.V (.C (.S r))) h) ((execOp a.eval o).run A.P w) := by
  have r1 : (AV.V (.C (.L pa n c))).rel V (a.eval x) := opd_rel s ht hu
  obtain ⟨vs, f1, f2⟩ := run_firstCells (A := A) s hr r1
  refine snd_of s (e := convert t1 t2 (a.eval x)) (m := .string ⟨r.toArray⟩) (by simp only [execOp, ho]) ?_ rfl
  obtain ⟨p, cap, e1⟩ := slice_of r1
  rw [e1] at f2 ⊢
  have start : (convert t1 t2 (.slice p n cap)).run A.P w = (Conv.bytesToString (.slice p n cap)).run A.P w := by
    unfold convert
    rw [run_und (hA.und h1), run_und (hA.und h2)]
    simp only
    rw [run_und (hA.und h3)]
  rw [start]
  cases p with
  | none =>
    have hv := f2 w rfl
    have : vs = [] := by
      injection hv with hv
      have := congrArg Array.toList hv
      simpa using this.symm
    subst this
    have hl : l = [] := List.eq_nil_of_length_eq_zero f1.length
    subst hl
    injection hb with hb; subst hb
    rfl
  | some ad =>
    have hv : (loadCells ad n).run A.P w = .ok vs.toArray w := by
      have := f2 w rfl
      simp only [Builtin.firstCells, Nat.mul_one] at this
      exact this
    unfold Conv.bytesToString
    simp only
    rw [run_bind_ok hv]
    simp only [List.forIn_toArray]
    refine (run_bind_ok (bytes_loop ?_ [] w hb f1)).trans ?_
    · exact fun _ _ _ => rfl
    · rfl
theorem ex_conv_same (hA : A.Ok) (s : Sim E G V h w) (ht : TmR V tm nt a.tmps) {t e : TypeId} {x : Operand} (ho : o.op = .convert t t x) {b p n : Nat} {c : Cap} (h1 : A.und t = some (.slice e)) (h3 : A.und e = some (.int .u8))
    (hu : opd G tm x = some (.V (.C (.L (some (b, p)) n c)))) {tc : T Ce} {m : Nat} {ext : Option Nat} (hg : h.t.get b = some (.cells tc m ext)) : Snd E G A.P V h w (.val (.V (.C (.L (some (b, p)) n c))) h) ((execOp a.eval o).run A.P w) := by
  have r1 : (AV.V (.C (.L (some (b, p)) n c))).rel V (a.eval x) := opd_rel s ht hu
  obtain ⟨q, hq, c0, ty, fz, hc, hfz, hcr⟩ := s.ob _ _ hg
  have : ∃ cap, a.eval x = .slice (some ⟨q.bl, q.of + p, none⟩) n cap := by
    cases c with
    | k c => obtain ⟨y, ⟨q', h1, rfl⟩, e⟩ := r1; rw [hq] at h1; cases h1; exact ⟨_, e⟩
    | e d => obtain ⟨q', h1, _, e⟩ := r1; rw [hq] at h1; cases h1; exact ⟨_, e⟩
  obtain ⟨cap, e1⟩ := this
  obtain ⟨fz', f1, f2⟩ := run_stringish (P := A.P) (o := q.of + p) hc hfz
  have key : Sim E G V h (setBlk w q.bl (.cells c0 ty fz')) ∧ Ext E V h w V h (setBlk w q.bl (.cells c0 ty fz')) := by
    have hj : ∀ j, j ≠ q.bl → (setBlk w q.bl (.cells c0 ty fz')).heap[j]? = w.heap[j]? := fun j hj => setBlk_ne hj
    refine ⟨⟨s.new, s.glob, fun b' ob g => ?_, s.apart⟩, .refl V, by rw [setBlk_size]; exact Nat.le_refl _, Nat.le_refl _, fun j _ hn => ⟨hj j fun e => hn ⟨b, _, q, hg, hq, by simp [foot, e]⟩, hn⟩, fun _ _ => rfl, ⟨rfl, rfl, rfl⟩⟩
    obtain ⟨p', q1, q2⟩ := s.ob b' ob g
    refine ⟨p', q1, ?_⟩
    by_cases hbb : b' = b
    · subst hbb
      rw [hg] at g; cases g
      rw [hq] at q1; cases q1
      exact ⟨c0, ty, fz', setBlk_self hc, f1, hcr⟩
    · exact q2.keep (.refl V) (fun j hf => hj j fun e => hbb (s.apart b' ob p' b _ q j g hg q1 hq hf (by simp [foot, e]))) (by rw [setBlk_size]; exact Nat.le_refl _)
  refine got_snd (e := convert t t (a.eval x)) (by simp only [execOp, ho]) ⟨a.eval x, _, V, ?_, r1, key.1, key.2⟩
  unfold convert
  rw [e1, run_und (hA.und h1), run_und (hA.und h1)]
  simp only [beq_self_eq_true]
  rw [run_und (hA.und h3)]
  simp only
  rw [run_bind_ok f2]
  rfl
end Ev
end Go.Proofs.YtlkgdpdnhnakoaaGreatDoor
