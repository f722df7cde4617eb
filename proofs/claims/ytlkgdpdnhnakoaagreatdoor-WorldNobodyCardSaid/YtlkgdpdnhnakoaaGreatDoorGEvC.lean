/- GEvC: EvS, EvT, EvU, EvV, EvW, EvX, EvY, EvZ. -/
import Derived.Test.YtlkgdpdnhnakoaaGreatDoorGEvB
import Derived.AtR
import Derived.Defers
import Derived.RangeFuncIn
import Derived.RangeFuncRecord
namespace Go.Proofs.YtlkgdpdnhnakoaaGreatDoor
namespace Ev
variable {X : Type} {E : Xs X} {G : Nat} {A : Tab} {V : Vn} {h : Hp X} {w : World} {tm : T AV} {nt : Nat} {a : Act} {o : Oper}

theorem builtinO_run (hA : A.Ok) (s : Sim E G V h w) {b : Builtin} {ts : List TypeId} {args : List AV} {z : AV} {h' : Hp X} (q : builtinO A h b ts args = some (z, h')) {xs : List Value} (hr : All2 (AV.rel V) args xs) (ty : TypeId) (consts : Array Bool) :
    ∃ e : Sem Value, builtin b ts.toArray ty consts xs.toArray = (e >>= fun v => (pure (.value v) : Sem Next)) ∧ Got E G V h w (e.run A.P w) z h' := by
  have one : ∀ {x : AV}, All2 (AV.rel V) [x] xs → ∃ v, xs = [v] ∧ x.rel V v := fun {x} hr => by
    match xs, hr with
    | [v], hr => exact ⟨v, rfl, hr.1⟩
  have two : ∀ {x y : AV}, All2 (AV.rel V) [x, y] xs → ∃ v u, xs = [v, u] ∧ x.rel V v ∧ y.rel V u := fun {x y} hr => by
    match xs, hr with
    | [v, u], hr => exact ⟨v, u, rfl, hr.1, hr.2.1⟩
  unfold builtinO at q
  split at q
  case h_1 x t ts =>
    obtain ⟨v, rfl, r⟩ := one hr
    refine ⟨_, rfl, ?_⟩
    split at q
    case h_1 h1 => injection q with q; injection q with q1 q2; subst q1; subst q2; exact bi_len_slice hA s h1 r
    case h_2 h1 => injection q with q; injection q with q1 q2; subst q1; subst q2; exact bi_len_str hA s h1 r
    case h_3 h1 => injection q with q; injection q with q1 q2; subst q1; subst q2; exact bi_len_nil hA s h1 r
    case h_4 h1 =>
      split at q
      case h_2 => cases q
      rename_i hg
      injection q with q; injection q with q1 q2; subst q1; subst q2
      exact bi_len_map hA s h1 hg r
    case h_5 => cases q
  case h_2 x t ts =>
    obtain ⟨v, rfl, r⟩ := one hr
    refine ⟨_, rfl, ?_⟩
    split at q
    case h_2 => cases q
    rename_i h1
    injection q with q; injection q with q1 q2; subst q1; subst q2
    exact bi_len_arr hA s h1
  case h_3 t ts =>
    obtain ⟨v, rfl, r⟩ := one hr
    refine ⟨_, rfl, ?_⟩
    split at q
    case h_2 => cases q
    rename_i h1
    injection q with q; injection q with q1 q2; subst q1; subst q2
    exact bi_cap hA s h1 r
  case h_4 pa n c x t u =>
    obtain ⟨v, v2, rfl, r1, r2⟩ := two hr
    refine ⟨_, rfl, ?_⟩
    split at q
    case h_2 => cases q
    rename_i e d h1 h2
    split at q
    case h_1 => cases q
    rename_i k zl hk
    split at q
    case h_1 hd =>
      split at q
      case h_2 => cases q
      rename_i m
      split at q
      case h_2 => cases q
      rename_i e1 e2
      have e3 : v2 = .int .i64 (Int.ofNat m) := r2
      subst e3
      cases d <;> first
        | (cases hd; done)
        | exact bi_append0 hA s h1 h2 hk (Nat.le_of_ble_eq_true e1) (Nat.le_of_ble_eq_true e2) q r1
    case h_2 hd =>
      split at q
      case h_1 => cases q
      rename_i m hm
      split at q
      case h_1 => cases q
      rename_i new hrow
      exact bi_append hA s h1 h2 hd hk hm hrow q r1 r2
  case h_5 pa n c x t ts =>
    obtain ⟨v, v2, rfl, r1, r2⟩ := two hr
    refine ⟨_, rfl, ?_⟩
    split at q
    case h_2 => cases q
    rename_i e h1
    split at q
    case h_2 => cases q
    rename_i k m hk hm
    split at q
    case h_1 => cases q
    rename_i new hrow
    split at q
    case h_1 =>
      injection q with q; injection q with q1 q2; subst q1; subst q2
      exact bi_copy hA s h1 hk hm hrow (pa := none) rfl r1 r2
    case h_2 b o =>
      split at q
      case h_1 => cases q
      rename_i h1' hs
      injection q with q; injection q with q1 q2; subst q1; subst q2
      exact bi_copy hA s h1 hk hm hrow (pa := some (b, o)) hs r1 r2
  case h_6 k b l ts =>
    match xs, hr with
    | v :: vs, hr =>
      refine ⟨_, rfl, ?_⟩
      split at q
      case h_2 => cases q
      rename_i hb
      injection q with q; injection q with q1 q2; subst q1; subst q2
      exact bi_min s hb hr.1 hr.2
  case h_7 k b l ts =>
    match xs, hr with
    | v :: vs, hr =>
      refine ⟨_, rfl, ?_⟩
      split at q
      case h_2 => cases q
      rename_i hb
      injection q with q; injection q with q1 q2; subst q1; subst q2
      exact bi_max s hb hr.1 hr.2
  case h_8 r k t ts =>
    obtain ⟨v, v2, rfl, r1, r2⟩ := two hr
    refine ⟨_, rfl, ?_⟩
    split at q
    case h_2 => cases q
    rename_i h1
    split at q
    case h_2 => cases q
    rename_i h2 h3
    split at q
    case h_2 => cases q
    rename_i h4
    injection q with q; injection q with q1 q2; subst q1; subst q2
    exact bi_delete hA s h1 h2 h3 h4 r1 r2
  case h_9 r t ts =>
    obtain ⟨v, rfl, r1⟩ := one hr
    refine ⟨_, rfl, ?_⟩
    split at q
    case h_2 => cases q
    rename_i h1 h2
    injection q with q; injection q with q1 q2; subst q1; subst q2
    exact bi_clear_map hA s h1 h2 r1
  case h_10 b o n c t ts =>
    obtain ⟨v, rfl, r1⟩ := one hr
    refine ⟨_, rfl, ?_⟩
    split at q
    case h_2 => cases q
    rename_i h1
    split at q
    case h_2 => cases q
    rename_i hz
    split at q
    case h_2 => cases q
    rename_i hs
    injection q with q; injection q with q1 q2; subst q1; subst q2
    exact bi_clear hA s h1 hz hs r1
  case h_11 => cases q

/-- What is asked of body-less functions. -/
structure IxOk (E : Xs X) (G : Nat) (A : Tab) (I : Ix X) : Prop where
  call : ∀ {f : FuncId} {F : Func} {args : List AV} {h h' : Hp X} {z : AV}, A.fn.get f = some F → F.body = none → I.call f args h = some (z, h') → ∀ {V : Vn} {w : World} {xs : List Value}, Sim E G V h w → All2 (AV.rel V) args xs →
    ∃ u w' V', (callFunc f xs.toArray).run A.P w = .ok (.value u) w' ∧ z.rel V' u ∧ Sim E G V' h' w' ∧ Ext E V h w V' h' w'
  bin : ∀ {op : BinOp} {t : TypeId} {x y z : AV} {h : Hp X}, I.bin op t x y h = some z → ∀ {V : Vn} {w : World} {u v : Value}, Sim E G V h w → x.rel V u → y.rel V v → ∀ a b : Operand,
    ∃ m, (eqGuard op t a b u v).run A.P w = .ok () w ∧ (binOp op t u v).run A.P w = .ok m w ∧ z.rel V m
  bi : ∀ {b : Builtin} {ts : List TypeId} {args : List AV} {z : AV} {h : Hp X}, I.bi b ts args h = some z → ∀ {V : Vn} {w : World} {xs : List Value}, Sim E G V h w → All2 (AV.rel V) args xs → ∀ (ty : TypeId) (consts : Array Bool),
    ∃ (e : Sem Value) (m : Value), builtin b ts.toArray ty consts xs.toArray = (e >>= fun v => (pure (.value v) : Sem Next)) ∧ e.run A.P w = .ok m w ∧ z.rel V m
/-- A binary operation, of known values or of others. -/
theorem ex_binE (hA : A.Ok) {I : Ix X} (hI : IxOk E G A I) (s : Sim E G V h w) (ht : TmR V tm nt a.tmps) {op : BinOp} {t yt : TypeId} {x y : Operand} (ho : o.op = .binOp op t x y yt) {u v z : AV} (hu : opd G tm x = some u) (hv : opd G tm y = some v)
    (q : binE A I op t u v h = some z) : Snd E G A.P V h w (.val z h) ((execOp a.eval o).run A.P w) := by
  unfold binE at q
  split at q
  case h_1 hb => injection q with q; subst q; exact ex_bin hA s ht ho hu hv hb
  case h_2 =>
    obtain ⟨m, g1, g2, g3⟩ := hI.bin q s (opd_rel s ht hu) (opd_rel s ht hv) x y
    refine .pure s (x := m) ?_ g3
    simp only [execOp, ho]
    exact run_guarded g1 g2
theorem ptrs_av : ∀ {l : List (Nat × Nat)} {vs : List Value}, All2 (fpR V) l vs → All2 (AV.rel V) (ofPtrs l) vs
  | [], [], _ => trivial
  | _ :: _, _ :: _, h => ⟨h.1, ptrs_av h.2⟩
theorem callO_snd (hA : A.Ok) {I : Ix X} (hI : IxOk E G A I) (s : Sim E G V h w) {f : FuncId} {args : List AV} {r : Res X} (q : callO A I h f args = some r) {xs : List Value} (hr : All2 (AV.rel V) args xs) : Snd E G A.P V h w r ((callFunc f xs.toArray).run A.P w) := by
  unfold callO at q
  split at q
  case h_1 => cases q
  rename_i F hF
  obtain ⟨hf, hn⟩ := hA.fn _ _ hF
  split at q
  case h_1 c hb =>
    injection q with q; subst q
    refine ⟨xs, ?_, hr⟩
    unfold callFunc
    have hp : (program.run A.P w) = .ok A.P w := rfl
    rw [run_bind_ok hp]
    simp only [hf, hn, hb, Option.isNone_some, Bool.false_eq_true, if_false]
    rfl
  case h_2 hb =>
    split at q
    case h_1 => cases q
    rename_i z h' hi
    injection q with q; subst q
    exact hI.call hF hb hi s hr
theorem args_rel (s : Sim E G V h w) (ht : TmR V tm nt a.tmps) {c : Array Operand} {l : List AV} (q : opds G tm c.toList = some l) : ∃ xs : List Value, c.map a.eval = xs.toArray ∧ All2 (AV.rel V) l xs :=
  ⟨c.toList.map a.eval, by apply Array.toList_inj.1; simp, opds_rel s ht q⟩
theorem ex_builtin (hA : A.Ok) {I : Ix X} (hI : IxOk E G A I) (s : Sim E G V h w) (ht : TmR V tm nt a.tmps) {c : Call} {b : Builtin} (ho : o.op = .call c) (hc : c.callee = .builtin b) {l : List AV} (hl : opds G tm c.args.toList = some l) {z : AV} {h' : Hp X} (q : builtinE A I h b c.argTypes.toList l = some (z, h')) :
    Snd E G A.P V h w (.val z h') ((execOp a.eval o).run A.P w) := by
  obtain ⟨xs, e1, hr⟩ := args_rel s ht hl
  have key : ∃ e : Sem Value, builtin b c.argTypes.toList.toArray o.type (c.args.map fun | .const _ => true | _ => false) xs.toArray = (e >>= fun v => (pure (.value v) : Sem Next)) ∧ Got E G V h w (e.run A.P w) z h' := by
    unfold builtinE at q
    split at q
    case h_1 r hb => injection q with q; subst q; exact builtinO_run hA s hb hr o.type _
    case h_2 =>
      split at q
      case h_2 => cases q
      rename_i u hu
      injection q with q; injection q with q1 q2; subst q1; subst q2
      obtain ⟨e, m, e1, e2, e3⟩ := hI.bi hu s hr o.type (c.args.map fun | .const _ => true | _ => false)
      exact ⟨e, e1, .same s e2 e3⟩
  obtain ⟨e, e2, g⟩ := key
  refine got_snd (e := e) ?_ g
  rw [← e2]
  simp only [execOp, ho, resolve, hc, pure_bind, invoke, e1]
  rfl
theorem ex_call (hA : A.Ok) {I : Ix X} (hI : IxOk E G A I) (s : Sim E G V h w) (ht : TmR V tm nt a.tmps) {c : Call} {x : Operand} (ho : o.op = .call c) (hc : c.callee = .value x) {f : FuncId} {fs cs : List (Nat × Nat)} (hx : opd G tm x = some (.V (.C (.F f fs cs)))) {l : List AV} (hl : opds G tm c.args.toList = some l)
    {r : Res X} (q : callO A I h f (ofPtrs fs ++ (l ++ ofPtrs cs)) = some r) : Snd E G A.P V h w r ((execOp a.eval o).run A.P w) := by
  obtain ⟨xs, e1, hr⟩ := args_rel s ht hl
  obtain ⟨fs', cs', r1, r2, e2⟩ : ∃ fs' cs' : List Value, All2 (fpR V) fs fs' ∧ All2 (fpR V) cs cs' ∧ a.eval x = .func (.func f) fs'.toArray cs'.toArray := opd_rel s ht hx
  have := callO_snd hA hI s q (xs := fs' ++ (xs ++ cs')) ((ptrs_av r1).append (hr.append (ptrs_av r2)))
  have e : execOp a.eval o = callFunc f (fs' ++ (xs ++ cs')).toArray := by
    simp only [execOp, ho, resolve, hc, e1, e2, Deferred.ofValue, pure_bind, invoke]
    congr 1
    simp
  rw [e]; exact this
theorem ex_yield (s : Sim E G V h w) (ht : TmR V tm nt a.tmps) {P : Program} {c : Call} {x : Operand} (ho : o.op = .call c) (hc : c.callee = .value x) {b : Nat} (hx : opd G tm x = some (.V (.C (.Y b)))) {l : List AV} (hl : opds G tm c.args.toList = some l) :
    Snd E G P V h w (.yld b l) ((execOp a.eval o).run P w) := by
  obtain ⟨xs, e1, hr⟩ := args_rel s ht hl
  obtain ⟨p, hp, e2⟩ : ∃ p, V b = some p ∧ a.eval x = .func (.yield p.bl) #[] #[] := opd_rel s ht hx
  refine ⟨p, xs, hp, ?_, hr⟩
  congr 1
  simp only [execOp, ho, resolve, hc, e1, e2, Deferred.ofValue, pure_bind, invoke]
  congr 1
  simp
theorem ex_defer (s : Sim E G V h w) (ht : TmR V tm nt a.tmps) {P : Program} {c : Call} {x : Operand} (ho : o.op = .defer c) (hc : c.callee = .value x) {f : FuncId} {fs cs : List (Nat × Nat)} (hx : opd G tm x = some (.V (.C (.F f fs cs)))) {l : List AV} (hl : opds G tm c.args.toList = some l) :
    Snd E G P V h w (.dfr f (ofPtrs fs ++ l) (ofPtrs cs)) ((execOp a.eval o).run P w) := by
  obtain ⟨xs, e1, hr⟩ := args_rel s ht hl
  obtain ⟨fs', cs', r1, r2, e2⟩ : ∃ fs' cs' : List Value, All2 (fpR V) fs fs' ∧ All2 (fpR V) cs cs' ∧ a.eval x = .func (.func f) fs'.toArray cs'.toArray := opd_rel s ht hx
  refine ⟨fs' ++ xs, cs', ?_, (ptrs_av r1).append hr, ptrs_av r2⟩
  have e : execOp a.eval o = pure (.defer { target := .fn (.func f) cs'.toArray, args := (fs' ++ xs).toArray }) := by
    simp only [execOp, ho, resolve, hc, e1, e2, Deferred.ofValue, pure_bind]
    simp
  rw [e]; rfl
end Ev
end Go.Proofs.YtlkgdpdnhnakoaaGreatDoor

namespace Go.Proofs.YtlkgdpdnhnakoaaGreatDoor
namespace Ev
variable {X : Type} {E : Xs X} {G : Nat} {A : Tab} {V : Vn} {h : Hp X} {w : World} {tm : T AV} {nt : Nat} {a : Act} {o : Oper}

theorem ov_some {v : Option AV} {r : Res X} (q : ov h v = some r) : ∃ u, v = some u ∧ r = .val u h := by
  cases v with
  | none => cases q
  | some u => injection q with q; exact ⟨u, rfl, q.symm⟩
theorem optO_none {x : Option Operand} (q : optO G tm x = some none) : x = none := by
  cases x with
  | none => rfl
  | some x => simp only [optO] at q; split at q <;> cases q
theorem in_lookup_snd (hA : A.Ok) (s : Sim E G V h w) (ht : TmR V tm nt a.tmps) {t : TypeId} {m k : Operand} {ok : Bool} (ho : o.op = .lookup t m k ok) {kt el : TypeId} {d : TypeDesc} (h1 : A.und t = some (.map kt el)) (hd : A.und kt = some d) {r : Option Nat} (hm : opd G tm m = some (.V (.C (.M r)))) {kc : Ce}
    (hk : opd G tm k = some (.V (.C kc))) {es : List (Ce × A0 × Nat)} (he : entriesO h r = some es) {f : Option A0} (q : mfind d kc es = some f) {z : A0} {b : Bool} (hz : (f = some z ∧ b = true) ∨ (f = none ∧ A.zero el = some z ∧ b = false)) :
    Snd E G A.P V h w (.val (if ok then .U [z, .C (.B b)] else .V z) h) ((execOp a.eval o).run A.P w) := by
  obtain ⟨u, u1, u2⟩ := in_lookup hA s h1 hd he q (opd_rel s ht hm) (opd_rel s ht hk) ok hz
  refine snd_of s (e := Instr.lookup t (a.eval m) (a.eval k) ok) (m := if ok then .tuple #[u, .bool b] else u) (by simp only [execOp, ho]) u2 ?_
  cases ok
  · exact u1
  · exact ⟨[u, .bool b], ⟨u1, rfl, trivial⟩, rfl⟩
theorem ex_update (hA : A.Ok) (s : Sim E G V h w) (ht : TmR V tm nt a.tmps) {t : TypeId} {m k x : Operand} (ho : o.op = .mapUpdate t m k x) {kt el : TypeId} {d : TypeDesc} (h1 : A.und t = some (.map kt el)) (hd : A.und kt = some d) {r : Nat} (hm : opd G tm m = some (.V (.C (.M (some r))))) {kc : Ce}
    (hk : opd G tm k = some (.V (.C kc))) {u : A0} (hx : opd G tm x = some (.V u)) {es es' : List (Ce × A0 × Nat)} {cl : Nat} (hg : h.t.get r = some (.map es cl)) {new : Bool} (hp : mput d kc u cl es = some (es', new)) {h' : Hp X} (hh : h' = ⟨h.t.put r (.map es' (if new then cl + 1 else cl)), h.next⟩) :
    Snd E G A.P V h w (.skip h') ((execOp a.eval o).run A.P w) := by
  obtain ⟨w', r1, r2, r3⟩ := in_update hA s h1 hd hg hp (opd_rel s ht hm) (opd_rel s ht hk) (opd_rel s ht hx) hh
  refine ⟨w', V, ?_, r2, r3⟩
  have : execOp a.eval o = (Instr.mapUpdate t (a.eval m) (a.eval k) (a.eval x) >>= fun _ => (pure Next.skip : Sem Next)) := by simp only [execOp, ho]
  rw [this]
  exact run_unit r1
theorem seen_or {sn : List Nat} {b : Bool} {p : Prop} (hno : ∀ x l, sn = x :: l → b = false → False) : sn = [] ∨ p ∨ b = true := by
  cases sn with
  | nil => exact .inl rfl
  | cons x0 l0 =>
    cases b with
    | true => exact .inr (.inr rfl)
    | false => exact (hno _ _ rfl rfl).elim
theorem execO_snd (hA : A.Ok) {I : Ix X} (hI : IxOk E G A I) (s : Sim E G V h w) (ht : TmR V tm nt a.tmps) {r : Res X} (q : execO A G I tm h o = some r) : Snd E G A.P V h w r ((execOp a.eval o).run A.P w) := by
  rw [execO_eq] at q
  unfold execS at q
  split at q
  case h_1 ho => exact ex_move s ht ho q
  case h_2 ho => exact ex_assign s ht ho q
  case h_3 c x y ho =>
    split at q
    case h_1 hc => exact ex_pick s ht ho (b := true) hc q
    case h_2 hc => exact ex_pick s ht ho (b := false) hc q
    case h_3 => cases q
  case h_4 ho =>
    split at q
    case h_1 => cases q
    rename_i z hz
    injection q with q; subst q
    exact ex_alloc hA s ho hz
  case h_5 ho =>
    split at q
    case h_2 => cases q
    rename_i z hz
    injection q with q; subst q
    exact ex_box s ht ho hz
  case h_6 ho =>
    split at q
    case h_1 hz hq h1 =>
      split at q
      case h_1 => cases q
      rename_i hp
      split at q
      case h_1 => cases q
      rename_i hf
      injection q with q; subst q
      exact ex_build hA s ht ho h1 hz hq hp hf
    case h_2 hz hq h1 =>
      split at q
      case h_1 => cases q
      rename_i hk
      split at q
      case h_1 => cases q
      rename_i hf
      injection q with q; subst q
      exact ex_build_arr hA s ht ho h1 hz hq hk hf
    case h_3 => cases q
  case h_7 ho =>
    split at q
    case h_2 => cases q
    rename_i h1
    split at q
    case h_2 => cases q
    rename_i hk hq
    split at q
    case h_2 => cases q
    rename_i hf hn
    injection q with q; subst q
    exact ex_buildSlice hA s ht ho h1 hk hq hf (Nat.le_of_ble_eq_true hn)
  case h_8 ho =>
    split at q
    case h_2 => cases q
    rename_i hx
    exact ex_load hA s ht ho hx q
  case h_9 ho =>
    split at q
    case h_2 => cases q
    rename_i hx hy hn
    split at q
    case h_2 => cases q
    rename_i hl hs
    injection q with q; subst q
    exact ex_store hA s ht ho hx hy hn (Nat.eq_of_beq_eq_true hl) hs
  case h_10 ho =>
    split at q
    case h_1 hx => injection q with q; subst q; exact ex_nilCheck s ht ho hx (.inl ⟨_, rfl⟩)
    case h_2 hx => injection q with q; subst q; exact ex_nilCheck s ht ho hx (.inr (.inl ⟨_, _, _, rfl⟩))
    case h_3 hx => injection q with q; subst q; exact ex_nilCheck s ht ho hx (.inr (.inr ⟨_, rfl⟩))
    case h_4 => cases q
  case h_11 ho =>
    split at q
    case h_2 => cases q
    rename_i hx hy
    obtain ⟨u, e1, rfl⟩ := ov_some q
    exact ex_binE hA hI s ht ho hx hy e1
  case h_12 ho =>
    split at q
    case h_2 => cases q
    rename_i hx
    obtain ⟨u, e1, rfl⟩ := ov_some q
    exact ex_un s ht ho hx e1
  case h_13 ho =>
    split at q
    case h_1 h1 h2 hx => injection q with q; subst q; exact ex_conv_int hA s ht ho h1 h2 hx
    case h_2 h1 h2 hx => injection q with q; subst q; exact ex_conv_str hA s ht ho h1 h2 hx
    case h_3 h1 h2 hx =>
      split at q
      case h_2 => cases q
      rename_i h3
      injection q with q; subst q
      exact ex_conv_bytes hA s ht ho h1 h2 h3 hx
    case h_4 h1 h2 hx =>
      split at q
      case h_2 => cases q
      rename_i h3 hr
      split at q
      case h_2 => cases q
      rename_i hb
      injection q with q; subst q
      exact ex_conv_string hA s ht ho h1 h2 h3 hx hr hb
    case h_5 h1 h2 hx =>
      split at q
      case h_2 => cases q
      rename_i hb h3 hg
      injection q with q; subst q
      have hb' := Nat.eq_of_beq_eq_true hb
      subst hb'
      exact ex_conv_same hA s ht ho h2 h3 hx hg
    case h_6 => cases q
  case h_14 ho =>
    split at q
    case h_2 => cases q
    rename_i h1 hx
    split at q
    case h_2 => cases q
    rename_i hn
    injection q with q; subst q
    exact ex_s2ap hA s ht ho h1 hx (Nat.le_of_ble_eq_true hn)
  case h_15 ho =>
    split at q
    case h_1 => cases q
    case h_2 hd h1 hx =>
      injection q with q; subst q
      exact ex_iface hA s ht ho h1 (fun ms e => hd ms e) hx
    case h_3 => cases q
  case h_16 ho =>
    split at q
    case h_1 => cases q
    case h_2 hd' h1 hx =>
      split at q
      case h_1 hb =>
        have hb' := Nat.eq_of_beq_eq_true hb
        subst hb'
        split at q
        case h_1 =>
          injection q with q; subst q
          exact ex_assert (ok := true) hA s ht ho h1 hd' hx
        case h_2 =>
          injection q with q; subst q
          exact ex_assert (ok := false) hA s ht ho h1 hd' hx
      case h_2 hb =>
        split at q
        case h_2 => cases q
        rename_i hz
        injection q with q; subst q
        exact ex_assert_no hA s ht ho h1 hd' hx (Nat.ne_of_beq_eq_false hb) hz
    case h_3 => cases q
  case h_17 ho =>
    split at q
    case h_2 => cases q
    rename_i h1 h2
    split at q
    case h_2 => cases q
    rename_i h3 h4
    injection q with q; subst q
    exact ex_func s ht ho h1 h2 h3 h4
  case h_18 ho =>
    injection q with q; subst q
    exact ex_makeMap s ho
  case h_19 ho =>
    split at q
    case h_2 => cases q
    rename_i h1 hx hy
    split at q
    case h_2 => cases q
    rename_i hk hnc hc
    injection q with q; subst q
    exact ex_makeSlice hA s ht ho h1 hx hy hk (Nat.le_of_ble_eq_true hnc) (Nat.le_of_ble_eq_true hc)
  case h_20 ho =>
    split at q
    case h_1 h1 hx hlo hhi hmx =>
      split at q
      case h_2 => cases q
      rename_i ha hb
      split at q
      case h_2 => cases q
      rename_i hab hbl
      injection q with q; subst q
      have := optO_none hmx
      subst this
      exact ex_slice_str hA s ht ho h1 hx hlo hhi ha hb (Nat.le_of_ble_eq_true hab) (Nat.le_of_ble_eq_true hbl)
    case h_2 h1 hx hlo hhi hmx =>
      split at q
      case h_1 => cases q
      rename_i hk
      split at q
      case h_1 => cases q
      rename_i hs
      injection q with q; subst q
      exact ex_slice hA s ht ho h1 hx hlo hhi hmx hk hs
    case h_3 h1 hx hlo hhi hmx =>
      split at q
      case h_1 => cases q
      rename_i hk
      split at q
      case h_1 => cases q
      rename_i hs
      injection q with q; subst q
      exact ex_slice_arr hA s ht ho h1 hx hlo hhi hmx hk hs
    case h_4 => cases q
  case h_21 ho =>
    split at q
    case h_2 => cases q
    rename_i h1 hx
    split at q
    case h_1 => cases q
    rename_i hf
    split at q
    case h_2 => cases q
    rename_i hn
    injection q with q; subst q
    exact ex_fieldAddr hA s ht ho h1 hx hf hn
  case h_22 ho =>
    split at q
    case h_2 => cases q
    rename_i h1 hx
    split at q
    case h_1 => cases q
    rename_i hf
    exact ex_field hA s ht ho h1 hx hf q
  case h_23 ho =>
    split at q
    case h_1 h1 hx hj =>
      split at q
      case h_2 => cases q
      rename_i hlt hk
      injection q with q; subst q
      exact ex_index hA s ht ho h1 hx hj (Nat.le_of_ble_eq_true hlt) hk
    case h_2 h1 hx hj =>
      split at q
      case h_2 => cases q
      rename_i hlt hk
      injection q with q; subst q
      exact ex_index_arr hA s ht ho h1 hx hj (Nat.le_of_ble_eq_true hlt) hk
    case h_3 => cases q
  case h_24 ho =>
    split at q
    case h_1 h1 hx hj =>
      split at q
      case h_2 => cases q
      rename_i hd
      injection q with q; subst q
      exact ex_index_str hA s ht ho h1 hx hj hd
    case h_2 h1 hx hj =>
      split at q
      case h_2 => cases q
      rename_i hlt hk
      exact ex_index_agg hA s ht ho h1 hx hj (Nat.le_of_ble_eq_true hlt) hk q
    case h_3 => cases q
  case h_25 ok ho =>
    split at q
    case h_2 => cases q
    rename_i h1 hm hk
    split at q
    case h_1 => cases q
    rename_i hd
    split at q
    case h_1 => cases q
    rename_i he
    split at q
    case h_1 => cases q
    case h_2 u hf =>
      split at q
      case h_1 =>
        injection q with q; subst q
        exact in_lookup_snd (ok := true) hA s ht ho h1 hd hm hk he hf (.inl ⟨rfl, rfl⟩)
      case h_2 =>
        injection q with q; subst q
        exact in_lookup_snd (ok := false) (b := true) hA s ht ho h1 hd hm hk he hf (.inl ⟨rfl, rfl⟩)
    case h_3 hf =>
      split at q
      case h_1 hz =>
        injection q with q; subst q
        exact in_lookup_snd (ok := true) hA s ht ho h1 hd hm hk he hf (.inr ⟨rfl, hz, rfl⟩)
      case h_2 hz =>
        injection q with q; subst q
        exact in_lookup_snd (ok := false) (b := false) hA s ht ho h1 hd hm hk he hf (.inr ⟨rfl, hz, rfl⟩)
      case h_3 => cases q
  case h_26 ho =>
    split at q
    case h_2 => cases q
    rename_i h1 hm hk hx
    split at q
    case h_2 => cases q
    rename_i hd hg
    split at q
    case h_1 hp => injection q with q; subst q; exact ex_update hA s ht ho h1 hd hm hk hx hg hp rfl
    case h_2 hp => injection q with q; subst q; exact ex_update hA s ht ho h1 hd hm hk hx hg hp rfl
    case h_3 => cases q
  case h_27 ho =>
    split at q
    case h_1 h1 hx => injection q with q; subst q; exact ex_range_nil hA s ht ho h1 hx
    case h_2 h1 hx =>
      split at q
      case h_2 => cases q
      rename_i hg
      injection q with q; subst q
      exact ex_range hA s ht ho h1 hx hg
    case h_3 => cases q
  case h_28 ho =>
    split at q
    case h_2 => cases q
    rename_i rr hx
    split at q
    case h_1 hi => injection q with q; subst q; exact ex_next_nil s ht ho hx hi
    case h_3 => cases q
    case h_2 m since seen last hi =>
      split at q
      case h_2 => cases q
      rename_i es c hm
      have go : (seen = [] ∨ es = [] ∨ es.any (fun e => Nat.ble (Nat.succ e.2.2) last) = true) → (match es.filter fun e => !(seen.any (Nat.beq e.2.2)) with
            | [] => some (Res.val (.U [.C (.B false)]) h)
            | [(k, v, n)] => match Nat.ble (Nat.succ n) since with
              | true => some (.val (.U [.C (.B true), .C k, v]) ⟨h.t.put rr (.iter (some m) since (n :: seen) c), h.next⟩)
              | false => none
            | _ => none) = some r → Snd E G A.P V h w r ((execOp a.eval o).run A.P w) := fun hg q => by
        split at q
        case h_1 hl => injection q with q; subst q; exact ex_next_over s ht ho hx hi hm hg hl
        case h_2 hl =>
          split at q
          case h_2 => cases q
          rename_i hn
          injection q with q; subst q
          exact ex_next_step s ht ho hx hi hm hg hl (Nat.le_of_ble_eq_true hn)
        case h_3 => cases q
      split at q
      case h_1 x0 l0 ha =>
        split at q
        case h_2 => cases q
        injection q with q; subst q
        exact ex_next_over s ht ho hx hi hm (.inr (.inl rfl)) rfl
      case h_2 hno =>
        exact go (seen_or hno) q
  case h_29 ho =>
    split at q
    case h_2 => cases q
    rename_i hx
    split at q
    case h_2 => cases q
    rename_i hi
    split at q
    case h_2 => cases q
    rename_i hm
    split at q
    case h_2 => cases q
    rename_i hc hl
    injection q with q; subst q
    exact ex_entry s ht ho hx hi hm hc hl
  case h_30 ho =>
    split at q
    case h_2 => cases q
    rename_i hx
    split at q
    case h_1 => cases q
    rename_i hd
    injection q with q; subst q
    exact ex_extract s ht ho hx hd
  case h_31 c ho =>
    split at q
    case h_1 hc =>
      split at q
      case h_1 => cases q
      rename_i hl
      split at q
      case h_1 => cases q
      rename_i hb
      injection q with q; subst q
      exact ex_builtin hA hI s ht ho hc hl hb
    case h_2 hc =>
      split at q
      case h_1 hx hl => exact ex_call hA hI s ht ho hc hx hl q
      case h_2 hx hl => injection q with q; subst q; exact ex_yield s ht ho hc hx hl
      case h_3 => cases q
    case h_3 => cases q
  case h_32 c ho =>
    split at q
    case h_2 => cases q
    rename_i hc
    split at q
    case h_2 => cases q
    rename_i hx hl
    injection q with q; subst q
    exact ex_defer s ht ho hc hx hl
  case h_33 => cases q
end Ev
end Go.Proofs.YtlkgdpdnhnakoaaGreatDoor

namespace Go.Proofs.YtlkgdpdnhnakoaaGreatDoor
namespace Ev
variable {X : Type} {E : Xs X} {G : Nat} {A : Tab}

def DfR (V : Vn) : Df → Deferred → Prop
  | .d f a c, d => ∃ xs ys : List Value, d = { target := .fn (.func f) ys.toArray, args := xs.toArray } ∧ All2 (AV.rel V) a xs ∧ All2 (AV.rel V) c ys
  | .mk b, d => ∃ p, V b = some p ∧ d = { target := .collected p.bl, args := #[] }
theorem DfR.mono {V V' : Vn} (h : Le V V') : ∀ {x : Df} {d : Deferred}, DfR V x d → DfR V' x d
  | .d _ _ _, _, ⟨xs, ys, e, r1, r2⟩ => ⟨xs, ys, e, r1.mono fun _ _ => .mono h, r2.mono fun _ _ => .mono h⟩
  | .mk _, _, ⟨p, q, e⟩ => ⟨p, h _ _ q, e⟩
/-- A frame's temporaries and deferred calls. -/
structure FrR (V : Vn) (tm : T AV) (nt : Nat) (ds : List Df) (a : Act) : Prop where
  tm : TmR V tm nt a.tmps
  ds : All2 (DfR V) ds a.defers
theorem FrR.mono {V V' : Vn} (h : Le V V') {tm : T AV} {nt : Nat} {ds : List Df} {a : Act} (q : FrR V tm nt ds a) : FrR V' tm nt ds a := ⟨q.tm.mono h, q.ds.mono fun _ _ => .mono h⟩
theorem FrR.put {V : Vn} {tm tm' : T AV} {nt : Nat} {ds : List Df} {a : Act} (q : FrR V tm nt ds a) {dst : Option Tmp} {v : AV} {x : Value} (hp : putT tm nt dst v = some tm') (r : v.rel V x) : FrR V tm' nt ds (a.put dst x) := by
  unfold putT at hp
  cases dst with
  | none => injection hp with hp; subst hp; exact q
  | some d =>
    simp only at hp
    split at hp
    case h_2 => cases hp
    rename_i hd
    injection hp with hp; subst hp
    exact ⟨q.tm.put (Nat.le_of_ble_eq_true hd) r, q.ds⟩
def Post (E : Xs X) (G : Nat) (V : Vn) (h : Hp X) (w : World) (z : AV) (h' : Hp X) (u : Value) (w' : World) : Prop := ∃ V', z.rel V' u ∧ Sim E G V' h' w' ∧ Ext E V h w V' h' w'
/-- A deferred call, made by a frame that returns. -/
def DRet (P : Program) (f : FuncId) (args : Array Value) (w : World) (R : Value → World → Prop) : Prop :=
  ∀ (c : Frame) (cs : List Frame), c.mode = .returning → ∃ v w' fr, R v w' ∧ Steps P (lone (Frame.enter P f args .deferred) (c :: cs) w) (lone fr (c :: cs) w') ∧ fr.kind = .deferred ∧ fr.going P w' (.returned v)
structure ClOk (E : Xs X) (G : Nat) (A : Tab) (C : Cl X) : Prop where
  call : ∀ {f : FuncId} {args : List AV} {h h' : Hp X} {z : AV}, C.call f args h = some (z, h') → ∀ {V : Vn} {w : World} {xs : List Value}, Sim E G V h w → All2 (AV.rel V) args xs →
    Calls A.P f xs.toArray w (fun e w' => ∃ u, e = .returned u ∧ Post E G V h w z h' u w')
  dcall : ∀ {f : FuncId} {args : List AV} {h h' : Hp X} {z : AV}, C.dcall f args h = some (z, h') → ∀ {V : Vn} {w : World} {xs : List Value}, Sim E G V h w → All2 (AV.rel V) args xs →
    (∃ F c, A.P.funcs[f]? = some F ∧ F.body = some c ∧ (F.name == "runtime.NumGoroutine") = false) ∧ DRet A.P f xs.toArray w (Post E G V h w z h')
  yld : ∀ {l : Nat} {args : List AV} {h h' : Hp X} {z : AV}, C.yld l args h = some (z, h') → ∀ {V : Vn} {w : World} {xs : List Value} {p : Pl}, Sim E G V h w → V l = some p → All2 (AV.rel V) args xs →
    ∃ fn tmps assign body, (Instr.yield p.bl xs.toArray).run A.P w = .ok (.round p.bl fn tmps assign body) w ∧ ∀ (c : Frame) (cs : List Frame), ∃ u w', Steps A.P (lone (Frame.round p.bl fn tmps assign body .normal) (c :: cs) w) (lone (c.finish u) cs w') ∧ Post E G V h w z h' u w'

/-! ### Steps of the machine -/
section steps
variable {P : Program} {b : Frame} {a : Act} {k : List Item} {cs : List Frame} {w w' : World} {ops : Array Oper} {i : Nat} {rest : List Nat} {o : Oper}
theorem fin_at (ho : ops[i]? = some o) (v : Value) : (b.atR a (.inRegion ops (i :: rest) :: k)).finish v = b.atR (a.put o.dst v) (.inRegion ops rest :: k) := by rw [Frame.finish_atR, ho]; rfl
theorem st_value (ho : ops[i]? = some o) (hw : Region.wanted o (yielded ops a.tmps) = true) {v : Value} (hr : (o.semAt b.roundOf a.eval).run P w = .ok (.value v) w') :
    step P (lone (b.atR a (.inRegion ops (i :: rest) :: k)) cs w) = .next (lone (b.atR (a.put o.dst v) (.inRegion ops rest :: k)) cs w') :=
  step_lone_go (by rw [stepGR_op ho hw, ← fin_at ho]; simp [stepG.apply, hr])
theorem st_skip (ho : ops[i]? = some o) (hw : Region.wanted o (yielded ops a.tmps) = true) (hr : (o.semAt b.roundOf a.eval).run P w = .ok .skip w') :
    step P (lone (b.atR a (.inRegion ops (i :: rest) :: k)) cs w) = .next (lone (b.atR (a.put o.dst undef) (.inRegion ops rest :: k)) cs w') :=
  step_lone_go (by rw [stepGR_op ho hw, ← fin_at ho]; simp [stepG.apply, hr])
theorem st_defer (ho : ops[i]? = some o) (hw : Region.wanted o (yielded ops a.tmps) = true) {d : Deferred} (hr : (o.semAt b.roundOf a.eval).run P w = .ok (.defer d) w') :
    step P (lone (b.atR a (.inRegion ops (i :: rest) :: k)) cs w) = .next (lone (b.atR ({ a with defers := d :: a.defers }.put o.dst undef) (.inRegion ops rest :: k)) cs w') := by
  refine step_lone_go ?_
  have : ({ b.atR a (.inRegion ops (i :: rest) :: k) with defers := d :: a.defers } : Frame).finish undef = b.atR ({ a with defers := d :: a.defers }.put o.dst undef) (.inRegion ops rest :: k) := by
    have := fin_at (b := b) (a := { a with defers := d :: a.defers }) (k := k) (rest := rest) ho undef
    exact this
  rw [stepGR_op ho hw]
  simp only [stepG.apply, Sem.runT_eq, hr, GStep.bare_after]
  exact congrArg (fun fr => GStep.go { frame := fr, callers := cs, status := .running, dying := none } w') this
theorem st_enter (ho : ops[i]? = some o) (hw : Region.wanted o (yielded ops a.tmps) = true) {f : FuncId} {args : Array Value} (hr : (o.semAt b.roundOf a.eval).run P w = .ok (.enter f args) w') :
    step P (lone (b.atR a (.inRegion ops (i :: rest) :: k)) cs w) = .next (lone (Frame.enter P f args .normal) (b.atR a (.inRegion ops (i :: rest) :: k) :: cs) w') :=
  step_lone_go (by rw [stepGR_op ho hw]; simp [stepG.apply, hr, Frame.atR])
theorem st_round (ho : ops[i]? = some o) (hw : Region.wanted o (yielded ops a.tmps) = true) {l : Nat} {f : FuncId} {tmps : Array Value} {x y : Code} (hr : (o.semAt b.roundOf a.eval).run P w = .ok (.round l f tmps x y) w') :
    step P (lone (b.atR a (.inRegion ops (i :: rest) :: k)) cs w) = .next (lone (Frame.round l f tmps x y .normal) (b.atR a (.inRegion ops (i :: rest) :: k) :: cs) w') :=
  step_lone_go (by rw [stepGR_op ho hw]; simp [stepG.apply, hr])
/-- A call that is made, and that returns. -/
theorem st_call (ho : ops[i]? = some o) (hw : Region.wanted o (yielded ops a.tmps) = true) {f : FuncId} {args : Array Value} (hr : (o.semAt b.roundOf a.eval).run P w = .ok (.enter f args) w) {R : Value → World → Prop} (hc : Calls P f args w (fun e w' => ∃ u, e = .returned u ∧ R u w')) :
    ∃ u w', R u w' ∧ Steps P (lone (b.atR a (.inRegion ops (i :: rest) :: k)) cs w) (lone (b.atR (a.put o.dst u) (.inRegion ops rest :: k)) cs w') := by
  obtain ⟨e, w', fr, ⟨u, rfl, hR⟩, hs, _, hl⟩ := hc (b.atR a (.inRegion ops (i :: rest) :: k) :: cs)
  refine ⟨u, w', hR, .head (st_enter ho hw hr) (Steps.trans hs (.one ?_))⟩
  rw [← fin_at ho]; exact step_leave_returned hl
end steps

/-! ### One operation -/
theorem nthDst_get : ∀ {ops : List Oper} {j d : Nat}, nthDst ops j = some d → ∃ o, ops[j]? = some o ∧ o.dst = some d
  | o :: _, 0, _, h => ⟨o, rfl, h⟩
  | _ :: l, j + 1, _, h => nthDst_get (ops := l) (j := j) h
theorem no_bool {V : Vn} {x : AV} {b : Bool} (r : x.rel V (.bool b)) (hno : ∀ y, x = .V (.C (.B y)) → False) : False := by
  cases x with
  | V x =>
    cases x with
    | C c =>
      have r : c.rel V (.bool b) := r
      unfold Ce.rel at r
      split at r
      case h_1 => exact hno _ rfl
      case h_5 => obtain ⟨y, _, e⟩ := r; cases e
      case h_8 => obtain ⟨y, _, e⟩ := r; cases e
      case h_9 => obtain ⟨y, _, _, e⟩ := r; cases e
      case h_11 => obtain ⟨y, _, e⟩ := r; cases e
      case h_13 => obtain ⟨y, z, _, _, e⟩ := r; cases e
      case h_14 => obtain ⟨y, _, e⟩ := r; cases e
      case h_15 => obtain ⟨y, _, e⟩ := r; unfold symV at e; split at e <;> cases e
      all_goals first | cases r | exact r.elim
    | G l => obtain ⟨_, _, e⟩ := r; cases e
  | U l => obtain ⟨_, _, e⟩ := r; cases e
  | N t y => obtain ⟨_, _, e⟩ := r; cases e
  | Z => cases r
theorem wantedO_run {V : Vn} {tm : T AV} {nt : Nat} {tmps : Array Value} (ht : TmR V tm nt tmps) {ops : Array Oper} {o : Oper} {r : Bool} (q : wantedO ops.toList tm o.guard = some r) : Region.wanted o (yielded ops tmps) = r := by
  unfold wantedO at q
  unfold Region.wanted
  split at q
  case h_1 hg => injection q with q; rw [hg]; simp [q]
  case h_2 j b hg =>
    rw [hg]
    split at q
    case h_1 => cases q
    rename_i d hd
    obtain ⟨o', h1, h2⟩ := nthDst_get hd
    split at q
    case h_1 x hx =>
      injection q with q
      obtain ⟨v, q1, q2⟩ := ht.2 _ _ hx
      have : v = .bool x := q2
      subst this
      have : yielded ops tmps j = some x := by
        unfold yielded
        have : ops[j]? = some o' := by rw [← h1]; simp
        rw [this]
        simp [h2, q1]
      simp only [this]
      rw [← q]
      cases x <;> cases b <;> rfl
    case h_2 x hno hx =>
      injection q with q
      obtain ⟨v, q1, q2⟩ := ht.2 _ _ hx
      have : yielded ops tmps j = none := by
        unfold yielded
        have : ops[j]? = some o' := by rw [← h1]; simp
        rw [this]
        simp only [Option.bind_some, h2, q1]
        split
        · rename_i b' e
          injection e with e
          subst e
          exact (no_bool q2 hno).elim
        · rfl
      simp only [this]
      rw [← q]
      rfl
    case h_3 => cases q
theorem defer_dfr {I : Ix X} {tm : T AV} {h : Hp X} {o : Oper} {r : Res X} (q : execO A G I tm h o = some r) (hr : ∀ f args cs, r ≠ .dfr f args cs) : ∀ c, o.op ≠ .defer c := fun c ho => by
  rw [execO_eq] at q
  unfold execS at q
  simp only [ho] at q
  split at q
  case h_2 => cases q
  split at q
  case h_2 => cases q
  injection q with q
  exact hr _ _ _ q.symm
theorem stepO_run (hA : A.Ok) {I : Ix X} (hI : IxOk E G A I) {C : Cl X} (hC : ClOk E G A C) {b : Frame} {rd : Option Nat} (hrd : rd = none → b.roundOf = none) {ops : Array Oper} {i : Nat} {rest : List Nat} {o : Oper} (ho : ops[i]? = some o) {V : Vn} {tm tm' : T AV} {nt : Nat} {ds ds' : List Df} {h h' : Hp X} {a : Act} {w : World}
    (hw : Region.wanted o (yielded ops a.tmps) = true) (s : Sim E G V h w) (f : FrR V tm nt ds a) (q : stepO A G I C rd nt o tm ds h = some (tm', ds', h')) (k : List Item) (cs : List Frame) :
    ∃ a' w' V', Steps A.P (lone (b.atR a (.inRegion ops (i :: rest) :: k)) cs w) (lone (b.atR a' (.inRegion ops rest :: k)) cs w') ∧ Sim E G V' h' w' ∧ FrR V' tm' nt ds' a' ∧ Ext E V h w V' h' w' := by
  have und : (AV.U []).rel V undef := ⟨[], trivial, rfl⟩
  unfold stepO at q
  split at q
  case h_1 => cases q
  case h_2 v h1 hx =>
    have hs := execO_snd hA hI s f.tm hx
    obtain ⟨x, w', V', e1, r1, s1, x1⟩ := hs
    rw [AV.seq_eq] at q
    split at q
    case h_1 => cases q
    rename_i tm1 hp
    rw [T.seq_eq, Hp.seq_eq] at q
    injection q with q; injection q with q1 q2; injection q2 with q2 q3; subst q1; subst q2; subst q3
    have e2 : (o.semAt b.roundOf a.eval).run A.P w = .ok (.value x) w' := by rw [Oper.semAt_eq _ _ _ (defer_dfr hx (fun _ _ _ e => by cases e))]; exact e1
    exact ⟨_, w', V', .one (st_value ho hw e2), s1, (f.mono x1.le).put hp r1, x1⟩
  case h_3 h1 hx =>
    obtain ⟨w', V', e1, s1, x1⟩ := execO_snd hA hI s f.tm hx
    split at q
    case h_1 => cases q
    rename_i tm1 hp
    rw [T.seq_eq, Hp.seq_eq] at q
    injection q with q; injection q with q1 q2; injection q2 with q2 q3; subst q1; subst q2; subst q3
    have e2 : (o.semAt b.roundOf a.eval).run A.P w = .ok .skip w' := by rw [Oper.semAt_eq _ _ _ (defer_dfr hx (fun _ _ _ e => by cases e))]; exact e1
    exact ⟨_, w', V', .one (st_skip ho hw e2), s1, (f.mono x1.le).put hp ⟨[], trivial, rfl⟩, x1⟩
  case h_4 g args cs' hx =>
    obtain ⟨xs, ys, e1, r1, r2⟩ := execO_snd hA hI s f.tm hx
    split at q
    case h_2 => cases q
    rename_i tm1 hp
    injection q with q; injection q with q1 q2; injection q2 with q2 q3; subst q1; subst q2; subst q3
    have e2 : (o.semAt b.roundOf a.eval).run A.P w = .ok (.defer { target := .fn (.func g) ys.toArray, args := xs.toArray }) w := by rw [hrd rfl]; exact e1
    have f2 : FrR V tm nt (.d g args cs' :: ds) { a with defers := { target := .fn (.func g) ys.toArray, args := xs.toArray } :: a.defers } := ⟨f.tm, ⟨xs, ys, rfl, r1, r2⟩, f.ds⟩
    exact ⟨_, w, V, .one (st_defer ho hw e2), s, f2.put hp und, .refl E V h w⟩
  case h_5 g args hx =>
    obtain ⟨xs, e1, r1⟩ := execO_snd hA hI s f.tm hx
    split at q
    case h_1 => cases q
    rename_i z h1 hc
    split at q
    case h_1 => cases q
    rename_i tm1 hp
    rw [T.seq_eq, Hp.seq_eq] at q
    injection q with q; injection q with q1 q2; injection q2 with q2 q3; subst q1; subst q2; subst q3
    have e2 : (o.semAt b.roundOf a.eval).run A.P w = .ok (.enter g xs.toArray) w := by rw [Oper.semAt_eq _ _ _ (defer_dfr hx (fun _ _ _ e => by cases e))]; exact e1
    obtain ⟨u, w', ⟨V', z1, s1, x1⟩, hs⟩ := st_call (cs := cs) (k := k) (rest := rest) ho hw e2 (hC.call hc s r1)
    exact ⟨_, w', V', hs, s1, (f.mono x1.le).put hp z1, x1⟩
  case h_6 l args hx =>
    obtain ⟨p, xs, hp0, e1, r1⟩ := execO_snd hA hI s f.tm hx
    split at q
    case h_1 => cases q
    rename_i z h1 hc
    split at q
    case h_1 => cases q
    rename_i tm1 hp
    rw [T.seq_eq, Hp.seq_eq] at q
    injection q with q; injection q with q1 q2; injection q2 with q2 q3; subst q1; subst q2; subst q3
    obtain ⟨fn, tmps, x, y, y1, y2⟩ := hC.yld hc s hp0 r1
    have e2 : (o.semAt b.roundOf a.eval).run A.P w = .ok (.round p.bl fn tmps x y) w := by rw [Oper.semAt_eq _ _ _ (defer_dfr hx (fun _ _ _ e => by cases e)), e1]; exact y1
    obtain ⟨u, w', hs, V', z1, s1, x1⟩ := y2 (b.atR a (.inRegion ops (i :: rest) :: k)) cs
    rw [fin_at ho] at hs
    exact ⟨_, w', V', .head (st_round ho hw e2) hs, s1, (f.mono x1.le).put hp z1, x1⟩
theorem stepW_run (hA : A.Ok) {I : Ix X} (hI : IxOk E G A I) {C : Cl X} (hC : ClOk E G A C) {b : Frame} {rd : Option Nat} (hrd : rd = none → b.roundOf = none) {ops : Array Oper} {i : Nat} {rest : List Nat} {o : Oper} (ho : ops[i]? = some o) {V : Vn} {tm tm' : T AV} {nt : Nat} {ds ds' : List Df} {h h' : Hp X} {a : Act} {w : World}
    (s : Sim E G V h w) (f : FrR V tm nt ds a) (q : stepW A G I C rd nt ops.toList o tm ds h = some (tm', ds', h')) (k : List Item) (cs : List Frame) :
    ∃ a' w' V', Steps A.P (lone (b.atR a (.inRegion ops (i :: rest) :: k)) cs w) (lone (b.atR a' (.inRegion ops rest :: k)) cs w') ∧ Sim E G V' h' w' ∧ FrR V' tm' nt ds' a' ∧ Ext E V h w V' h' w' := by
  unfold stepW at q
  split at q
  case h_1 => cases q
  case h_2 hg =>
    split at q
    case h_1 => cases q
    rename_i tm1 hp
    injection q with q; injection q with q1 q2; injection q2 with q2 q3; subst q1; subst q2; subst q3
    have hw := wantedO_run f.tm hg
    have hs := stepR_op_skip (P := A.P) (b := b) (a := a) (k := k) (cs := cs) (w := w) (ops := ops) (i := i) (rest := rest) (by simp [ho, hw])
    rw [ho] at hs
    exact ⟨_, w, V, .one hs, s, f.put hp ⟨[], trivial, rfl⟩, .refl E V h w⟩
  case h_3 hg => exact stepO_run hA hI hC hrd ho (wantedO_run f.tm hg) s f q k cs
theorem opsO_run (hA : A.Ok) {I : Ix X} (hI : IxOk E G A I) {C : Cl X} (hC : ClOk E G A C) {b : Frame} {rd : Option Nat} (hrd : rd = none → b.roundOf = none) {ops : Array Oper} (k : List Item) (cs : List Frame) {nt : Nat} : ∀ {l : List Oper} {is : List Nat} {V : Vn} {tm tm' : T AV} {ds ds' : List Df} {h h' : Hp X} {a : Act} {w : World},
    All2 (fun o i => ops[i]? = some o) l is → Sim E G V h w → FrR V tm nt ds a → opsO A G I C rd nt ops.toList l tm ds h = some (tm', ds', h') →
    ∃ a' w' V', Steps A.P (lone (b.atR a (.inRegion ops is :: k)) cs w) (lone (b.atR a' k) cs w') ∧ Sim E G V' h' w' ∧ FrR V' tm' nt ds' a' ∧ Ext E V h w V' h' w'
  | [], [], V, tm, tm', ds, ds', h, h', a, w, _, s, f, q => by
    injection q with q; injection q with q1 q2; injection q2 with q2 q3; subst q1; subst q2; subst q3
    exact ⟨a, w, V, .one stepR_region_end, s, f, .refl E V h w⟩
  | o :: l, i :: is, V, tm, tm', ds, ds', h, h', a, w, hi, s, f, q => by
    unfold opsO at q
    split at q
    case h_1 => cases q
    rename_i tm1 ds1 h1 hq
    obtain ⟨a1, w1, V1, st1, s1, f1, x1⟩ := stepW_run hA hI hC hrd hi.1 s f hq k cs (rest := is)
    obtain ⟨a2, w2, V2, st2, s2, f2, x2⟩ := opsO_run hA hI hC hrd k cs hi.2 s1 f1 q
    exact ⟨a2, w2, V2, st1.trans st2, s2, f2, x1.trans x2⟩
theorem range_ops (ops : Array Oper) : All2 (fun o i => ops[i]? = some o) ops.toList (List.range ops.size) := by
  refine All2.of_get (by simp) fun i o hi => ?_
  have hlt : i < ops.size := by have := (List.getElem?_eq_some_iff.1 hi).1; simpa using this
  exact ⟨i, by simp [hlt], by rw [← hi]; simp⟩
end Ev
end Go.Proofs.YtlkgdpdnhnakoaaGreatDoor

namespace Go.Proofs.YtlkgdpdnhnakoaaGreatDoor
namespace Ev
variable {X : Type} {E : Xs X} {G : Nat} {A : Tab}

/-- What a drawn region leads to (its law comes by itself). -/
def DrawOk (E : Xs X) (G : Nat) (A : Tab) (I : Ix X) (C : Cl X) : Prop := ∀ {b : Frame} {rd : Option Nat}, (rd = none → b.roundOf = none) → ∀ {ops : Array Oper} {nt : Nat} {V : Vn} {tm tm' : T AV} {ds ds' : List Df} {h h' : Hp X} {a : Act} {w : World},
  Sim E G V h w → FrR V tm nt ds a → drawO A G I C rd nt ops.toList tm ds h = some (tm', ds', h') → ∀ (id : Nat) (k : List Item) (cs : List Frame),
    ∃ a' w' V', Steps A.P (lone (b.atR a (.code (.region id ops true) :: k)) cs w) (lone (b.atR a' k) cs w') ∧ Sim E G V' h' w' ∧ FrR V' tm' nt ds' a' ∧ Ext E V h w V' h' w'
/-- Where code leads to. -/
def Went (P : Program) (b : Frame) (k : List Item) (cs : List Frame) (m : Machine) (e : Ex) (a' : Act) (w' : World) : Prop := match e with
  | .nx => Steps P m (lone (b.atR a' k) cs w')
  | .rt => ∃ k', Steps P m (lone (b.atR a' (.code .ret :: k')) cs w')
  | .ex id => ∃ k', exitTo id k' = exitTo id k ∧ Steps P m (lone (b.atR a' (.code (.exit id) :: k')) cs w')
theorem Went.of {P : Program} {b : Frame} {k : List Item} {cs : List Frame} {m m' : Machine} {e : Ex} {a' : Act} {w' : World} (s : Steps P m m') (h : Went P b k cs m' e a' w') : Went P b k cs m e a' w' := by
  cases e with
  | nx => exact s.trans h
  | rt => obtain ⟨k', q⟩ := h; exact ⟨k', s.trans q⟩
  | ex id => obtain ⟨k', q1, q⟩ := h; exact ⟨k', q1, s.trans q⟩
/-- Another rest of the activation, where it does not go on. -/
theorem Went.over {P : Program} {b : Frame} {k k2 : List Item} {cs : List Frame} {m : Machine} {e : Ex} {a' : Act} {w' : World} (hk : ∀ id, exitTo id k = exitTo id k2) (he : e ≠ .nx) (h : Went P b k cs m e a' w') : Went P b k2 cs m e a' w' := by
  cases e with
  | nx => exact (he rfl).elim
  | rt => exact h
  | ex id => obtain ⟨k', q1, q⟩ := h; exact ⟨k', q1.trans (hk id), q⟩
theorem Sim.lose {V : Vn} {h : Hp X} {w w' : World} (s : Sim E G V h w) {b : Nat} {ob : Ob X} {p : Pl} (hg : h.t.get b = some ob) (hb : V b = some p) (hj : ∀ j, j < w.heap.size → j ∉ foot E ob p → w'.heap[j]? = w.heap[j]?) (hs : w.heap.size ≤ w'.heap.size) (hO : Outer w w' := by exact ⟨rfl, rfl, rfl⟩) :
    Sim E G V ⟨h.t.drop b, h.next⟩ w' ∧ Ext E V h w V ⟨h.t.drop b, h.next⟩ w' := by
  refine ⟨⟨s.new, s.glob, fun b' ob' g => ?_, (s.drop b).apart⟩, .refl V, hs, Nat.le_refl _, fun j hlt hn => ⟨hj j hlt fun q => hn ⟨b, ob, p, hg, hb, q⟩, fun ⟨b', ob', p', g, q, hf⟩ => hn ⟨b', ob', p', (T.get_drop g).2, q, hf⟩⟩, fun _ _ => rfl, hO⟩
  obtain ⟨hne, g'⟩ := T.get_drop g
  obtain ⟨p', q1, q2⟩ := s.ob b' ob' g'
  exact ⟨p', q1, q2.keep (.refl V) (fun j hf => hj j (q2.lt j hf) fun hf2 => hne (s.apart b' ob' p' b ob p j g' hg q1 hb hf hf2)) hs⟩

section steps
variable {P : Program} {b : Frame} {a : Act} {k : List Item} {cs : List Frame} {w w' : World}
theorem st_scope {c : Code} : step P (lone (b.atR a (.code (.scope c) :: k)) cs w) = .next (lone (b.atR a (.code c :: .inScope c :: k)) cs w) := step_lone_go (by simp [stepG, stepG.exec, Frame.atR])
theorem st_inScope {c : Code} : step P (lone (b.atR a (.inScope c :: k)) cs w) = .next (lone (b.atR a k) cs w) := step_lone_go (by simp [stepG, stepG.exec, Frame.atR])
end steps

/-! ### A loop over a function -/
theorem range_run (hA : A.Ok) {C : Cl X} (hC : ClOk E G A C) {b : Frame} (hb : b.roundOf = none) {V : Vn} {tm : T AV} {nt : Nat} {ds : List Df} {h : Hp X} {a : Act} {w : World} (s : Sim E G V h w) (f : FrR V tm nt ds a) {g : Operand} {ps : Array Tmp} {x y : Code} {fi : FuncId} {fs cs0 : List (Nat × Nat)}
    (hf : opd G tm g = some (.V (.C (.F fi fs cs0)))) {F : Func} {c0 : Code} (hF : A.fn.get fi = some F) (hbd : F.body = some c0) {h2 h' : Hp X} (hh2 : h2 = (h.add .dfs).add (.loop .ready none b.fn tm nt ps x y h.next)) {z : AV}
    (hc : C.call fi (ofPtrs fs ++ (.V (.C (.Y (h.next + 1))) :: ofPtrs cs0)) h2 = some (z, h')) {st : LoopState} {pend : Option Code} {fn' : FuncId} {tm' : T AV} {nt' : Nat} {ps' : Array Tmp} {x' y' : Code} {d' : Nat} (hl : h'.t.get (h.next + 1) = some (.loop st pend fn' tm' nt' ps' x' y' d')) (hst : st ≠ .busy)
    (k : List Item) (cs : List Frame) : ∃ a' w' V', Steps A.P (lone (b.atR a (.code (.rangeFunc g ps x y) :: k)) cs w) (lone (b.atR a' ((pend.map Item.code).toList ++ k)) cs w') ∧ Sim E G V' ⟨h'.t.drop (h.next + 1), h'.next⟩ w' ∧ FrR V' tm nt (.mk h.next :: ds) a' ∧ Ext E V h w V' ⟨h'.t.drop (h.next + 1), h'.next⟩ w' := by
  subst hh2
  obtain ⟨fs', cs', r1, r2, e2⟩ : ∃ fs' cs' : List Value, All2 (fpR V) fs fs' ∧ All2 (fpR V) cs0 cs' ∧ a.eval g = .func (.func fi) fs'.toArray cs'.toArray := opd_rel s f.tm hf
  have hn : V h.next = none := s.new _ (Nat.le_refl _)
  -- the block for deferred calls
  obtain ⟨s1, x1⟩ := s.add (p := ⟨w.heap.size, 0, 0, 0, 0⟩) (ob := .dfs) (w' := w.alloc (.deferred (some []))) rfl (by
      show (w.heap.push _)[w.heap.size]? = _
      simp) (fun j hj => by show (w.heap.push _)[j]? = _; simp [Array.getElem?_push, Nat.ne_of_lt hj]) (by show _ ≤ (w.heap.push _).size; simp)
  -- the loop's record
  have sz1 : (w.alloc (.deferred (some []))).heap.size = w.heap.size + 1 := by show (w.heap.push _).size = _; simp
  have nx1 : (h.add (.dfs : Ob X)).next = h.next + 1 := rfl
  have hn1 : named V h.next ⟨w.heap.size, 0, 0, 0, 0⟩ (h.next + 1) = none := s1.new _ (Nat.le_refl _)
  obtain ⟨s2, x2⟩ := s1.add (p := ⟨w.heap.size + 1, 0, 0, 0, 0⟩) (ob := .loop .ready none b.fn tm nt ps x y h.next) (w' := (w.alloc (.deferred (some []))).alloc (.loop { state := .ready, pending := none, fn := b.fn, tmps := a.tmps, params := ps, assign := x, body := y, defers := w.heap.size })) (by rw [sz1]; rfl)
    ⟨a.tmps, ⟨w.heap.size, 0, 0, 0, 0⟩, (f.tm.mono (named_le hn)).mono (named_le hn1), named_le hn1 _ _ (named_self _ _ _), by
      show ((w.heap.push _).push _)[w.heap.size + 1]? = _
      rw [Array.getElem?_push]; simp⟩ (fun j hj => by
      show ((w.heap.push _).push _)[j]? = (w.heap.push _)[j]?
      rw [sz1] at hj
      rw [Array.getElem?_push, if_neg (by simp; omega)]) (by show _ ≤ ((w.heap.push _).push _).size; rw [sz1]; simp)
  rw [nx1] at s2 x2
  have x12 := x1.trans x2
  have hyl : (AV.V (.C (.Y (h.next + 1)))).rel (named (named V h.next ⟨w.heap.size, 0, 0, 0, 0⟩) (h.next + 1) ⟨w.heap.size + 1, 0, 0, 0, 0⟩) (.func (.yield (w.heap.size + 1)) #[] #[]) := ⟨_, named_self _ _ _, rfl⟩
  have hargs : All2 (AV.rel (named (named V h.next ⟨w.heap.size, 0, 0, 0, 0⟩) (h.next + 1) ⟨w.heap.size + 1, 0, 0, 0, 0⟩)) (ofPtrs fs ++ (.V (.C (.Y (h.next + 1))) :: ofPtrs cs0)) (fs' ++ (.func (.yield (w.heap.size + 1)) #[] #[] :: cs')) :=
    ((ptrs_av r1).mono fun _ _ => .mono x12.le).append ⟨hyl, (ptrs_av r2).mono fun _ _ => .mono x12.le⟩
  obtain ⟨hfp, hfn⟩ := hA.fn _ _ hF
  have henter : (invoke (.fn (.func fi) cs'.toArray) (fs'.toArray ++ #[.func (.yield (w.heap.size + 1)) #[] #[]])).run A.P ((w.alloc (.deferred (some []))).alloc (.loop { state := .ready, pending := none, fn := b.fn, tmps := a.tmps, params := ps, assign := x, body := y, defers := w.heap.size })) =
      .ok (.enter fi (fs' ++ (.func (.yield (w.heap.size + 1)) #[] #[] :: cs')).toArray) ((w.alloc (.deferred (some []))).alloc (.loop { state := .ready, pending := none, fn := b.fn, tmps := a.tmps, params := ps, assign := x, body := y, defers := w.heap.size })) := by
    have e : fs'.toArray ++ #[Value.func (.yield (w.heap.size + 1)) #[] #[]] ++ cs'.toArray = (fs' ++ (.func (.yield (w.heap.size + 1)) #[] #[] :: cs')).toArray := by apply Array.toList_inj.1; simp
    simp only [invoke, e]
    unfold callFunc
    have hp : ∀ w, (program.run A.P w) = .ok A.P w := fun _ => rfl
    rw [run_bind_ok (hp _)]
    simp only [hfp, hfn, hbd, Option.isNone_some, Bool.false_eq_true, if_false]
    rfl
  have he := run_enterLoop_outer (P := A.P) (w := w) b.fn a.tmps ps x y
  rw [← hb] at he
  have hres : (resolve a.eval (rangeCall g (w.heap.size + 1)) 0).run A.P ((w.alloc (.deferred (some []))).alloc (.loop { state := .ready, pending := none, fn := b.fn, tmps := a.tmps, params := ps, assign := x, body := y, defers := w.heap.size })) =
      .ok { target := .fn (.func fi) cs'.toArray, args := fs'.toArray ++ #[.func (.yield (w.heap.size + 1)) #[] #[]] } ((w.alloc (.deferred (some []))).alloc (.loop { state := .ready, pending := none, fn := b.fn, tmps := a.tmps, params := ps, assign := x, body := y, defers := w.heap.size })) := by
    have ev : ∀ v, a.eval (.const v) = v := fun _ => rfl
    simp only [resolve, e2, Deferred.ofValue, List.map_toArray, List.map_cons, List.map_nil, ev]
    rfl
  have hst1 := stepR_rangeFunc (P := A.P) (k := k) (cs := cs) he hres henter
  obtain ⟨e, w3, fr, ⟨u, rfl, V3, z3, s3, x3⟩, hs3, _, hl3⟩ := hC.call hc s2 hargs (b.atR { a with defers := [{ target := .collected w.heap.size, args := #[] }] ++ a.defers } (.inRangeFunc (w.heap.size + 1) :: k) :: cs)
  have hback := step_leave_returned (c := b.atR { a with defers := [{ target := .collected w.heap.size, args := #[] }] ++ a.defers } (.inRangeFunc (w.heap.size + 1) :: k)) (cs := cs) hl3
  rw [finish_atR_inRangeFunc] at hback
  obtain ⟨p3, hp3, tmps3, q3, _, _, hheap⟩ := s3.ob _ _ hl
  have hV3 : V3 (h.next + 1) = some ⟨w.heap.size + 1, 0, 0, 0, 0⟩ := x3.le _ _ (named_self _ _ _)
  rw [hV3] at hp3; cases hp3
  have hend := run_endLoop (P := A.P) hheap (by exact hst)
  have hst2 := stepR_endRangeFunc (P := A.P) (b := b) (a := { a with defers := [{ target := .collected w.heap.size, args := #[] }] ++ a.defers }) (k := k) (cs := cs) hend
  obtain ⟨s4, x4⟩ := s3.lose hl hV3 (w' := w3.putObj (w.heap.size + 1) (.loop { state := .exhausted, pending := pend, fn := fn', tmps := tmps3, params := ps', assign := x', body := y', defers := q3.bl })) (fun j _ hj => by
    simp only [foot, List.mem_singleton] at hj
    exact World.putObj_heap_other hj) (by simp)
  have x14 := (x12.trans x3).trans x4
  refine ⟨_, _, V3, .head hst1 (hs3.trans (.head hback (.one hst2))), s4, ⟨f.tm.mono x14.le, ⟨⟨w.heap.size, 0, 0, 0, 0⟩, x3.le _ _ (named_le hn1 _ _ (named_self _ _ _)), rfl⟩, f.ds.mono fun _ _ => .mono x14.le⟩, x14⟩

/-! ### Code -/
theorem loopO_run {P : Program} {b : Frame} {nt : Nat} {c : Code} {body : T AV → List Df → Hp X → Option (Ex × T AV × List Df × Hp X)}
    (hbody : ∀ {tm tm' : T AV} {ds ds' : List Df} {h h' : Hp X} {e : Ex} {V : Vn} {a : Act} {w : World}, body tm ds h = some (e, tm', ds', h') → Sim E G V h w → FrR V tm nt ds a → ∀ (k : List Item) (cs : List Frame), ∃ a' w' V', Went P b k cs (lone (b.atR a (.code c :: k)) cs w) e a' w' ∧ Sim E G V' h' w' ∧ FrR V' tm' nt ds' a' ∧ Ext E V h w V' h' w')
    (k : List Item) (cs : List Frame) : ∀ (n : Nat) {tm tm' : T AV} {ds ds' : List Df} {h h' : Hp X} {e : Ex} {V : Vn} {a : Act} {w : World}, loopO body n tm ds h = some (e, tm', ds', h') → Sim E G V h w → FrR V tm nt ds a →
    ∃ a' w' V', Went P b k cs (lone (b.atR a (.code c :: .inLoop c :: k)) cs w) e a' w' ∧ Sim E G V' h' w' ∧ FrR V' tm' nt ds' a' ∧ Ext E V h w V' h' w' := by
  intro n
  induction n with
  | zero => intro _ _ _ _ _ _ _ _ _ _ q; cases q
  | succ n ih =>
    intro tm tm' ds ds' h h' e V a w q s f
    unfold loopO at q
    split at q
    case h_1 => cases q
    case h_2 tm1 ds1 h1 hb =>
      obtain ⟨a1, w1, V1, g1, s1, f1, x1⟩ := hbody hb s f (.inLoop c :: k) cs
      obtain ⟨a2, w2, V2, g2, s2, f2, x2⟩ := ih q s1 f1
      exact ⟨a2, w2, V2, .of (Steps.trans g1 (.one stepR_inLoop)) g2, s2, f2, x1.trans x2⟩
    case h_3 r hb hne =>
      injection q with q; subst q
      obtain ⟨a1, w1, V1, g1, s1, f1, x1⟩ := hbody hne s f (.inLoop c :: k) cs
      exact ⟨a1, w1, V1, Went.over (k := .inLoop c :: k) (fun _ => rfl) (fun h0 => by subst h0; exact hb _ _ _ rfl) g1, s1, f1, x1⟩
theorem codeO_run (hA : A.Ok) {I : Ix X} (hI : IxOk E G A I) {C : Cl X} (hC : ClOk E G A C) (hD : DrawOk E G A I C) {N : Nat} {b : Frame} {rd : Option Nat} (hrd : rd = none → b.roundOf = none) {nt : Nat} : ∀ (c : Code) {tm tm' : T AV} {ds ds' : List Df} {h h' : Hp X} {e : Ex} {V : Vn} {a : Act} {w : World},
    codeO A G I C N b.fn rd nt c tm ds h = some (e, tm', ds', h') → Sim E G V h w → FrR V tm nt ds a → ∀ (k : List Item) (cs : List Frame), ∃ a' w' V', Went A.P b k cs (lone (b.atR a (.code c :: k)) cs w) e a' w' ∧ Sim E G V' h' w' ∧ FrR V' tm' nt ds' a' ∧ Ext E V h w V' h' w' := by
  intro c
  induction c with
  | skip =>
    intro tm tm' ds ds' h h' e V a w q s f k cs
    injection q with q; injection q with q1 q; injection q with q2 q; injection q with q3 q4; subst q1; subst q2; subst q3; subst q4
    exact ⟨a, w, V, .one stepR_skip, s, f, .refl E V h w⟩
  | label l =>
    intro tm tm' ds ds' h h' e V a w q s f k cs
    injection q with q; injection q with q1 q; injection q with q2 q; injection q with q3 q4; subst q1; subst q2; subst q3; subst q4
    exact ⟨a, w, V, .one stepR_label, s, f, .refl E V h w⟩
  | exit id =>
    intro tm tm' ds ds' h h' e V a w q s f k cs
    injection q with q; injection q with q1 q; injection q with q2 q; injection q with q3 q4; subst q1; subst q2; subst q3; subst q4
    exact ⟨a, w, V, ⟨k, rfl, .refl _ _⟩, s, f, .refl E V h w⟩
  | ret =>
    intro tm tm' ds ds' h h' e V a w q s f k cs
    injection q with q; injection q with q1 q; injection q with q2 q; injection q with q3 q4; subst q1; subst q2; subst q3; subst q4
    exact ⟨a, w, V, ⟨k, .refl _ _⟩, s, f, .refl E V h w⟩
  | goto l => intro tm tm' ds ds' h h' e V a w q s f k cs; cases q
  | refuse l => intro tm tm' ds ds' h h' e V a w q s f k cs; cases q
  | region id ops draw =>
    intro tm tm' ds ds' h h' e V a w q s f k cs
    cases draw with
    | false =>
      simp only [codeO] at q
      split at q
      case h_1 => cases q
      rename_i hq
      injection q with q; injection q with q1 q; injection q with q2 q; injection q with q3 q4; subst q1; subst q2; subst q3; subst q4
      obtain ⟨a', w', V', st, s1, f1, x1⟩ := opsO_run hA hI hC hrd k cs (range_ops ops) s f hq
      exact ⟨a', w', V', .head stepR_region st, s1, f1, x1⟩
    | true =>
      simp only [codeO] at q
      split at q
      case h_1 => cases q
      rename_i hq
      injection q with q; injection q with q1 q; injection q with q2 q; injection q with q3 q4; subst q1; subst q2; subst q3; subst q4
      obtain ⟨a', w', V', st, s1, f1, x1⟩ := hD hrd s f hq id k cs
      exact ⟨a', w', V', st, s1, f1, x1⟩
  | seq x y ihx ihy =>
    intro tm tm' ds ds' h h' e V a w q s f k cs
    simp only [codeO] at q
    split at q
    case h_1 => cases q
    case h_2 hq =>
      obtain ⟨a1, w1, V1, g1, s1, f1, x1⟩ := ihx hq s f (.code y :: k) cs
      obtain ⟨a2, w2, V2, g2, s2, f2, x2⟩ := ihy q s1 f1 k cs
      exact ⟨a2, w2, V2, .of (.head stepR_seq g1) g2, s2, f2, x1.trans x2⟩
    case h_3 r hb hq =>
      injection q with q; subst q
      obtain ⟨a1, w1, V1, g1, s1, f1, x1⟩ := ihx hq s f (.code y :: k) cs
      exact ⟨a1, w1, V1, .of (.one stepR_seq) (Went.over (k := .code y :: k) (fun _ => rfl) (fun h0 => by subst h0; exact hb _ _ _ rfl) g1), s1, f1, x1⟩
  | cond c x y ihx ihy =>
    intro tm tm' ds ds' h h' e V a w q s f k cs
    simp only [codeO] at q
    split at q
    case h_1 hc =>
      obtain ⟨a1, w1, V1, g1, r1⟩ := ihx q s f k cs
      have : a.eval c = .bool true := opd_rel s f.tm hc
      exact ⟨a1, w1, V1, .of (.one (stepR_cond this)) g1, r1⟩
    case h_2 hc =>
      obtain ⟨a1, w1, V1, g1, r1⟩ := ihy q s f k cs
      have : a.eval c = .bool false := opd_rel s f.tm hc
      exact ⟨a1, w1, V1, .of (.one (stepR_cond this)) g1, r1⟩
    case h_3 => cases q
  | block id c ih =>
    intro tm tm' ds ds' h h' e V a w q s f k cs
    simp only [codeO] at q
    split at q
    case h_1 => cases q
    case h_2 j tm1 ds1 h1 hq =>
      obtain ⟨a1, w1, V1, ⟨k', e1, g1⟩, s1, f1, x1⟩ := ih hq s f (.inBlock id :: k) cs
      split at q
      case h_1 hj =>
        injection q with q; injection q with q1 q; injection q with q2 q; injection q with q3 q4; subst q1; subst q2; subst q3; subst q4
        have : j = id := Nat.eq_of_beq_eq_true hj
        subst this
        have e2 : exitTo j k' = some k := by rw [e1]; simp [exitTo]
        exact ⟨a1, w1, V1, .head stepR_block (Steps.trans g1 (.one (stepR_exit e2))), s1, f1, x1⟩
      case h_2 hj =>
        injection q with q; injection q with q1 q; injection q with q2 q; injection q with q3 q4; subst q1; subst q2; subst q3; subst q4
        have e2 : exitTo j k' = exitTo j k := by
          rw [e1]
          have : ¬ (id = j) := fun e => (Nat.ne_of_beq_eq_false hj) e.symm
          simp [exitTo, this]
        exact ⟨a1, w1, V1, ⟨k', e2, .head stepR_block g1⟩, s1, f1, x1⟩
    case h_3 r hb hq =>
      injection q with q; subst q
      obtain ⟨a1, w1, V1, g1, s1, f1, x1⟩ := ih hq s f (.inBlock id :: k) cs
      refine ⟨a1, w1, V1, .of (.one stepR_block) ?_, s1, f1, x1⟩
      cases e with
      | nx => exact Steps.trans g1 (.one stepR_inBlock)
      | rt => exact g1
      | ex j => exact (hb _ _ _ _ rfl).elim
  | scope c ih =>
    intro tm tm' ds ds' h h' e V a w q s f k cs
    simp only [codeO] at q
    obtain ⟨a1, w1, V1, g1, s1, f1, x1⟩ := ih q s f (.inScope c :: k) cs
    refine ⟨a1, w1, V1, .of (.one st_scope) ?_, s1, f1, x1⟩
    cases e with
    | nx => exact Steps.trans g1 (.one st_inScope)
    | rt => exact g1
    | ex j => obtain ⟨k', q1, q2⟩ := g1; exact ⟨k', q1, q2⟩
  | loop c ih =>
    intro tm tm' ds ds' h h' e V a w q s f k cs
    simp only [codeO] at q
    obtain ⟨a1, w1, V1, g1, r1⟩ := loopO_run (P := A.P) (b := b) (c := c) (fun {_ _ _ _ _ _ _ _ _ _} q s f k cs => ih q s f k cs) k cs N q s f
    exact ⟨a1, w1, V1, .of (.one stepR_loop) g1, r1⟩
  | rangeFunc g ps x y ihx ihy =>
    intro tm tm' ds ds' h h' e V a w q s f k cs
    simp only [codeO] at q
    split at q
    case h_2 => cases q
    rename_i fi fs cs0 hf
    split at q
    case h_1 => cases q
    rename_i F hF
    split at q
    case h_1 => cases q
    rename_i c0 hbd
    split at q
    case h_1 => cases q
    rename_i z h1 hc
    split at q
    case h_2 => cases q
    rename_i st pend fn' tm2 nt' ps' x' y' d' hl
    split at q
    case h_1 => cases q
    rename_i hst
    split at q
    case h_2 => cases q
    rename_i hd
    have hst' : st ≠ .busy := fun e => by subst e; exact hst rfl
    obtain ⟨a1, w1, V1, g1, s1, f1, x1⟩ := range_run hA hC (hrd rfl) s f hf hF hbd rfl hc hl hst' k cs
    split at q
    case h_1 =>
      injection q with q; injection q with q1 q; injection q with q2 q; injection q with q3 q4; subst q1; subst q2; subst q3; subst q4
      exact ⟨a1, w1, V1, g1, s1, f1, x1⟩
    case h_2 =>
      injection q with q; injection q with q1 q; injection q with q2 q; injection q with q3 q4; subst q1; subst q2; subst q3; subst q4
      exact ⟨a1, w1, V1, ⟨k, g1⟩, s1, f1, x1⟩
    case h_3 =>
      injection q with q; injection q with q1 q; injection q with q2 q; injection q with q3 q4; subst q1; subst q2; subst q3; subst q4
      exact ⟨a1, w1, V1, ⟨k, rfl, g1⟩, s1, f1, x1⟩
    case h_4 => cases q
end Ev
end Go.Proofs.YtlkgdpdnhnakoaaGreatDoor

namespace Go.Proofs.YtlkgdpdnhnakoaaGreatDoor
namespace Ev
variable {X : Type} {E : Xs X} {G : Nat} {A : Tab}

theorem st_taken {P : Program} {fr : Frame} {cs : List Frame} {w : World} {b : Nat} {args : Array Value} {ds : List Deferred} (hm : fr.mode = .returning) (hd : fr.defers = { target := .collected b, args } :: ds) (h : w.heap[b]? = some (.deferred (some []))) :
    step P (lone fr cs w) = .next (lone { fr with defers := ds } cs (w.putObj b (.deferred none))) := by
  have ht := run_takeDeferred (P := P) h
  exact step_lone_go (by simp [stepG, unwind, hm, hd, Sem.runT_eq, ht, GStep.bare_after])
theorem run_callFunc {f : FuncId} {F : Func} {c : Code} {xs : Array Value} {w : World} (h : A.P.funcs[f]? = some F) (hb : F.body = some c) (hn : (F.name == "runtime.NumGoroutine") = false) : (callFunc f xs).run A.P w = .ok (.enter f xs) w := by
  unfold callFunc
  have hp : (program.run A.P w) = .ok A.P w := rfl
  rw [run_bind_ok hp]
  simp only [h, hn, hb, Option.isNone_some, Bool.false_eq_true, if_false]
  rfl
theorem defersO_run {C : Cl X} (hC : ClOk E G A C) (cs : List Frame) : ∀ {ds : List Df} {h h' : Hp X} {V : Vn} {w : World} {fr : Frame}, defersO C ds h = some h' → Sim E G V h w → All2 (DfR V) ds fr.defers → fr.mode = .returning →
    ∃ w' V', Steps A.P (lone fr cs w) (lone { fr with defers := [] } cs w') ∧ Sim E G V' h' w' ∧ Ext E V h w V' h' w'
  | [], h, h', V, w, fr, q, s, hr, hm => by
    injection q with q; subst q
    have hd : fr.defers = [] := List.eq_nil_of_length_eq_zero hr.length.symm
    have : ({ fr with defers := [] } : Frame) = fr := by rw [← hd]
    rw [this]
    exact ⟨w, V, .refl _ _, s, .refl E V h w⟩
  | .d f a c :: ds, h, h', V, w, fr, q, s, hr, hm => by
    cases hd : fr.defers with
    | nil => rw [hd] at hr; exact hr.elim
    | cons d0 l0 =>
      rw [hd] at hr
      obtain ⟨⟨xs, ys, rfl, r1, r2⟩, hr'⟩ := hr
      unfold defersO at q
      split at q
      case h_1 => cases q
      rename_i z h1 hc
      obtain ⟨⟨F, c0, hF, hb, hn⟩, hret⟩ := hC.dcall hc s (r1.append r2)
      have hi : (invoke (.fn (.func f) ys.toArray) xs.toArray).run A.P w = .ok (.enter f (xs ++ ys).toArray) w := by
        have e : xs.toArray ++ ys.toArray = (xs ++ ys).toArray := by simp
        simp only [invoke, e]
        exact run_callFunc hF hb hn
      obtain ⟨v, w1, fr1, ⟨V1, z1, s1, x1⟩, hs, hk, hg⟩ := hret { fr with defers := l0 } cs hm
      have hst := step_defer (P := A.P) (cs := cs) (by rw [hm]; exact fun e => by cases e) hd rfl hi
      have hback := step_going_returned (c := { fr with defers := l0 }) (cs := cs) hk hg
      have hset : ({ ({ fr with defers := l0 } : Frame) with mode := settle ({ fr with defers := l0 } : Frame).mode } : Frame) = { fr with defers := l0 } := by
        show ({ fr with defers := l0, mode := settle fr.mode } : Frame) = { fr with defers := l0 }
        rw [hm]
        rfl
      rw [hset] at hback
      obtain ⟨w2, V2, hs2, s2, x2⟩ := defersO_run hC cs (fr := { fr with defers := l0 }) q s1 (hr'.mono fun _ _ => .mono x1.le) hm
      exact ⟨w2, V2, .head hst (Steps.trans hs (.head hback hs2)), s2, x1.trans x2⟩
  | .mk b :: ds, h, h', V, w, fr, q, s, hr, hm => by
    cases hd : fr.defers with
    | nil => rw [hd] at hr; exact hr.elim
    | cons d0 l0 =>
      rw [hd] at hr
      obtain ⟨⟨p, hp, rfl⟩, hr'⟩ := hr
      unfold defersO at q
      split at q
      case h_2 => cases q
      rename_i hg
      obtain ⟨p', hp', hheap⟩ := s.ob _ _ hg
      rw [hp] at hp'; cases hp'
      have hst := st_taken (P := A.P) (cs := cs) hm hd hheap
      obtain ⟨s1, x1⟩ := s.lose hg hp (w' := w.putObj p.bl (.deferred none)) (fun j _ hj => by
        simp only [foot, List.mem_singleton] at hj
        exact World.putObj_heap_other hj) (by simp)
      obtain ⟨w2, V2, hs2, s2, x2⟩ := defersO_run hC cs (fr := { fr with defers := l0 }) q s1 hr' hm
      exact ⟨w2, V2, .head hst hs2, s2, x1.trans x2⟩

/-! ### Results -/
theorem resL_run (hA : A.Ok) {V : Vn} {h : Hp X} {w : World} (s : Sim E G V h w) {tm : T AV} {nt : Nat} {tmps : Array Value} (ht : TmR V tm nt tmps) : ∀ {rs : List ResultVar} {l : List AV}, resL A tm h rs = some l →
    ∃ vs : List Value, (rs.mapM (fun r => match r with
      | .tmp t => pure (tmps.getD t undef)
      | .cell a t => do loadVar t (← asAddr (tmps.getD a undef)) : ResultVar → Sem Value)).run A.P w = .ok vs w ∧ All2 (AV.rel V) l vs
  | [], l, q => by injection q with q; subst q; exact ⟨[], rfl, trivial⟩
  | .tmp t :: rs, l, q => by
    unfold resL at q
    split at q
    case h_2 => cases q
    rename_i v r hv hr
    injection q with q; subst q
    obtain ⟨vs, e1, r1⟩ := resL_run hA s ht hr
    obtain ⟨x, x1, x2⟩ := ht.2 _ _ hv
    refine ⟨x :: vs, ?_, x2, r1⟩
    have : tmps.getD t undef = x := by simp [Array.getD_eq_getD_getElem?, x1]
    rw [List.mapM_cons, run_bind_ok (a := x) (w' := w) (by simp only [this]; rfl), run_bind_ok e1]
    rfl
  | .cell t ty :: rs, l, q => by
    unfold resL at q
    split at q
    case h_2 => cases q
    rename_i b o hv
    split at q
    case h_2 => cases q
    rename_i v r hl hr
    injection q with q; subst q
    obtain ⟨vs, e1, r1⟩ := resL_run hA s ht hr
    obtain ⟨x, x1, y, hy, rfl⟩ := ht.2 _ _ hv
    obtain ⟨u, u1, u2⟩ := loadAt_run hA s hl hy
    refine ⟨u :: vs, ?_, u2, r1⟩
    have : tmps.getD t undef = .pointer (some y) := by simp [Array.getD_eq_getD_getElem?, x1]
    rw [List.mapM_cons, run_bind_ok (a := u) (w' := w) (by simp only [this, asAddr]; exact u1), run_bind_ok e1]
    rfl
theorem a0s_rel {V : Vn} : ∀ {l : List AV} {r : List A0} {vs : List Value}, a0s l = some r → All2 (AV.rel V) l vs → All2 (A0.rel V) r vs
  | [], r, [], q, _ => by injection q with q; subst q; trivial
  | .V x :: l, r, v :: vs, q, h => by
    unfold a0s at q
    split at q
    case h_1 => cases q
    rename_i r' hr
    injection q with q; subst q
    exact ⟨h.1, a0s_rel hr h.2⟩
theorem results_run (hA : A.Ok) {V : Vn} {h : Hp X} {w : World} (s : Sim E G V h w) {tm : T AV} {nt : Nat} {tmps : Array Value} (ht : TmR V tm nt tmps) {F : Func} {l : List AV} (q : resL A tm h F.results.toList = some l) {z : AV} (hz : l = [z] ∨ ∃ r, l.length ≠ 1 ∧ a0s l = some r ∧ z = .U r) :
    ∃ u, (results F tmps).run A.P w = .ok u w ∧ z.rel V u := by
  obtain ⟨vs, e1, r1⟩ := resL_run hA s ht q
  have hm : (F.results.mapM (fun r => match r with
      | .tmp t => pure (tmps.getD t undef)
      | .cell a t => do loadVar t (← asAddr (tmps.getD a undef)) : ResultVar → Sem Value)).run A.P w = .ok vs.toArray w := by
    rw [Array.mapM_eq_mapM_toList, map_eq_pure_bind, run_bind_ok e1]
    rfl
  rcases hz with rfl | ⟨r, hn, hr, rfl⟩
  · match vs, r1 with
    | [u], r1 =>
      refine ⟨u, ?_, r1.1⟩
      unfold results
      refine (run_bind_ok hm).trans ?_
      simp
  · refine ⟨.tuple vs.toArray, ?_, vs, a0s_rel hr r1, rfl⟩
    unfold results
    refine (run_bind_ok hm).trans ?_
    have : vs.toArray.size ≠ 1 := by rw [List.size_toArray, ← r1.length]; exact hn
    simp only [this, dif_neg, not_false_eq_true]
    rfl

/-! ### A call -/
theorem entry_tm {V : Vn} {args : List AV} {xs : List Value} (hr : All2 (AV.rel V) args xs) {n : Nat} (hn : args.length ≤ n) : TmR V (T.putL args (T.full (nat_lit 16)) (nat_lit 0)) n (xs.toArray ++ Array.replicate (n - xs.toArray.size) undef) := by
  have hl := hr.length
  refine ⟨by simp; omega, fun d a g => ?_⟩
  rcases T.get_putL g with ⟨g1, g2⟩ | ⟨g1, g2⟩
  · obtain ⟨v, v1, v2⟩ := hr.get g2
    refine ⟨v, ?_, v2⟩
    have hlt := (List.getElem?_eq_some_iff.1 v1).1
    simp only [Nat.sub_zero] at v1 hlt
    rw [Array.getElem?_append_left (by simpa using hlt), List.getElem?_toArray]; exact v1
  · rw [T.get_full] at g2; cases g2
/-- A function's body, run in a frame of either kind. -/
theorem callF_run (hA : A.Ok) {I : Ix X} (hI : IxOk E G A I) {C : Cl X} (hC : ClOk E G A C) (hD : DrawOk E G A I C) {N : Nat} {J : Iy X} {f : FuncId} (hJ : J f = none) {args : List AV} {h h' : Hp X} {z : AV} (q : callF A G I J N C f args h = some (z, h')) {V : Vn} {w : World} {xs : List Value} (s : Sim E G V h w) (hr : All2 (AV.rel V) args xs) (kd : CallKind) :
    ∃ F c, A.P.funcs[f]? = some F ∧ F.body = some c ∧ (F.name == "runtime.NumGoroutine") = false ∧ ∀ cs, ∃ u w' fr, Post E G V h w z h' u w' ∧ Steps A.P (lone (Frame.enter A.P f xs.toArray kd) cs w) (lone fr cs w') ∧ fr.fn = f ∧ fr.mode = .returning ∧ fr.defers = [] ∧ fr.kind = kd ∧ (results F fr.tmps).run A.P w' = .ok u w' := by
  unfold callF at q
  rw [hJ] at q
  simp only at q
  split at q
  case h_1 => cases q
  rename_i F hF
  split at q
  case h_1 => cases q
  rename_i c hb
  split at q
  case h_1 => cases q
  rename_i hle
  obtain ⟨hfp, hfn⟩ := hA.fn _ _ hF
  refine ⟨F, c, hfp, hb, hfn, fun cs => ?_⟩
  let b : Frame := { (default : Frame) with fn := f, kind := kd }
  let a0 : Act := { tmps := xs.toArray ++ Array.replicate (F.ntmps - xs.toArray.size) undef, defers := [] }
  have henter : Frame.enter A.P f xs.toArray kd = b.atR a0 [.code c] := by
    simp [Frame.enter, Frame.atR, hfp, hb, b, a0]
    rfl
  have f0 : FrR V (T.putL args (T.full (nat_lit 16)) (nat_lit 0)) F.ntmps [] a0 := ⟨entry_tm hr (Nat.le_of_ble_eq_true hle), trivial⟩
  have fin : ∀ {e : Ex} {tm : T AV} {ds : List Df} {h1 : Hp X}, codeO A G I C N f none F.ntmps c (T.putL args (T.full (nat_lit 16)) (nat_lit 0)) [] h = some (e, tm, ds, h1) → (∀ id, e ≠ .ex id) → ∀ {h2 : Hp X}, defersO C ds h1 = some h2 → ∀ {l : List AV}, resL A tm h2 F.results.toList = some l →
      (l = [z] ∨ ∃ r, l.length ≠ 1 ∧ a0s l = some r ∧ z = .U r) → h2 = h' → ∃ u w' fr, Post E G V h w z h' u w' ∧ Steps A.P (lone (Frame.enter A.P f xs.toArray kd) cs w) (lone fr cs w') ∧ fr.fn = f ∧ fr.mode = .returning ∧ fr.defers = [] ∧ fr.kind = kd ∧ (results F fr.tmps).run A.P w' = .ok u w' := by
    intro e tm ds h1 hc he h2 hd l hl hz hh
    subst hh
    obtain ⟨a1, w1, V1, g1, s1, f1, x1⟩ := codeO_run hA hI hC hD (b := b) (rd := none) (fun _ => rfl) c hc s f0 [] cs
    have ret : ∃ todo, Steps A.P (lone (b.atR a0 [.code c]) cs w) (lone { b.atR a1 todo with mode := .returning } cs w1) := by
      cases e with
      | nx => exact ⟨[], Steps.trans g1 (.one (stepR_end rfl))⟩
      | rt => obtain ⟨k', g2⟩ := g1; exact ⟨_, Steps.trans g2 (.one (stepR_ret rfl))⟩
      | ex id => exact (he id rfl).elim
    obtain ⟨todo, g2⟩ := ret
    obtain ⟨w2, V2, g3, s2, x2⟩ := defersO_run hC cs (fr := { b.atR a1 todo with mode := .returning }) hd s1 f1.ds rfl
    obtain ⟨u, u1, u2⟩ := results_run hA s2 (f1.tm.mono x2.le) hl hz
    rw [henter]
    exact ⟨u, w2, _, ⟨V2, u2, s2, x1.trans x2⟩, Steps.trans g2 g3, rfl, rfl, rfl, rfl, u1⟩
  split at q
  case h_1 => cases q
  case h_2 => cases q
  case h_3 e tm ds h1 hne hc =>
    split at q
    case h_1 => cases q
    rename_i h2 hd
    split at q
    case h_1 => cases q
    case h_2 v hl =>
      injection q with q; injection q with q1 q2; subst q1; subst q2
      exact fin hc (fun id e => hne id e) hd hl (.inl rfl) rfl
    case h_3 l hno hl =>
      split at q
      case h_1 => cases q
      rename_i r hr
      injection q with q; injection q with q1 q2; subst q1; subst q2
      refine fin hc (fun id e => hne id e) hd hl (.inr ⟨r, fun h1 => ?_, hr, rfl⟩) rfl
      obtain ⟨v, rfl⟩ := List.length_eq_one_iff.1 h1
      exact hno _ rfl
/-- The record of a loop turns. -/
theorem loop_turn {V : Vn} {h : Hp X} {w : World} (s : Sim E G V h w) {l : Nat} {st : LoopState} {pend : Option Code} {fn : FuncId} {tm : T AV} {nt : Nat} {ps : Array Tmp} {x y : Code} {d : Nat} (hg : h.t.get l = some (.loop st pend fn tm nt ps x y d)) {p : Pl} (hp : V l = some p) :
    ∃ tmps q, TmR V tm nt tmps ∧ w.heap[p.bl]? = some (.loop { state := st, pending := pend, fn, tmps, params := ps, assign := x, body := y, defers := q }) ∧
      ∀ st' pend', Sim E G V ⟨h.t.put l (.loop st' pend' fn tm nt ps x y d), h.next⟩ (w.putObj p.bl (.loop { state := st', pending := pend', fn, tmps, params := ps, assign := x, body := y, defers := q })) ∧
        Ext E V h w V ⟨h.t.put l (.loop st' pend' fn tm nt ps x y d), h.next⟩ (w.putObj p.bl (.loop { state := st', pending := pend', fn, tmps, params := ps, assign := x, body := y, defers := q })) := by
  obtain ⟨p', hp', tmps, q, q1, q2, q3⟩ := s.ob _ _ hg
  rw [hp] at hp'; cases hp'
  have hlt := (Array.getElem?_eq_some_iff.1 q3).1
  refine ⟨tmps, q.bl, q1, q3, fun st' pend' => ?_⟩
  refine s.turn hg hp rfl ⟨tmps, q, q1, q2, World.putObj_heap_same hlt⟩ (fun j _ hj => ?_) (by simp)
  simp only [foot, List.mem_singleton] at hj
  exact World.putObj_heap_other hj
theorem putArgs_run {V : Vn} {nt : Nat} : ∀ {ps : List Tmp} {as : List AV} {tm tm' : T AV} {xs : List Value} {tmps : Array Value}, putArgs tm nt ps as = some tm' → TmR V tm nt tmps → All2 (AV.rel V) as xs →
    ps.length = xs.length ∧ TmR V tm' nt ((ps.zip xs).foldl (fun (tmps : Array Value) (x : Tmp × Value) => tmps.setIfInBounds x.1 x.2) tmps)
  | [], [], tm, tm', [], tmps, q, ht, _ => by injection q with q; subst q; exact ⟨rfl, ht⟩
  | t :: ps, a :: as, tm, tm', x :: xs, tmps, q, ht, hr => by
    unfold putArgs at q
    split at q
    case h_2 => cases q
    rename_i hlt
    obtain ⟨h1, h2⟩ := putArgs_run q (ht.put (Nat.le_of_ble_eq_true hlt) hr.1) hr.2
    exact ⟨by simp [h1], h2⟩
theorem yldF_run (hA : A.Ok) {I : Ix X} (hI : IxOk E G A I) {C : Cl X} (hC : ClOk E G A C) (hD : DrawOk E G A I C) {N : Nat} {l : Nat} {args : List AV} {h h' : Hp X} {z : AV} (q : yldF A G I N C l args h = some (z, h')) {V : Vn} {w : World} {xs : List Value} {p : Pl} (s : Sim E G V h w) (hp : V l = some p) (hr : All2 (AV.rel V) args xs) :
    ∃ fn tmps assign body, (Instr.yield p.bl xs.toArray).run A.P w = .ok (.round p.bl fn tmps assign body) w ∧ ∀ (c : Frame) (cs : List Frame), ∃ u w', Steps A.P (lone (Frame.round p.bl fn tmps assign body .normal) (c :: cs) w) (lone (c.finish u) cs w') ∧ Post E G V h w z h' u w' := by
  unfold yldF at q
  split at q
  case h_2 => cases q
  rename_i pend0 fn tm nt ps x y d hl
  obtain ⟨tmps, q0, ht, hheap, _⟩ := loop_turn s hl hp
  split at q
  case h_1 => cases q
  rename_i tm1 hpa
  obtain ⟨hlen, ht1⟩ := putArgs_run hpa ht hr
  have hyield := run_yield (P := A.P) (args := xs.toArray) hheap (by simpa using hlen.symm)
  have hzip : (ps.zip xs.toArray).foldl (fun tmps (t, a) => tmps.setIfInBounds t a) tmps = (ps.toList.zip xs).foldl (fun (tmps : Array Value) (x : Tmp × Value) => tmps.setIfInBounds x.1 x.2) tmps := by
    rw [← Array.foldl_toList, Array.toList_zip]
  refine ⟨fn, _, x, y, hyield, fun c cs => ?_⟩
  simp only [hzip]
  let b : Frame := { (default : Frame) with fn := fn, kind := .normal, roundOf := some p.bl }
  have hb0 : ∀ t, Frame.round p.bl fn t x y .normal = b.atR { tmps := t, defers := [] } [.code x, .beginRound, .code y] := fun t => by simp [Frame.round, Frame.atR, b]
  rw [hb0]
  have hrd : (some l = none → b.roundOf = none) := fun e => by cases e
  split at q
  case h_2 => cases q
  rename_i tm2 h1 hc1
  have f0 : FrR V tm1 nt [] { tmps := (ps.toList.zip xs).foldl (fun (tmps : Array Value) (x : Tmp × Value) => tmps.setIfInBounds x.1 x.2) tmps, defers := [] } := ⟨ht1, trivial⟩
  obtain ⟨a1, w1, V1, g1, s1, f1, x1⟩ := codeO_run hA hI hC hD (b := b) (rd := some l) hrd x hc1 s f0 [.beginRound, .code y] (c :: cs)
  split at q
  case h_2 => cases q
  rename_i p1 fn1 tmx ntx ps1 as1 bo1 d1 hl1
  obtain ⟨tmps1, q1, _, hheap1, hturn1⟩ := loop_turn s1 hl1 (x1.le _ _ hp)
  obtain ⟨s2, x2⟩ := hturn1 .busy p1
  have hbr := run_beginRound (P := A.P) hheap1 rfl
  have g2 := stepR_beginRound (P := A.P) (b := b) (a := a1) (k := [.code y]) (cs := c :: cs) rfl hbr
  split at q
  case h_2 => cases q
  rename_i e tm3 h2 hc2
  obtain ⟨a2, w2, V2, g3, s3, f3, x3⟩ := codeO_run hA hI hC hD (b := b) (rd := some l) hrd y hc2 s2 (f1.mono x2.le) [] (c :: cs)
  split at q
  case h_2 => cases q
  rename_i st2 pe2 fn2 tm2' nt2 ps2 as2 bo2 d2 hl2
  have x13 := (x1.trans x2).trans x3
  obtain ⟨tmps2, q2, _, hheap2, hturn2⟩ := loop_turn s3 hl2 (x13.le _ _ hp)
  have hpre : Steps A.P (lone (b.atR { tmps := (ps.toList.zip xs).foldl (fun (tmps : Array Value) (x : Tmp × Value) => tmps.setIfInBounds x.1 x.2) tmps, defers := [] } [.code x, .beginRound, .code y]) (c :: cs) w) (lone (b.atR a1 [.code y]) (c :: cs) (w1.putObj p.bl (.loop { state := .busy, pending := p1, fn := fn1, tmps := tmps1, params := ps1, assign := as1, body := bo1, defers := q1 }))) :=
    Steps.trans g1 (.one g2)
  split at q
  case h_1 =>
    injection q with q; injection q with q1 q2; subst q1; subst q2
    obtain ⟨s4, x4⟩ := hturn2 .ready none
    exact ⟨_, _, Steps.trans hpre (Steps.trans g3 (.one (stepR_round_end rfl rfl (run_endRound none hheap2)))), V2, rfl, s4, x13.trans x4⟩
  case h_2 =>
    injection q with q; injection q with q1 q2; subst q1; subst q2
    obtain ⟨s4, x4⟩ := hturn2 .done (some .ret)
    obtain ⟨k', g3⟩ := g3
    exact ⟨_, _, Steps.trans hpre (Steps.trans g3 (.one (stepR_round_ret rfl rfl (run_endRound (some .ret) hheap2)))), V2, rfl, s4, x13.trans x4⟩
  case h_3 id =>
    injection q with q; injection q with q1 q2; subst q1; subst q2
    obtain ⟨s4, x4⟩ := hturn2 .done (some (.exit id))
    obtain ⟨k', e1, g3⟩ := g3
    exact ⟨_, _, Steps.trans hpre (Steps.trans g3 (.one (stepR_round_exit rfl rfl e1 (run_endRound (some (.exit id)) hheap2)))), V2, rfl, s4, x13.trans x4⟩

/-! ### All calls -/
/-- What is asked of functions that are met by a law of their own. -/
def IyOk (E : Xs X) (G : Nat) (A : Tab) (J : Iy X) : Prop := ∀ {f : FuncId} {g : List AV → Hp X → Option (AV × Hp X)} {args : List AV} {h h' : Hp X} {z : AV}, J f = some g → g args h = some (z, h') → ∀ {V : Vn} {w : World} {xs : List Value}, Sim E G V h w → All2 (AV.rel V) args xs →
  Calls A.P f xs.toArray w (fun e w' => ∃ u, e = .returned u ∧ Post E G V h w z h' u w')
def IyDOk (E : Xs X) (G : Nat) (A : Tab) (J : Iy X) : Prop := ∀ {f : FuncId} {g : List AV → Hp X → Option (AV × Hp X)} {args : List AV} {h h' : Hp X} {z : AV}, J f = some g → g args h = some (z, h') → ∀ {V : Vn} {w : World} {xs : List Value}, Sim E G V h w → All2 (AV.rel V) args xs →
  (∃ F c, A.P.funcs[f]? = some F ∧ F.body = some c ∧ (F.name == "runtime.NumGoroutine") = false) ∧ DRet A.P f xs.toArray w (Post E G V h w z h')
theorem clO_ok (hA : A.Ok) {I : Ix X} (hI : IxOk E G A I) {J K : Iy X} (hJ : IyOk E G A J) (hK : IyDOk E G A K) {N : Nat} (hD : ∀ C, ClOk E G A C → DrawOk E G A I C) : ∀ n, ClOk E G A (clO A G I J K N n) := by
  intro n
  induction n with
  | zero => exact ⟨fun {_ _ _ _ _} q {_ _ _} => (by cases q), fun {_ _ _ _ _} q {_ _ _} => (by cases q), fun {_ _ _ _ _} q {_ _ _ _} => (by cases q)⟩
  | succ n ih =>
    have hd : DrawOk E G A I (clO A G I J K N n) := hD _ ih
    refine ⟨fun {f args h h' z} q {V w xs} s hr => ?_, fun {f args h h' z} q {V w xs} s hr => ?_, fun {l args h h' z} q {V w xs p} s hp hr => yldF_run hA hI ih hd q s hp hr⟩
    · have q : callF A G I J N (clO A G I J K N n) f args h = some (z, h') := q
      cases hj : J f with
      | some g =>
        unfold callF at q
        rw [hj] at q
        exact hJ hj q s hr
      | none =>
        obtain ⟨F, c, hF, _, _, hrun⟩ := callF_run hA hI ih hd hj q s hr .normal
        intro cs
        obtain ⟨u, w', fr, hpost, hs, h1, h2, h3, h4, h5⟩ := hrun cs
        exact ⟨.returned u, w', fr, ⟨u, rfl, hpost⟩, hs, h1, h2, h3, h4, F, by rw [h1]; exact hF, h5⟩
    · have q : callF A G I K N (clO A G I J K N n) f args h = some (z, h') := q
      cases hj : K f with
      | some g =>
        unfold callF at q
        rw [hj] at q
        exact hK hj q s hr
      | none =>
        obtain ⟨F, c, hF, hb, hn, hrun⟩ := callF_run hA hI ih hd hj q s hr .deferred
        refine ⟨⟨F, c, hF, hb, hn⟩, fun c cs _ => ?_⟩
        obtain ⟨u, w', fr, hpost, hs, h1, h2, h3, h4, h5⟩ := hrun (c :: cs)
        exact ⟨u, w', fr, hpost, hs, h4, h2, h3, F, by rw [h1]; exact hF, h5⟩
end Ev
end Go.Proofs.YtlkgdpdnhnakoaaGreatDoor

namespace Go.Proofs.YtlkgdpdnhnakoaaGreatDoor
namespace Ev
variable {X : Type} {E : Xs X} {G : Nat} {A : Tab} {V : Vn} {h : Hp X} {w : World} {tm : T AV} {nt : Nat} {a : Act} {o : Oper}

theorem ov_val {v : Option AV} {u : AV} {h1 : Hp X} (q : ov h v = some (.val u h1)) : v = some u ∧ h1 = h := by
  cases v with
  | none => cases q
  | some x => injection q with q; injection q with q1 q2; subst q1; subst q2; exact ⟨rfl, rfl⟩
theorem add_ne {ob : Ob X} (q : (h.add ob).next = h.next) : False := by
  have : (h.add ob).next = h.next + 1 := rfl
  omega
theorem mkSlice_next {k : Nat} {pa : Option (Nat × Nat)} {n : Nat} {c : Cap} {lo hi mx : Option AV} {z : AV} {h' : Hp X} (q : mkSlice h k pa n c lo hi mx = some (z, h')) (hn : h'.next = h.next) : h' = h := by
  unfold mkSlice at q
  repeat' split at q
  all_goals first
    | (cases q; done)
    | (injection q with q; injection q with q1 q2; exact q2.symm)
    | (injection q with q; injection q with q1 q2; subst q2; exact absurd hn (by show ¬ (h.next + 1 = h.next); omega))
theorem light_builtin {b : Builtin} (hb : lightB b = true) {ts : List TypeId} {args : List AV} {z : AV} {h' : Hp X} (q : builtinO A h b ts args = some (z, h')) : h' = h := by
  unfold builtinO at q
  cases b <;> first
    | (cases hb; done)
    | (simp only at q
       repeat' split at q
       all_goals first
         | contradiction
         | (cases q; done)
         | (injection q with q; injection q with q1 q2; exact q2.symm))
/-- An operation that turns no memory. -/
theorem light_call {I : Ix X} {c : Call} (ho : o.op = .call c) (hl : lightO o.op = true) {v : AV} {h1 : Hp X} (q : execO A G I tm h o = some (.val v h1)) : h1 = h := by
  rw [execO_eq] at q
  unfold execS at q
  simp only [ho] at q
  rw [ho] at hl
  unfold lightO at hl
  split at q
  case h_1 b hc =>
    simp only [hc] at hl
    split at q
    case h_1 => cases q
    split at q
    case h_1 => cases q
    rename_i hb
    injection q with q; injection q with q1 q2; subst q2
    unfold builtinE at hb
    split at hb
    · injection hb with hb; subst hb; exact light_builtin hl (by assumption)
    · split at hb
      · injection hb with hb; injection hb with _ hb; exact hb.symm
      · cases hb
  case h_2 hc => simp only [hc] at hl; cases hl
  case h_3 => cases q
theorem light_same {I : Ix X} (hl : lightO o.op = true) {v : AV} {h1 : Hp X} (q : execO A G I tm h o = some (.val v h1)) (hn : h1.next = h.next) : h1 = h := by
  cases ho : o.op
  case call c => exact light_call ho hl q
  all_goals (rw [execO_eq] at q; unfold execS at q)
  all_goals simp only [ho] at q hl
  all_goals first
    | (cases hl; done)
    | exact (ov_val q).2
    | (repeat' split at q
       all_goals first
         | contradiction
         | (cases q; done)
         | exact (ov_val q).2
         | (injection q with q; injection q with q1 q2; subst q2; exact (add_ne hn).elim)
         | (injection q with q; injection q with q1 q2; exact q2.symm)
         | (rename_i hs; injection q with q; injection q with q1 q2; subst q2; exact mkSlice_next hs hn))
/-- An operation that looks at no memory. -/
theorem pure_any {I : Ix X} (hl : pureO o.op = true) {v : AV} {h1 : Hp X} (q : execO A G I tm h o = some (.val v h1)) (h2 : Hp X) : execO A G I tm h2 o = some (.val v h2) := by
  have ov2 : ∀ {x : Option AV}, ov h x = some (.val v h1) → ov h2 x = some (.val v h2) := fun {x} q => by
    obtain ⟨e, _⟩ := ov_val q
    rw [e]; rfl
  cases ho : o.op
  all_goals (rw [execO_eq] at q ⊢; unfold execS at q ⊢)
  all_goals simp only [ho] at q hl ⊢
  all_goals first
    | (cases hl; done)
    | exact ov2 q
    | (repeat' split at q
       all_goals first
         | contradiction
         | (cases q; done)
         | exact ov2 q
         | (injection q with q; injection q with q1 q2; subst q1; rfl)
         | (injection q with q; injection q with q1 q2; subst q1; simp only [*]; done))
/-- What an operation that makes a new object leads to, under whatever name. -/
structure Fresh (E : Xs X) (V : Vn) (w : World) (b : Nat) (v : AV) (ob : Ob X) (x : Value) (w' : World) : Prop where
  val : v.rel (named V b ⟨w.heap.size, 0, 0, 0, 0⟩) x
  has : ObR E (named V b ⟨w.heap.size, 0, 0, 0, 0⟩) w' ⟨w.heap.size, 0, 0, 0, 0⟩ ob
  foot : foot E ob ⟨w.heap.size, 0, 0, 0, 0⟩ = [w.heap.size]
  keep : ∀ j, j < w.heap.size → w'.heap[j]? = w.heap[j]?
  size : w'.heap.size = w.heap.size + 1
  out : Outer w w'
theorem fresh_cells {b : Nat} (hb : V b = none) {l : List Ce} {vs : List Value} (hr : All2 (Ce.rel V) l vs) {n : Nat} (hn : n = l.length) {ty : TypeId} {w' : World} (hw : w'.heap = w.heap.push (.cells vs.toArray ty (0, 0))) {v : AV} {x : Value} (hv : v.rel (named V b ⟨w.heap.size, 0, 0, 0, 0⟩) x) (hO : Outer w w' := by exact ⟨rfl, rfl, rfl⟩) :
    Fresh E V w b v (.cells (T.ofL l) n none) x w' := by
  subst hn
  have hlen := hr.length
  refine ⟨hv, ⟨vs.toArray, ty, (0, 0), by rw [hw]; simp, .inl rfl, fun i c hi g => ?_, ?_, fun k hk => by cases hk⟩, rfl, fun j hj => by rw [hw, Array.getElem?_push]; simp [Nat.ne_of_lt hj], by rw [hw]; simp, hO⟩
  · obtain ⟨u, q1, q2⟩ := hr.get (T.get_ofL g)
    exact ⟨u, by simpa using q1, q2.mono (named_le hb)⟩
  · simp [hlen]
theorem fresh_snd (hA : A.Ok) (s : Sim E G V h w) (ht : TmR V tm nt a.tmps) {b : Nat} (hb : V b = none) {v : AV} {ob : Ob X} (q : freshO A G tm b o.op = some (v, ob)) : ∃ x w', (execOp a.eval o).run A.P w = .ok (.value x) w' ∧ Fresh E V w b v ob x w' := by
  have pnew : ∀ V, pR (named V b ⟨w.heap.size, 0, 0, 0, 0⟩) (b, 0) ⟨w.heap.size, 0, none⟩ := fun V => ⟨_, named_self _ _ _, rfl⟩
  unfold freshO at q
  cases ho : o.op <;> simp only [ho] at q
  case alloc e =>
    split at q
    case h_1 => cases q
    rename_i z hz
    injection q with q; injection q with q1 q2; subst q1; subst q2
    obtain ⟨u, r1, r2⟩ := zero_run (V := V) hA hz w
    refine ⟨.pointer (some ⟨w.heap.size, 0, none⟩), { w with heap := w.heap.push (.cells u.cells e (0, 0)) }, ?_, fresh_cells (ty := e) hb (A0.rel.cells r2) rfl (by simp) ⟨_, pnew _, rfl⟩⟩
    have : execOp a.eval o = (Instr.alloc e true (.tuple #[]) >>= fun z => (pure (Next.value z) : Sem Next)) := by simp only [execOp, ho]
    rw [this]
    refine run_bind_ok ?_
    unfold Instr.alloc
    rw [run_bind_ok r1]
    simp only
    rw [run_bind_ok (run_newVar e u w)]
    rfl
  case box e y =>
    split at q
    case h_2 => cases q
    rename_i z hz
    injection q with q; injection q with q1 q2; subst q1; subst q2
    have ru : z.rel V (a.eval y) := opd_rel s ht hz
    refine ⟨.pointer (some ⟨w.heap.size, 0, none⟩), { w with heap := w.heap.push (.cells (a.eval y).cells e (0, 0)) }, ?_, fresh_cells (ty := e) hb (A0.rel.cells ru) rfl (by simp) ⟨_, pnew _, rfl⟩⟩
    have : execOp a.eval o = (Instr.box e (a.eval y) >>= fun z => (pure (Next.value z) : Sem Next)) := by simp only [execOp, ho]
    rw [this]
    refine run_bind_ok ?_
    unfold Instr.box
    rw [run_bind_ok (run_newVar e _ w)]
    rfl
  case buildSlice t n ps =>
    split at q
    case h_2 => cases q
    rename_i e h1
    split at q
    case h_2 => cases q
    rename_i k zl qs hk hq
    split at q
    case h_2 => cases q
    rename_i l hf hn
    injection q with q; injection q with q1 q2; subst q1; subst q2
    have hn := Nat.le_of_ble_eq_true hn
    obtain ⟨i, hi, rfl, hk1, hby, zv, hzv, hlen, hrel⟩ := elt_ok hA hk
    have hsz : zv.cells.size = i.size := (hrel V).length.symm.trans hlen
    have fin : ∀ (z : Array Value), All2 (Ce.rel V) (rep n zl) ((Array.range (n * i.size)).map (fun j => z[j % z.size]!)).toList → ∃ x w', ((match Instr.fill (fun j => some (j * i.size, i.size)) ((Array.range (n * i.size)).map (fun j => z[j % z.size]!)) (ps.map fun ((i, x) : Nat × Operand) => (i, a.eval x)).toList with
        | some cells => (do pure (.slice (some (← newRow e cells)) n n) : Sem Value)
        | _ => stuck "buildSlice: a part of the wrong size").run A.P w) = .ok x w' ∧ Fresh E V w b (.V (.C (.L (some (b, 0)) n (.k n)))) (.cells (T.ofL l) (Nat.mul n i.size) none) x w' := fun z hz => by
      obtain ⟨c', f1, f2⟩ := fill_run (q := fun j => some (j * i.size, i.size)) (fun i x hx => hx) hf hz (pairs_rel s ht hq)
      rw [Array.toList_map, f1]
      simp only
      have hl : Nat.mul n i.size = l.length := by
        have hfl : ∀ (ps : List (Nat × A0)) (l l' : List Ce), fillC (fun j => some (Nat.mul j i.size, i.size)) l ps = some l' → l'.length = l.length := by
          intro ps
          induction ps with
          | nil => intro l l' e; injection e with e; rw [e]
          | cons p ps ih =>
            intro l l' e
            obtain ⟨j, v⟩ := p
            unfold fillC at e
            simp only at e
            split at e
            case h_2 => cases e
            rw [ih _ _ e, setL_len]
        rw [hfl _ _ _ hf, rep_length, hlen]; rfl
      refine ⟨_, { w with heap := w.heap.push (.cells c' e (0, 0)) }, by rw [run_bind_ok (run_newRow _ _ _)]; rfl, fresh_cells (ty := e) hb f2 hl (by simp only [Array.toArray_toList]) ⟨_, pnew _, rfl⟩⟩
    have : execOp a.eval o = (Instr.buildSlice t n (ps.map fun (i, x) => (i, a.eval x)) >>= fun z => (pure (Next.value z) : Sem Next)) := by simp only [execOp, ho]
    rw [this]
    have key : ∃ x w', (Instr.buildSlice t n (ps.map fun (i, x) => (i, a.eval x))).run A.P w = .ok x w' ∧ Fresh E V w b (.V (.C (.L (some (b, 0)) n (.k n)))) (.cells (T.ofL l) (Nat.mul n i.size) none) x w' := by
      unfold Instr.buildSlice
      rw [run_und (hA.und h1)]
      simp only
      rw [run_bind_ok (run_size hi w), if_neg (show ¬ (n * i.size > 2 ^ 24) by have : ¬ (n * i.size > 16777216) := by { have : n * i.size ≤ 16777216 := hn; omega }
                                                                               exact this)]
      by_cases h0 : n * i.size = 0
      · simp only [if_pos h0]
        refine fin #[] ?_
        have : n = 0 := by
          rcases Nat.mul_eq_zero.1 h0 with q | q
          · exact q
          · omega
        subst this
        simp [rep, All2]
      · simp only [if_neg h0]
        rw [run_bind_ok (run_zero hi hzv w)]
        exact fin zv.cells (zeros_rel (hrel V) n _ (by rw [hsz]))
    obtain ⟨x, w', k1, k2⟩ := key
    exact ⟨x, w', run_bind_ok k1, k2⟩
  all_goals cases q
/-- An object under a name that was kept back is laid into the heap. -/
theorem Sim.wake (s : Sim E G V h w) {b : Nat} {ob : Ob X} {p : Pl} (hb : V b = some p) (ho : ObR E V w p ob) (hn : ∀ j ∈ foot E ob p, ¬ Live E V h j) : Sim E G V ⟨h.t.put b ob, h.next⟩ w :=
  s.put hb ho (fun _ _ _ => rfl) (Nat.le_refl _) fun b' ob' p' j g _ q hf hf2 => hn j hf2 ⟨b', ob', p', g, q, hf⟩
end Ev
end Go.Proofs.YtlkgdpdnhnakoaaGreatDoor

namespace Go.Proofs.YtlkgdpdnhnakoaaGreatDoor
namespace Ev
variable {X : Type} {E : Xs X} {G : Nat} {A : Tab}

/-! ### Masks -/
theorem nthN_lt : ∀ {ms : List Nat} {m k : Nat}, k < ms.length → nthN (ms ++ [m]) k = nthN ms k
  | _ :: _, _, 0, _ => rfl
  | _ :: l, _, k + 1, h => nthN_lt (ms := l) (by simpa using h)
theorem nthN_end : ∀ {ms : List Nat} {m : Nat}, nthN (ms ++ [m]) ms.length = m
  | [], _ => rfl
  | _ :: l, _ => nthN_end (ms := l)
theorem edgesOk_lt : ∀ {es : List Edge} {i : Nat}, edgesOk i es = true → ∀ e ∈ es, Region.binds .any e = true → e.on < i
  | [], _, _, _, h, _ => by cases h
  | d :: es, i, q, e, h, hb => by
    unfold edgesOk at q
    split at q
    case h_1 hd =>
      rcases List.mem_cons.1 h with rfl | h
      · rw [hb] at hd; cases hd
      · exact edgesOk_lt q e h hb
    case h_2 hd =>
      split at q
      case h_2 => cases q
      rename_i hle
      rcases List.mem_cons.1 h with rfl | h
      · exact Nat.le_of_ble_eq_true hle
      · exact edgesOk_lt q e h hb
theorem edgeMask_congr {ms r : List Nat} : ∀ {es : List Edge}, (∀ e ∈ es, Region.binds .any e = true → nthN ms e.on = nthN r e.on) → edgeMask ms es = edgeMask r es
  | [], _ => rfl
  | e :: es, h => by
    unfold edgeMask
    have ih := edgeMask_congr (es := es) fun d hd => h d (List.mem_cons_of_mem _ hd)
    split
    case h_1 hb => rw [h e (List.mem_cons_self ..) hb, ih]
    case h_2 => exact ih
theorem edgeMask_bit {ms : List Nat} {i : Nat} : ∀ {es : List Edge}, Nat.testBit (edgeMask ms es) i = true → ∃ e ∈ es, Region.binds .any e = true ∧ (i = e.on ∨ Nat.testBit (nthN ms e.on) i = true)
  | [], h => by simp [edgeMask] at h
  | e :: es, h => by
    unfold edgeMask at h
    split at h
    case h_1 hb =>
      have h : Nat.testBit ((2 ^ e.on ||| nthN ms e.on) ||| edgeMask ms es) i = true := h
      rw [Nat.testBit_or, Nat.testBit_or, Nat.testBit_two_pow] at h
      simp only [Bool.or_eq_true, decide_eq_true_eq] at h
      rcases h with (h | h) | h
      · exact ⟨e, List.mem_cons_self .., hb, .inl h.symm⟩
      · exact ⟨e, List.mem_cons_self .., hb, .inr h⟩
      · obtain ⟨d, d1, d2⟩ := edgeMask_bit h; exact ⟨d, List.mem_cons_of_mem _ d1, d2⟩
    case h_2 => obtain ⟨d, d1, d2⟩ := edgeMask_bit h; exact ⟨d, List.mem_cons_of_mem _ d1, d2⟩
theorem masksO_spec : ∀ {l : List Oper} {i : Nat} {ms r : List Nat}, masksO i ms l = some r → ms.length = i → (∀ k, k < i → nthN r k = nthN ms k) ∧ ∀ k o, l[k]? = some o → edgesOk (i + k) o.after.toList = true ∧ nthN r (i + k) = edgeMask r o.after.toList
  | [], i, ms, r, q, _ => by injection q with q; subst q; exact ⟨fun _ _ => rfl, fun k o h => by simp at h⟩
  | o :: l, i, ms, r, q, hi => by
    unfold masksO at q
    split at q
    case h_1 => cases q
    rename_i hok
    rw [nseq_eq] at q
    obtain ⟨h1, h2⟩ := masksO_spec q (by simp [hi])
    have pre : ∀ k, k < i → nthN r k = nthN ms k := fun k hk => by rw [h1 k (by omega), nthN_lt (by omega)]
    refine ⟨pre, fun k p hp => ?_⟩
    cases k with
    | zero =>
      have : o = p := by simpa using hp
      subst this
      refine ⟨hok, ?_⟩
      rw [Nat.add_zero, h1 i (by omega), ← hi, nthN_end]
      exact edgeMask_congr fun e he hb => (pre _ (edgesOk_lt hok e he hb)).symm
    | succ k =>
      have := h2 k p (by simpa using hp)
      rw [show i + (k + 1) = i.succ + k by omega]
      exact this
/-- A set of operations, with each that they wait for. -/
def Closed (L : List Oper) (S : Nat → Prop) : Prop := ∀ j o, S j → L[j]? = some o → ∀ e ∈ o.after.toList, Region.binds .any e = true → S e.on
structure Masks (L : List Oper) (ms : List Nat) : Prop where
  lt : ∀ j o, L[j]? = some o → ∀ e ∈ o.after.toList, Region.binds .any e = true → e.on < j
  eq : ∀ j o, L[j]? = some o → nthN ms j = edgeMask ms o.after.toList
theorem Masks.of {L : List Oper} {ms : List Nat} (h : masksO 0 [] L = some ms) : Masks L ms := by
  obtain ⟨_, h2⟩ := masksO_spec h rfl
  refine ⟨fun j o ho => ?_, fun j o ho => ?_⟩
  · have := (h2 j o ho).1
    rw [Nat.zero_add] at this
    exact edgesOk_lt this
  · have := (h2 j o ho).2
    rw [Nat.zero_add] at this
    exact this
theorem Masks.sub {L : List Oper} {ms : List Nat} (m : Masks L ms) {S : Nat → Prop} (hS : Closed L S) : ∀ (n j : Nat) (o : Oper), j < n → L[j]? = some o → (∀ e ∈ o.after.toList, Region.binds .any e = true → S e.on) → ∀ i, Nat.testBit (nthN ms j) i = true → S i ∧ i < j := by
  intro n
  induction n with
  | zero => intro j o hj; omega
  | succ n ih =>
    intro j o hj ho hs i hb
    rw [m.eq j o ho] at hb
    obtain ⟨e, he, hbe, h⟩ := edgeMask_bit hb
    have hlt := m.lt j o ho e he hbe
    rcases h with rfl | h
    · exact ⟨hs e he hbe, hlt⟩
    · have hse := hs e he hbe
      have hjl : j < L.length := (List.getElem?_eq_some_iff.1 ho).1
      have hp : L[e.on]? = some (L[e.on]'(by omega)) := List.getElem?_eq_getElem _
      obtain ⟨q1, q2⟩ := ih e.on _ (by omega) hp (hS e.on _ hse hp) i h
      exact ⟨q1, by omega⟩

/-! ### Temporaries -/
theorem clearT_spec {ms : List Nat} {j mj t : Nat} : ∀ {l : List Oper} {i : Nat}, clearT ms j mj t i l = true → ∀ k p, l[k]? = some p → p.dst = some t → i + k ≠ j → (i + k < j ∧ Nat.testBit mj (i + k) = true) ∨ (j < i + k ∧ Nat.testBit (nthN ms (i + k)) j = true)
  | [], i, _, k, p, h, _, _ => by simp at h
  | o :: l, i, q, k, p, h, hd, hne => by
    have next : clearT ms j mj t (Nat.succ i) l = true → (k ≠ 0) → (i + k < j ∧ Nat.testBit mj (i + k) = true) ∨ (j < i + k ∧ Nat.testBit (nthN ms (i + k)) j = true) := fun q hk => by
      obtain ⟨k', rfl⟩ := Nat.exists_eq_succ_of_ne_zero hk
      have := clearT_spec q k' p (by simpa using h) hd (by omega)
      rw [show i.succ + k' = i + k'.succ by omega] at this
      exact this
    unfold clearT at q
    split at q
    case h_1 ho => exact next q (fun h0 => by subst h0; have : o = p := by simpa using h
                                              subst this; rw [hd] at ho; cases ho)
    case h_2 d ho =>
      split at q
      case h_1 hb =>
        exact next q (fun h0 => by
          subst h0
          have : o = p := by simpa using h
          subst this
          rw [hd] at ho; cases ho
          exact Nat.ne_of_beq_eq_false hb rfl)
      case h_2 hb =>
        split at q
        case h_1 hij =>
          exact next q (fun h0 => by subst h0; exact hne (Nat.eq_of_beq_eq_true hij))
        case h_2 hij =>
          split at q
          case h_2 => cases q
          rename_i hbit
          by_cases h0 : k = 0
          · subst h0
            split at hbit
            case h_1 hle => exact .inl ⟨Nat.lt_of_le_of_ne (Nat.le_of_ble_eq_true hle) hne, hbit⟩
            case h_2 hle => exact .inr ⟨lt_of_ble hle, hbit⟩
          · exact next q h0
theorem clearL_spec {ms : List Nat} {L : List Oper} {j mj : Nat} : ∀ {ts : List Nat}, clearL ms L j mj ts = true → ∀ t ∈ ts, clearT ms j mj t 0 L = true
  | t :: ts, q, u, h => by
    unfold clearL at q
    split at q
    case h_2 => cases q
    rename_i hc
    rcases List.mem_cons.1 h with rfl | h
    · exact hc
    · exact clearL_spec q u h
theorem clearO_spec {ms : List Nat} {L : List Oper} : ∀ {l : List Oper} {j : Nat}, clearO ms L j l = true → ∀ k o, l[k]? = some o → clearL ms L (j + k) (nthN ms (j + k)) (match o.dst with | none => usesO L o | some d => d :: usesO L o) = true
  | [], _, _, _, _, h => by simp at h
  | o :: l, j, q, k, p, h => by
    unfold clearO at q
    split at q
    case h_2 => cases q
    rename_i hc
    cases k with
    | zero => have : o = p := by simpa using h
              subst this; exact hc
    | succ k =>
      have := clearO_spec q k p (by simpa using h)
      rw [show j.succ + k = j + (k + 1) by omega] at this
      exact this
structure Seen (L : List Oper) (ms : List Nat) : Prop where
  m : Masks L ms
  clear : ∀ j o t, L[j]? = some o → (o.dst = some t ∨ t ∈ usesO L o) → ∀ i p, L[i]? = some p → p.dst = some t → i ≠ j → (i < j ∧ Nat.testBit (nthN ms j) i = true) ∨ (j < i ∧ Nat.testBit (nthN ms i) j = true)
theorem Seen.of {L : List Oper} {ms : List Nat} (h : seenO L = some ms) : Seen L ms := by
  unfold seenO at h
  split at h
  case h_1 => cases h
  rename_i m hm
  split at h
  case h_2 => cases h
  rename_i hc
  injection h with h; subst h
  refine ⟨.of hm, fun j o t ho ht i p hp hd hne => ?_⟩
  have h1 := clearO_spec hc j o ho
  rw [Nat.zero_add] at h1
  have h2 := clearL_spec h1 t (by
    rcases ht with ht | ht
    · rw [ht]; exact List.mem_cons_self ..
    · cases o.dst with
      | none => exact ht
      | some d => exact List.mem_cons_of_mem _ ht)
  have := clearT_spec h2 i p hp hd (by omega)
  rw [Nat.zero_add] at this
  exact this
theorem onlyT_get {tm : T AV} : ∀ {l : List Nat} {r : T AV} {d : Nat} {a : AV}, (onlyT tm l r).get d = some a → (d ∈ l ∧ tm.get d = some a) ∨ r.get d = some a
  | [], _, _, _, h => .inr h
  | t :: l, r, d, a, h => by
    unfold onlyT at h
    split at h
    case h_1 =>
      rcases onlyT_get h with ⟨h1, h2⟩ | h1
      · exact .inl ⟨List.mem_cons_of_mem _ h1, h2⟩
      · exact .inr h1
    case h_2 b hb =>
      rcases onlyT_get h with ⟨h1, h2⟩ | h1
      · exact .inl ⟨List.mem_cons_of_mem _ h1, h2⟩
      · rcases T.get_put h1 with ⟨rfl, rfl⟩ | ⟨_, h2⟩
        · exact .inl ⟨List.mem_cons_self .., hb⟩
        · exact .inr h2
end Ev
end Go.Proofs.YtlkgdpdnhnakoaaGreatDoor

namespace Go.Proofs.YtlkgdpdnhnakoaaGreatDoor
namespace Ev
variable {X : Type} {E : Xs X} {G : Nat} {A : Tab}

/-- Where the run in the order of the text stands. -/
structure St (X : Type) where
  tm : T AV
  pf : List (Nat × Ob X)
  h : Hp X
def Rc.val : Rc X → AV
  | .off => .U []
  | .fr v _ => v
  | .lt _ _ v => v
  | .hv v _ => v
/-- One operation of that run. -/
def One (A : Tab) (G : Nat) (I : Ix X) (C : Cl X) (nt base : Nat) (ms : List Nat) (L : List Oper) (j : Nat) (o : Oper) (s : St X) (rc : Rc X) (s' : St X) : Prop :=
  putT s.tm nt o.dst rc.val = some s'.tm ∧ match rc with
  | .off => wantedO L (onlyT s.tm (usesO L o) (T.full (nat_lit 16))) o.guard = some false ∧ s'.pf = s.pf ∧ s'.h = s.h
  | .fr v ob => wantedO L (onlyT s.tm (usesO L o) (T.full (nat_lit 16))) o.guard = some true ∧ freshO A G (onlyT s.tm (usesO L o) (T.full (nat_lit 16))) (base + j) o.op = some (v, ob) ∧ s'.pf = (j, ob) :: s.pf ∧ s'.h = s.h
  | .lt o' u v => wantedO L u o.guard = some true ∧ o' = o ∧ u = onlyT s.tm (usesO L o) (T.full (nat_lit 16)) ∧ lightO o.op = true ∧ execO A G I u s.h o = some (.val v s.h) ∧ s'.pf = s.pf ∧ s'.h = s.h
  | .hv v h' => wantedO L (onlyT s.tm (usesO L o) (T.full (nat_lit 16))) o.guard = some true ∧ s'.h = h' ∧ ∃ t0, wakeO base (nthN ms j) s.pf s.h.t = (t0, s'.pf) ∧ stepV A G I C o (onlyT s.tm (usesO L o) (T.full (nat_lit 16))) ⟨t0, s.h.next⟩ = some (v, h')
theorem heavyO_spec {I : Ix X} {C : Cl X} {nt base : Nat} {ms : List Nat} {j : Nat} {o : Oper} {u tm tm' : T AV} {pf pf' : List (Nat × Ob X)} {h h' : Hp X} {v : AV} (q : heavyO A G I C nt base ms j o u tm pf h = some (v, tm', pf', h')) :
    putT tm nt o.dst v = some tm' ∧ ∃ t0, wakeO base (nthN ms j) pf h.t = (t0, pf') ∧ stepV A G I C o u ⟨t0, h.next⟩ = some (v, h') := by
  unfold heavyO at q
  split at q
  rename_i t0 pf0 hw
  split at q
  case h_1 => cases q
  rename_i v0 h1 hs
  rw [AV.seq_eq] at q
  split at q
  case h_1 => cases q
  rename_i tm1 hp
  rw [T.seq_eq, Hp.seq_eq] at q
  injection q with q; injection q with q1 q; injection q with q2 q; injection q with q3 q4; subst q1; subst q2; subst q3; subst q4
  exact ⟨hp, t0, hw, hs⟩
theorem runD_spec {I : Ix X} {C : Cl X} {nt base : Nat} {ms : List Nat} {L : List Oper} : ∀ {l : List Oper} {j : Nat} {tm tm' : T AV} {pf pf' : List (Nat × Ob X)} {h h' : Hp X} {r : List (Rc X)}, runD A G I C nt base ms L j l tm pf h = some (r, tm', pf', h') →
    ∃ st : Nat → St X, st 0 = ⟨tm, pf, h⟩ ∧ st l.length = ⟨tm', pf', h'⟩ ∧ r.length = l.length ∧ ∀ k o, l[k]? = some o → ∃ rc, r[k]? = some rc ∧ One A G I C nt base ms L (j + k) o (st k) rc (st (k + 1))
  | [], j, tm, tm', pf, pf', h, h', r, q => by
    injection q with q; injection q with q1 q; injection q with q2 q; injection q with q3 q4; subst q1; subst q2; subst q3; subst q4
    exact ⟨fun _ => ⟨tm, pf, h⟩, rfl, rfl, rfl, fun k o hk => by simp at hk⟩
  | o :: l, j, tm, tm', pf, pf', h, h', r, q => by
    have step : ∀ {tm1 : T AV} {pf1 : List (Nat × Ob X)} {h1 : Hp X} {rc : Rc X} {r1 : List (Rc X)}, runD A G I C nt base ms L (Nat.succ j) l tm1 pf1 h1 = some (r1, tm', pf', h') → r = rc :: r1 → One A G I C nt base ms L j o ⟨tm, pf, h⟩ rc ⟨tm1, pf1, h1⟩ →
        ∃ st : Nat → St X, st 0 = ⟨tm, pf, h⟩ ∧ st (o :: l).length = ⟨tm', pf', h'⟩ ∧ r.length = (o :: l).length ∧ ∀ k p, (o :: l)[k]? = some p → ∃ rc, r[k]? = some rc ∧ One A G I C nt base ms L (j + k) p (st k) rc (st (k + 1)) := by
      intro tm1 pf1 h1 rc r1 q0 hr ho
      subst hr
      obtain ⟨st, s0, s1, s2, s3⟩ := runD_spec q0
      refine ⟨fun k => match k with | 0 => ⟨tm, pf, h⟩ | k + 1 => st k, rfl, s1, by simp [s2], fun k p hk => ?_⟩
      cases k with
      | zero =>
        have : o = p := by simpa using hk
        subst this
        refine ⟨rc, rfl, ?_⟩
        show One A G I C nt base ms L (j + 0) o ⟨tm, pf, h⟩ rc (st 0)
        rw [s0]; exact ho
      | succ k =>
        obtain ⟨rc', e1, e2⟩ := s3 k p (by simpa using hk)
        refine ⟨rc', by simpa using e1, ?_⟩
        rw [show j + (k + 1) = j.succ + k by omega]
        exact e2
    unfold runD at q
    rw [T.seq_eq] at q
    split at q
    case h_1 => cases q
    case h_2 hw =>
      split at q
      case h_1 => cases q
      rename_i tm1 hp
      split at q
      case h_1 => cases q
      rename_i r1 e hq
      injection q with q; injection q with q1 q2; subst q2
      exact step hq q1.symm ⟨hp, hw, rfl, rfl⟩
    case h_3 hw =>
      split at q
      case h_1 =>
        split at q
        case h_1 => cases q
        rename_i v ob hf
        rw [AV.seq_eq] at q
        split at q
        case h_1 => cases q
        rename_i tm1 hp
        split at q
        case h_1 => cases q
        rename_i r1 e hq
        injection q with q; injection q with q1 q2; subst q2
        exact step hq q1.symm ⟨hp, hw, hf, rfl, rfl⟩
      case h_2 =>
        split at q
        case h_1 hl =>
          split at q
          case h_2 => cases q
          rename_i v h1 hx
          split at q
          case h_1 hn =>
            rw [AV.seq_eq] at q
            split at q
            case h_1 => cases q
            rename_i tm1 hp
            split at q
            case h_1 => cases q
            rename_i r1 e hq
            injection q with q; injection q with q1 q2; subst q2
            have := light_same hl hx (Nat.eq_of_beq_eq_true hn)
            subst this
            exact step hq q1.symm ⟨hp, hw, rfl, rfl, hl, hx, rfl, rfl⟩
          case h_2 =>
            split at q
            case h_1 => cases q
            rename_i v1 tm1 pf1 h1 hh
            split at q
            case h_1 => cases q
            rename_i r1 e hq
            injection q with q; injection q with q1 q2; subst q2
            obtain ⟨e1, t0, e2, e3⟩ := heavyO_spec hh
            exact step hq q1.symm ⟨e1, hw, rfl, t0, e2, e3⟩
        case h_2 =>
          split at q
          case h_1 => cases q
          rename_i v1 tm1 pf1 h1 hh
          split at q
          case h_1 => cases q
          rename_i r1 e hq
          injection q with q; injection q with q1 q2; subst q2
          obtain ⟨e1, t0, e2, e3⟩ := heavyO_spec hh
          exact step hq q1.symm ⟨e1, hw, rfl, t0, e2, e3⟩
/-- The run in the order of the text, whole. -/
structure Run (A : Tab) (G : Nat) (I : Ix X) (C : Cl X) (nt base : Nat) (ms : List Nat) (L : List Oper) (r : List (Rc X)) (st : Nat → St X) : Prop where
  len : r.length = L.length
  one : ∀ k o, L[k]? = some o → ∃ rc, r[k]? = some rc ∧ One A G I C nt base ms L k o (st k) rc (st (k + 1))
  nil : (st 0).pf = []
theorem putT_get {tm tm' : T AV} {nt : Nat} {dst : Option Tmp} {v : AV} (q : putT tm nt dst v = some tm') {t : Nat} {a : AV} (h : tm'.get t = some a) : (dst = some t ∧ a = v) ∨ (dst ≠ some t ∧ tm.get t = some a) := by
  unfold putT at q
  cases dst with
  | none => injection q with q; subst q; exact .inr ⟨fun e => (by cases e), h⟩
  | some d =>
    simp only at q
    split at q
    case h_2 => cases q
    injection q with q; subst q
    rcases T.get_put h with ⟨rfl, rfl⟩ | ⟨h1, h2⟩
    · exact .inl ⟨rfl, rfl⟩
    · exact .inr ⟨fun e => h1 (by injection e with e; exact e.symm), h2⟩
/-- What a temporary holds in that run. -/
theorem Run.tm {I : Ix X} {C : Cl X} {nt base : Nat} {ms : List Nat} {L : List Oper} {r : List (Rc X)} {st : Nat → St X} (R : Run A G I C nt base ms L r st) : ∀ (j : Nat), j ≤ L.length → ∀ {t : Nat} {a : AV}, (st j).tm.get t = some a →
    (∃ i o rc, i < j ∧ L[i]? = some o ∧ o.dst = some t ∧ r[i]? = some rc ∧ a = rc.val ∧ ∀ i' o', i < i' → i' < j → L[i']? = some o' → o'.dst ≠ some t) ∨ ((∀ i o, i < j → L[i]? = some o → o.dst ≠ some t) ∧ (st 0).tm.get t = some a) := by
  intro j
  induction j with
  | zero => intro _ t a h; exact .inr ⟨fun i o hi => by omega, h⟩
  | succ j ih =>
    intro hj t a h
    have ho : L[j]? = some (L[j]'(by omega)) := List.getElem?_eq_getElem _
    obtain ⟨rc, h1, h2, _⟩ := R.one j _ ho
    rcases putT_get h2 h with ⟨q1, q2⟩ | ⟨q1, q2⟩
    · exact .inl ⟨j, _, rc, by omega, ho, q1, h1, q2, fun i' o' h3 h4 => by omega⟩
    · rcases ih (by omega) q2 with ⟨i, o, rc', p1, p2, p3, p4, p5, p6⟩ | ⟨p1, p2⟩
      · refine .inl ⟨i, o, rc', by omega, p2, p3, p4, p5, fun i' o' h3 h4 h5 => ?_⟩
        rcases Nat.lt_or_ge i' j with h6 | h6
        · exact p6 i' o' h3 h6 h5
        · have : i' = j := by omega
          subst this
          rw [ho] at h5; cases h5; exact q1
      · refine .inr ⟨fun i o hi hio => ?_, p2⟩
        rcases Nat.lt_or_ge i j with h6 | h6
        · exact p1 i o h6 hio
        · have : i = j := by omega
          subst this
          rw [ho] at hio; cases hio; exact q1
theorem wakeO_rest (base m : Nat) : ∀ (l : List (Nat × Ob X)) (t : T (Ob X)), (wakeO base m l t).2 = l.filter (fun x => !(Nat.testBit m x.1))
  | [], _ => rfl
  | (i, ob) :: l, t => by
    unfold wakeO
    rw [List.filter_cons]
    cases hb : Nat.testBit m i with
    | true => simp only [Bool.not_true, Bool.false_eq_true, if_false]; exact wakeO_rest base m l _
    | false =>
      have := wakeO_rest base m l t
      simp only [Bool.not_false, if_true]
      rw [← this]
end Ev
end Go.Proofs.YtlkgdpdnhnakoaaGreatDoor
