/- EvFa: the evaluator at the program itself, each way closed, so that the kernel copies little. (Printed by wip/gen/fast.py.) -/
import Derived.Test.YtlkgdpdnhnakoaaGreatDoorEvIx
import Derived.KernelRfl
namespace Go.Proofs.YtlkgdpdnhnakoaaGreatDoor
namespace Ev

noncomputable def tabP : Tab := tabOf Tryz.prog
abbrev R3 := Option (T AV × List Df × Hp Xo)
abbrev R4 := Option (Ex × T AV × List Df × Hp Xo)
set_option linter.unusedVariables false in
noncomputable def execP (op : Op) : T AV → Hp Xo → Option (Res Xo) := Op.casesOn (motive := fun _ => T AV → Hp Xo → Option (Res Xo)) op
  (fun x tm h => ov h (opd numG tm x))
  (fun x tm h => ov h (opd numG tm x))
  (fun c a b tm h => match opd numG tm c with
    | some (.V (.C (.B true))) => ov h (opd numG tm a)
    | some (.V (.C (.B false))) => ov h (opd numG tm b)
    | _ => none)
  (fun e tm h => match tabP.zero e with
    | none => none
    | some z => some (.val (.V (.C (.P (some (h.next, 0))))) (h.add (.cells (T.ofL z.cells) z.cells.length none))))
  (fun _ x tm h => match opd numG tm x with
    | some (.V z) => some (.val (.V (.C (.P (some (h.next, 0))))) (h.add (.cells (T.ofL z.cells) z.cells.length none)))
    | _ => none)
  (fun t ps tm h => match tabP.zero t, pairs numG tm ps.toList, tabP.und t with
    | some (.G z), some qs, some (.struct fs) => match placesO tabP fs.toList with
      | none => none
      | some ps => match fillC (nthP ps) z qs with
        | none => none
        | some l => some (.val (.V (.G l)) h)
    | some (.G z), some qs, some (.array _ e) => match tabP.size e with
      | none => none
      | some k => match fillC (fun i => some (Nat.mul i k, k)) z qs with
        | none => none
        | some l => some (.val (.V (.G l)) h)
    | _, _, _ => none)
  (fun t n ps tm h => match tabP.und t with
    | some (.slice e) => match tabP.elt e, pairs numG tm ps.toList with
      | some (k, zl), some qs => match fillC (fun i => some (Nat.mul i k, k)) (rep n zl) qs, Nat.ble (Nat.mul n k) (nat_lit 16777216) with
        | some l, true => some (.val (.V (.C (.L (some (h.next, 0)) n (.k n)))) (h.add (.cells (T.ofL l) (Nat.mul n k) none)))
        | _, _ => none
      | _, _ => none
    | _ => none)
  (fun _ _ _ _ _ _ => none)
  (fun t x tm h => match opd numG tm x with
    | some (.V (.C (.P (some (b, o))))) => ov h (loadAt tabP h t b o)
    | _ => none)
  (fun t a x tm h => match opd numG tm a, opd numG tm x, tabP.size t with
    | some (.V (.C (.P (some (b, o))))), some (.V z), some n => match Nat.beq z.cells.length n, storeAt h b o z.cells with
      | true, some h' => some (.skip h')
      | _, _ => none
    | _, _, _ => none)
  (fun _ _ _ => none)
  (fun _ _ _ => none)
  (fun x tm h => match opd numG tm x with
    | some (.V (.C (.P (some a)))) => some (.val (.V (.C (.P (some a)))) h)
    | some (.V (.C (.F f fs cs))) => some (.val (.V (.C (.F f fs cs))) h)
    | some (.V (.C (.Y l))) => some (.val (.V (.C (.Y l))) h)
    | _ => none)
  (fun op t x y _ tm h => match opd numG tm x, opd numG tm y with
    | some a, some b => ov h (binE tabP ixP op t a b h)
    | _, _ => none)
  (fun op _ x tm h => match opd numG tm x with
    | some a => ov h (unO op a)
    | none => none)
  (fun s d x tm h => match tabP.und s, tabP.und d, opd numG tm x with
    | some _, some (.int k), some (.V (.C (.I _ n))) => some (.val (.V (.C (.I k (wrapF k n)))) h)
    | some _, some .string, some (.V (.C (.S l))) => some (.val (.V (.C (.S l))) h)
    | some _, some (.slice e), some (.V (.C (.S l))) => match tabP.und e with
      | some (.int .u8) => some (.val (.V (.C (.L (some (h.next, 0)) l.length (.e 0)))) (h.add (.cells (T.ofL (l.map fun b => .I .u8 (.ofNat b.toNat))) l.length (some 1))))
      | _ => none
    | some (.slice e), some .string, some (.V (.C (.L a n c))) => match tabP.und e, rowOf h 1 (.L a n c) n with
      | some (.int .u8), some l => match bytesOf l with
        | some r => some (.val (.V (.C (.S r))) h)
        | none => none
      | _, _ => none
    | some (.slice _), some (.slice e), some (.V (.C (.L (some (b, o)) n c))) => match Nat.beq s d, tabP.und e, h.t.get b with
      | true, some (.int .u8), some (.cells _ _ _) => some (.val (.V (.C (.L (some (b, o)) n c))) h)
      | _, _, _ => none
    | _, _, _ => none)
  (fun t x tm h => match tabP.und t, opd numG tm x with
    | some (.array n _), some (.V (.C (.L a len _))) => match Nat.ble n len with
      | true => some (.val (.V (.C (.P a))) h)
      | false => none
    | _, _ => none)
  (fun t x tm h => match tabP.und t, opd numG tm x with
    | some (.interface _), _ => none
    | some _, some (.V z) => some (.val (.N t z) h)
    | _, _ => none)
  (fun y0 fs cs tm h => match y0 with
    | .func f => (match opds numG tm fs.toList, opds numG tm cs.toList with
      | some k, some l => match ptrs k, ptrs l with
        | some q, some r => some (.val (.V (.C (.F f q r))) h)
        | _, _ => none
      | _, _ => none)
    | _ => none)
  (fun _ y1 tm h => match y1 with
    | none => (some (.val (.V (.C (.M (some h.next)))) (h.add (.map [] 0))))
    | _ => none)
  (fun _ _ _ _ => none)
  (fun t n c tm h => match tabP.und t, opd numG tm n, opd numG tm c with
    | some (.slice e), some (.V (.C (.I _ (.ofNat n)))), some (.V (.C (.I _ (.ofNat c)))) => match tabP.elt e, Nat.ble n c, Nat.ble c (nat_lit 65536) with
      | some (k, zl), true, true => some (.val (.V (.C (.L (some (h.next, 0)) n (.k c)))) (h.add (.cells (zeros c zl) (Nat.mul c k) none)))
      | _, _, _ => none
    | _, _, _ => none)
  (fun t x lo hi mx tm h => match tabP.und t, opd numG tm x, optO numG tm lo, optO numG tm hi, optO numG tm mx with
    | some .string, some (.V (.C (.S l))), some lo, some hi, some none => match bnd 0 lo, bnd l.length hi with
      | some a, some b => match Nat.ble a b, Nat.ble b l.length with
        | true, true => some (.val (.V (.C (.S ((l.take b).drop a)))) h)
        | _, _ => none
      | _, _ => none
    | some (.slice e), some (.V (.C (.L a n c))), some lo, some hi, some mx => match tabP.size e with
      | none => none
      | some k => match mkSlice h k a n c lo hi mx with
        | none => none
        | some (v, h') => some (.val v h')
    | some (.array n e), some (.V (.C (.P (some a)))), some lo, some hi, some mx => match tabP.size e with
      | none => none
      | some k => match mkSlice h k (some a) n (.k n) lo hi mx with
        | none => none
        | some (v, h') => some (.val v h')
    | _, _, _, _, _ => none)
  (fun s x f tm h => match tabP.und s, opd numG tm x with
    | some (.struct fs), some (.V (.C (.P (some (b, o))))) => match fieldAt fs.toList f with
      | none => none
      | some g => match tabP.size g.type with
        | some (_ + 1) => some (.val (.V (.C (.P (some (b, Nat.add o g.offset))))) h)
        | _ => none
    | _, _ => none)
  (fun s x f tm h => match tabP.und s, opd numG tm x with
    | some (.struct fs), some (.V (.G l)) => match fieldAt fs.toList f with
      | none => none
      | some g => ov h (partO tabP g.type l g.offset)
    | _, _ => none)
  (fun t x i tm h => match tabP.und t, opd numG tm x, opd numG tm i with
    | some (.slice e), some (.V (.C (.L (some (b, o)) n _))), some (.V (.C (.I _ (.ofNat j)))) => match Nat.ble (Nat.succ j) n, tabP.size e with
      | true, some k => some (.val (.V (.C (.P (some (b, Nat.add o (Nat.mul j k)))))) h)
      | _, _ => none
    | some (.array n e), some (.V (.C (.P (some (b, o))))), some (.V (.C (.I _ (.ofNat j)))) => match Nat.ble (Nat.succ j) n, tabP.size e with
      | true, some k => some (.val (.V (.C (.P (some (b, Nat.add o (Nat.mul j k)))))) h)
      | _, _ => none
    | _, _, _ => none)
  (fun t x i tm h => match tabP.und t, opd numG tm x, opd numG tm i with
    | some .string, some (.V (.C (.S l))), some (.V (.C (.I _ (.ofNat j)))) => match l.drop j with
      | b :: _ => some (.val (.V (.C (.I .u8 (.ofNat b.toNat)))) h)
      | [] => none
    | some (.array n e), some (.V (.G l)), some (.V (.C (.I _ (.ofNat j)))) => match Nat.ble (Nat.succ j) n, tabP.size e with
      | true, some k => ov h (partO tabP e l (Nat.mul j k))
      | _, _ => none
    | _, _, _ => none)
  (fun t m k ok tm h => match tabP.und t, opd numG tm m, opd numG tm k with
    | some (.map kt e), some (.V (.C (.M r))), some (.V (.C k)) => match tabP.und kt with
      | none => none
      | some d => match entriesO h r with
        | none => none
        | some es => match mfind d k es with
          | none => none
          | some (some u) => match ok with
            | true => some (.val (.U [u, .C (.B true)]) h)
            | false => some (.val (.V u) h)
          | some none => match tabP.zero e, ok with
            | some z, true => some (.val (.U [z, .C (.B false)]) h)
            | some z, false => some (.val (.V z) h)
            | none, _ => none
    | _, _, _ => none)
  (fun t m k x tm h => match tabP.und t, opd numG tm m, opd numG tm k, opd numG tm x with
    | some (.map kt _), some (.V (.C (.M (some r)))), some (.V (.C k)), some (.V u) => match tabP.und kt, h.t.get r with
      | some d, some (.map es c) => match mput d k u c es with
        | some (es', true) => some (.skip ⟨h.t.put r (.map es' (Nat.succ c)), h.next⟩)
        | some (es', false) => some (.skip ⟨h.t.put r (.map es' c), h.next⟩)
        | none => none
      | _, _ => none
    | _, _, _, _ => none)
  (fun _ _ _ _ _ => none)
  (fun _ _ _ _ _ _ => none)
  (fun t x tm h => match tabP.und t, opd numG tm x with
    | some (.map _ _), some (.V (.C (.M none))) => some (.val (.V (.C (.P (some (h.next, 0))))) (h.add (.iter none 0 [] 0)))
    | some (.map _ _), some (.V (.C (.M (some r)))) => match h.t.get r with
      | some (.map _ c) => some (.val (.V (.C (.P (some (h.next, 0))))) (h.add (.iter (some r) c [] c)))
      | _ => none
    | _, _ => none)
  (fun x y1 tm h => match y1 with
    | false => (match opd numG tm x with
      | some (.V (.C (.P (some (r, 0))))) => match h.t.get r with
        | some (.iter none _ _ _) => some (.val (.U [.C (.B false)]) h)
        | some (.iter (some m) since seen last) => match h.t.get m with
          | some (.map es c) => match seen, es.any fun e => Nat.ble (Nat.succ e.2.2) last with
            | _ :: _, false => match es with
              | [] => some (.val (.U [.C (.B false)]) h)
              | _ => none
            | _, _ => match es.filter fun e => !(seen.any (Nat.beq e.2.2)) with
              | [] => some (.val (.U [.C (.B false)]) h)
              | [(k, v, n)] => match Nat.ble (Nat.succ n) since with
                | true => some (.val (.U [.C (.B true), .C k, v]) ⟨h.t.put r (.iter (some m) since (n :: seen) c), h.next⟩)
                | false => none
              | _ => none
          | _ => none
        | _ => none
      | _ => none)
    | _ => none)
  (fun x tm h => match opd numG tm x with
    | some (.V (.C (.P (some (r, 0))))) => match h.t.get r with
      | some (.iter (some m) _ (s :: _) last) => match h.t.get m with
        | some (.map es c) => match Nat.beq c last, es.find? (fun e => Nat.beq e.2.2 s) with
          | true, some (k, v, _) => some (.val (.U [.C k, v]) h)
          | _, _ => none
        | _ => none
      | _ => none
    | _ => none)
  (fun x _ t ok tm h => match tabP.und t, opd numG tm x with
    | some (.interface _), _ => none
    | some _, some (.N u z) => match Nat.beq u t with
      | true => match ok with
        | true => some (.val (.U [z, .C (.B true)]) h)
        | false => some (.val (.V z) h)
      | false => match ok, tabP.zero t with
        | true, some y => some (.val (.U [y, .C (.B false)]) h)
        | _, _ => none
    | _, _ => none)
  (fun x i tm h => match opd numG tm x with
    | some (.U l) => match l.drop i with
      | [] => none
      | a :: _ => some (.val (.V a) h)
    | _ => none)
  (fun c tm h => match c.callee with
    | .builtin b => match opds numG tm c.args.toList with
      | none => none
      | some args => match builtinE tabP ixP h b c.argTypes.toList args with
        | none => none
        | some (a, h') => some (.val a h')
    | .value f => match opd numG tm f, opds numG tm c.args.toList with
      | some (.V (.C (.F f fs cs))), some args => callO tabP ixP h f (ofPtrs fs ++ (args ++ ofPtrs cs))
      | some (.V (.C (.Y l))), some args => some (.yld l args)
      | _, _ => none
    | _ => none)
  (fun _ _ _ => none)
  (fun c tm h => match c.callee with
    | .value f => match opd numG tm f, opds numG tm c.args.toList with
      | some (.V (.C (.F f fs cs))), some args => some (.dfr f (ofPtrs fs ++ args) (ofPtrs cs))
      | _, _ => none
    | _ => none)
  (fun _ _ _ => none)
  (fun _ _ _ _ => none)
  (fun _ _ _ _ _ => none)
  (fun _ _ _ _ => none)
theorem eP_next : (fun x => execP (.next x false)) = fun x => execK (.next x false) tabP numG ixP := by kernel_rfl
theorem eP_store : (fun t a x => execP (.store t a x)) = fun t a x => execK (.store t a x) tabP numG ixP := by kernel_rfl
theorem eP_convert : (fun s d x => execP (.convert s d x)) = fun s d x => execK (.convert s d x) tabP numG ixP := by kernel_rfl
theorem eP_slice : (fun t x l r m => execP (.slice t x l r m)) = fun t x l r m => execK (.slice t x l r m) tabP numG ixP := by kernel_rfl
theorem eP_update : (fun t m k x => execP (.mapUpdate t m k x)) = fun t m k x => execK (.mapUpdate t m k x) tabP numG ixP := by kernel_rfl
theorem eP_range : (fun t x => execP (.range t x)) = fun t x => execK (.range t x) tabP numG ixP := by kernel_rfl
theorem eP_entry : (fun x => execP (.entry x)) = fun x => execK (.entry x) tabP numG ixP := by kernel_rfl
theorem eP_call : (fun c => execP (.call c)) = fun c => execK (.call c) tabP numG ixP := by kernel_rfl
set_option maxRecDepth 100000 in
theorem execP_eq (op : Op) (tm : T AV) (h : Hp Xo) : execP op tm h = execK op tabP numG ixP tm h := by
  cases op
  case next x b =>
    cases b
    · exact congrFun (congrFun (congrFun eP_next x) tm) h
    · rfl
  case store t a x => exact congrFun (congrFun (congrFun (congrFun (congrFun eP_store t) a) x) tm) h
  case convert s d x => exact congrFun (congrFun (congrFun (congrFun (congrFun eP_convert s) d) x) tm) h
  case slice t x l r m => exact congrFun (congrFun (congrFun (congrFun (congrFun (congrFun (congrFun eP_slice t) x) l) r) m) tm) h
  case mapUpdate t m k x => exact congrFun (congrFun (congrFun (congrFun (congrFun (congrFun eP_update t) m) k) x) tm) h
  case range t x => exact congrFun (congrFun (congrFun (congrFun eP_range t) x) tm) h
  case entry x => exact congrFun (congrFun (congrFun eP_entry x) tm) h
  case call c => exact congrFun (congrFun (congrFun eP_call c) tm) h
  case makeMap t r => cases r <;> rfl
  case makeFunc f x y => cases f <;> rfl
  all_goals rfl

noncomputable def finP (dst : Option Tmp) : Nat → T AV → List Df → AV → Hp Xo → R3 := Option.casesOn (motive := fun _ => Nat → T AV → List Df → AV → Hp Xo → R3) dst
  (fun _ tm ds _ h => tm.seq fun tm => h.seq fun h => some (tm, ds, h))
  (fun d nt tm ds v h => Bool.casesOn (motive := fun _ => R3) (Nat.ble (Nat.succ d) nt) none ((tm.put d v).seq fun tm => h.seq fun h => some (tm, ds, h)))
theorem finP_eq (dst : Option Tmp) (nt : Nat) (tm : T AV) (ds : List Df) (v : AV) (h' : Hp Xo) : finP dst nt tm ds v h' = match putT tm nt dst v with
    | none => none
    | some tm' => tm'.seq fun tm' => h'.seq fun h' => some (tm', ds, h') := by
  cases dst with
  | none => rfl
  | some d =>
    unfold finP putT
    simp only
    cases Nat.ble (Nat.succ d) nt <;> rfl
noncomputable def stepP (r : Res Xo) : Cl Xo → Option Nat → Nat → Option Tmp → T AV → List Df → Hp Xo → R3 := Res.casesOn (motive := fun _ => Cl Xo → Option Nat → Nat → Option Tmp → T AV → List Df → Hp Xo → R3) r
  (fun v h' _ _ nt dst tm ds _ => v.seq fun v => finP dst nt tm ds v h')
  (fun h' _ _ nt dst tm ds _ => finP dst nt tm ds (.U []) h')
  (fun f args C _ nt dst tm ds h => Option.casesOn (motive := fun _ => R3) (C.call f args h) none fun q => Prod.casesOn (motive := fun _ => R3) q fun v h' => finP dst nt tm ds v h')
  (fun f a c _ rd nt dst tm ds h => match rd, putT tm nt dst (.U []) with
    | none, some tm' => some (tm', .d f a c :: ds, h)
    | _, _ => none)
  (fun l args C _ nt dst tm ds h => Option.casesOn (motive := fun _ => R3) (C.yld l args h) none fun q => Prod.casesOn (motive := fun _ => R3) q fun v h' => finP dst nt tm ds v h')
noncomputable def goP (o : Oper) (C : Cl Xo) (rd : Option Nat) (nt : Nat) (tm : T AV) (ds : List Df) (h : Hp Xo) : R3 :=
  Option.casesOn (motive := fun _ => R3) (execP o.op tm h) none fun r => stepP r C rd nt o.dst tm ds h
theorem goP_eq (o : Oper) (C : Cl Xo) (rd : Option Nat) (nt : Nat) (tm : T AV) (ds : List Df) (h : Hp Xo) : goP o C rd nt tm ds h = stepO tabP numG ixP C rd nt o tm ds h := by
  unfold goP stepO execO
  rw [execP_eq]
  cases execK o.op tabP numG ixP tm h with
  | none => rfl
  | some r =>
    cases r with
    | val v h' =>
      simp only [stepP, finP_eq]
      rfl
    | skip h' =>
      simp only [stepP, finP_eq]
      rfl
    | call f args =>
      simp only [stepP, finP_eq]
      cases C.call f args h <;> rfl
    | dfr f a c => rfl
    | yld l args =>
      simp only [stepP, finP_eq]
      cases C.yld l args h <;> rfl
noncomputable def contP (r : R3) (k : T AV → List Df → Hp Xo → R3) : R3 := Option.casesOn (motive := fun _ => R3) r none fun q => Prod.casesOn (motive := fun _ => R3) q fun tm q => Prod.casesOn (motive := fun _ => R3) q fun ds h => k tm ds h
noncomputable def wantP (ops : List Oper) (g : Nat × Bool) (o : Oper) (C : Cl Xo) (rd : Option Nat) (nt : Nat) (tm : T AV) (ds : List Df) (h : Hp Xo) (k : T AV → List Df → Hp Xo → R3) : R3 := match wantedO ops tm (some g) with
  | none => none
  | some false => match putT tm nt o.dst (.U []) with
    | none => none
    | some tm' => k tm' ds h
  | some true => contP (goP o C rd nt tm ds h) k
noncomputable def opsP (l : List Oper) : List Oper → Cl Xo → Option Nat → Nat → T AV → List Df → Hp Xo → R3 := List.rec (motive := fun _ => List Oper → Cl Xo → Option Nat → Nat → T AV → List Df → Hp Xo → R3)
  (fun _ _ _ _ tm ds h => some (tm, ds, h))
  (fun o _ again ops C rd nt tm ds h => Option.casesOn (motive := fun _ => R3) o.guard (contP (goP o C rd nt tm ds h) (again ops C rd nt)) fun g => wantP ops g o C rd nt tm ds h (again ops C rd nt)) l
theorem contP_eq (r : R3) (k : T AV → List Df → Hp Xo → R3) : contP r k = match r with
    | none => none
    | some (tm, ds, h) => k tm ds h := by
  cases r <;> rfl
theorem opsP_eq (ops : List Oper) (C : Cl Xo) (rd : Option Nat) (nt : Nat) : ∀ (l : List Oper) (tm : T AV) (ds : List Df) (h : Hp Xo), opsP l ops C rd nt tm ds h = opsO tabP numG ixP C rd nt ops l tm ds h
  | [], _, _, _ => rfl
  | o :: l, tm, ds, h => by
    have ih := opsP_eq ops C rd nt l
    have e : opsP (o :: l) ops C rd nt tm ds h = Option.casesOn (motive := fun _ => R3) o.guard (contP (goP o C rd nt tm ds h) (opsP l ops C rd nt)) fun g => wantP ops g o C rd nt tm ds h (opsP l ops C rd nt) := rfl
    rw [e]
    unfold opsO stepW
    cases hg : o.guard with
    | none =>
      simp only [wantedO, contP_eq, goP_eq, ih]
      cases stepO tabP numG ixP C rd nt o tm ds h <;> rfl
    | some g =>
      simp only [wantP, contP_eq, goP_eq, ih]
      cases wantedO ops tm (some g) with
      | none => rfl
      | some b =>
        cases b
        · cases putT tm nt o.dst (.U []) <;> rfl
        · generalize stepO tabP numG ixP C rd nt o tm ds h = q
          cases q <;> rfl
noncomputable def nxP (r : R3) : R4 := Option.casesOn (motive := fun _ => R4) r none fun q => some (.nx, q)
noncomputable def seqP (r : R4) (k : T AV → List Df → Hp Xo → R4) : R4 := Option.casesOn (motive := fun _ => R4) r none fun q => Prod.casesOn (motive := fun _ => R4) q fun e q => Ex.casesOn (motive := fun _ => T AV × List Df × Hp Xo → (T AV → List Df → Hp Xo → R4) → R4) e
  (fun q k => Prod.casesOn (motive := fun _ => R4) q fun tm q => Prod.casesOn (motive := fun _ => R4) q fun ds h => k tm ds h)
  (fun id q _ => some (.ex id, q)) (fun q _ => some (.rt, q)) q k
noncomputable def blkP (id : Nat) (r : R4) : R4 := match r with
  | none => none
  | some (.ex j, tm, ds, h) => match Nat.beq j id with
    | true => some (.nx, tm, ds, h)
    | false => some (.ex j, tm, ds, h)
  | some r => some r
noncomputable def loopP (n : Nat) : (T AV → List Df → Hp Xo → R4) → T AV → List Df → Hp Xo → R4 := Nat.rec (motive := fun _ => (T AV → List Df → Hp Xo → R4) → T AV → List Df → Hp Xo → R4)
  (fun _ _ _ _ => none) (fun _ again body tm ds h => seqP (body tm ds h) (again body)) n
abbrev Co := Cl Xo → FuncId → Option Nat → Nat → T AV → List Df → Hp Xo → R4
noncomputable def codeP (c : Code) : Co := Code.rec (motive := fun _ => Co)
  (fun _ _ _ _ tm ds h => some (.nx, tm, ds, h))
  (fun _ ops d => Bool.casesOn (motive := fun _ => Array Oper → Co) d
    (fun ops C _ rd nt tm ds h => nxP (opsP ops.toList ops.toList C rd nt tm ds h))
    (fun ops C _ rd nt tm ds h => nxP (drawO tabP numG ixP C rd nt ops.toList tm ds h)) ops)
  (fun _ _ x y C fn rd nt tm ds h => seqP (x C fn rd nt tm ds h) (y C fn rd nt))
  (fun c _ _ x y C fn rd nt tm ds h => match opd numG tm c with
    | some (.V (.C (.B true))) => x C fn rd nt tm ds h
    | some (.V (.C (.B false))) => y C fn rd nt tm ds h
    | _ => none)
  (fun id _ x C fn rd nt tm ds h => blkP id (x C fn rd nt tm ds h))
  (fun _ x C fn rd nt tm ds h => loopP (nat_lit 100000) (x C fn rd nt) tm ds h)
  (fun f ps a b _ _ C fn rd nt tm ds h => codeO tabP numG ixP C (nat_lit 100000) fn rd nt (.rangeFunc f ps a b) tm ds h)
  (fun id _ _ _ _ tm ds h => some (.ex id, tm, ds, h))
  (fun _ x C fn rd nt tm ds h => x C fn rd nt tm ds h)
  (fun _ _ _ _ _ tm ds h => some (.nx, tm, ds, h))
  (fun _ _ _ _ _ _ _ _ => none)
  (fun _ _ _ _ tm ds h => some (.rt, tm, ds, h))
  (fun _ _ _ _ _ _ _ _ => none) c
theorem loopP_eq (body : T AV → List Df → Hp Xo → R4) : ∀ (n : Nat) (tm : T AV) (ds : List Df) (h : Hp Xo), loopP n body tm ds h = loopO body n tm ds h
  | 0, _, _, _ => rfl
  | n + 1, tm, ds, h => by
    have e : loopP (n + 1) body tm ds h = seqP (body tm ds h) (loopP n body) := rfl
    rw [e]
    unfold loopO
    cases body tm ds h with
    | none => rfl
    | some q =>
      obtain ⟨e, tm, ds, h⟩ := q
      cases e
      · exact loopP_eq body n _ _ _
      · rfl
      · rfl
theorem codeP_eq (C : Cl Xo) (fn : FuncId) (rd : Option Nat) (nt : Nat) : ∀ (c : Code) (tm : T AV) (ds : List Df) (h : Hp Xo), codeP c C fn rd nt tm ds h = codeO tabP numG ixP C (nat_lit 100000) fn rd nt c tm ds h := by
  intro c
  induction c with
  | skip => intro tm ds h; rfl
  | region id ops d =>
    intro tm ds h
    cases d
    · show nxP (opsP ops.toList ops.toList C rd nt tm ds h) = _
      rw [opsP_eq]
      conv => rhs; unfold codeO
      cases opsO tabP numG ixP C rd nt ops.toList ops.toList tm ds h <;> rfl
    · show nxP (drawO tabP numG ixP C rd nt ops.toList tm ds h) = _
      conv => rhs; unfold codeO
      cases drawO tabP numG ixP C rd nt ops.toList tm ds h <;> rfl
  | seq a b ia ib =>
    intro tm ds h
    show seqP (codeP a C fn rd nt tm ds h) (codeP b C fn rd nt) = _
    rw [ia]
    conv => rhs; unfold codeO
    cases codeO tabP numG ixP C (nat_lit 100000) fn rd nt a tm ds h with
    | none => rfl
    | some q =>
      obtain ⟨e, tm, ds, h⟩ := q
      cases e
      · exact ib _ _ _
      · rfl
      · rfl
  | cond c a b ia ib =>
    intro tm ds h
    have e : codeP (.cond c a b) C fn rd nt tm ds h = (match opd numG tm c with
      | some (.V (.C (.B true))) => codeP a C fn rd nt tm ds h
      | some (.V (.C (.B false))) => codeP b C fn rd nt tm ds h
      | _ => none) := rfl
    rw [e]
    conv => rhs; unfold codeO
    generalize opd numG tm c = q
    match q with
    | none => rfl
    | some (.V (.C (.B true))) => exact ia _ _ _
    | some (.V (.C (.B false))) => exact ib _ _ _
    | some (.V (.C (.I _ _))) | some (.V (.C (.S _))) | some (.V (.C (.P _))) | some (.V (.C (.L _ _ _))) | some (.V (.C (.M _))) | some (.V (.C .NF)) | some (.V (.C (.F _ _ _))) | some (.V (.C (.Y _))) | some (.V (.C (.X _))) => rfl
    | some (.V (.G _)) | some (.U _) | some (.N _ _) | some .Z => rfl
  | block id c ic =>
    intro tm ds h
    show blkP id (codeP c C fn rd nt tm ds h) = _
    rw [ic]
    conv => rhs; unfold codeO
    generalize codeO tabP numG ixP C (nat_lit 100000) fn rd nt c tm ds h = q
    match q with
    | none => rfl
    | some (.nx, _, _, _) => rfl
    | some (.rt, _, _, _) => rfl
    | some (.ex j, tm, ds, h) =>
      unfold blkP
      simp only
      cases Nat.beq j id <;> rfl
  | loop c ic =>
    intro tm ds h
    show loopP (nat_lit 100000) (codeP c C fn rd nt) tm ds h = _
    rw [loopP_eq, show codeP c C fn rd nt = codeO tabP numG ixP C (nat_lit 100000) fn rd nt c from funext fun tm => funext fun ds => funext fun h => ic tm ds h]
    conv => rhs; unfold codeO
  | rangeFunc f ps a b ia ib => intro tm ds h; rfl
  | exit id => intro tm ds h; rfl
  | scope c ic => intro tm ds h; exact ic tm ds h
  | label l => intro tm ds h; rfl
  | goto l => intro tm ds h; rfl
  | ret => intro tm ds h; rfl
  | refuse s => intro tm ds h; rfl

/-- What a call tells, of what its code led to. -/
noncomputable def outP (C : Cl Xo) (rs : Array ResultVar) (r : R4) : Option (AV × Hp Xo) := match r with
  | none => none
  | some (.ex _, _, _, _) => none
  | some (_, tm, ds, h) => match defersO C ds h with
    | none => none
    | some h => match resL tabP tm h rs.toList with
      | none => none
      | some [a] => some (a, h)
      | some l => match a0s l with
        | none => none
        | some r => some (.U r, h)
noncomputable def bodyP (f : FuncId) (args : List AV) (C : Cl Xo) (h : Hp Xo) (F : Func) : Option (AV × Hp Xo) := match F.body with
  | none => none
  | some c => match Nat.ble args.length F.ntmps with
    | false => none
    | true => outP C F.results (codeP c C f none F.ntmps (T.putL args (T.full (nat_lit 16)) (nat_lit 0)) [] h)
noncomputable def callP (J : Iy Xo) (C : Cl Xo) (f : FuncId) (args : List AV) (h : Hp Xo) : Option (AV × Hp Xo) := match J f with
  | some g => g args h
  | none => match tabP.fn.get f with
    | none => none
    | some F => bodyP f args C h F
theorem callP_eq (J : Iy Xo) (C : Cl Xo) (f : FuncId) (args : List AV) (h : Hp Xo) : callP J C f args h = callF tabP numG ixP J (nat_lit 100000) C f args h := by
  unfold callP callF
  cases J f with
  | some g => rfl
  | none =>
    cases tabP.fn.get f with
    | none => rfl
    | some F =>
      unfold bodyP
      simp only
      cases hb : F.body with
      | none => rfl
      | some c =>
        simp only
        cases Nat.ble args.length F.ntmps with
        | false => rfl
        | true =>
          simp only [codeP_eq]
          generalize codeO tabP numG ixP C (nat_lit 100000) f none F.ntmps c (T.putL args (T.full (nat_lit 16)) (nat_lit 0)) [] h = q
          rcases q with _ | ⟨e, tm, ds, h⟩
          · rfl
          · have key : ∀ e : Ex, (∀ id, e ≠ .ex id) → outP C F.results (some (e, tm, ds, h)) = match defersO C ds h with
              | none => none
              | some h => match resL tabP tm h F.results.toList with
                | none => none
                | some [a] => some (a, h)
                | some l => match a0s l with
                  | none => none
                  | some r => some (.U r, h) := by
              intro e he
              cases e with
              | ex id => exact (he id rfl).elim
              | nx => rfl
              | rt => rfl
            cases e with
            | ex id => rfl
            | nx =>
              rw [key .nx (fun _ e => by cases e)]
              simp only
              generalize defersO C ds h = q1
              cases q1 with
              | none => rfl
              | some h =>
                simp only
                generalize resL tabP tm h F.results.toList = q2
                cases q2 with
                | none => rfl
                | some l =>
                  rcases l with _ | ⟨a, _ | ⟨b, l⟩⟩
                  · rfl
                  · rfl
                  · simp only
                    generalize a0s (a :: b :: l) = q3
                    cases q3 <;> rfl
            | rt =>
              rw [key .rt (fun _ e => by cases e)]
              simp only
              generalize defersO C ds h = q1
              cases q1 with
              | none => rfl
              | some h =>
                simp only
                generalize resL tabP tm h F.results.toList = q2
                cases q2 with
                | none => rfl
                | some l =>
                  rcases l with _ | ⟨a, _ | ⟨b, l⟩⟩
                  · rfl
                  · rfl
                  · simp only
                    generalize a0s (a :: b :: l) = q3
                    cases q3 <;> rfl
end Ev
end Go.Proofs.YtlkgdpdnhnakoaaGreatDoor
