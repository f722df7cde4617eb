/- GEa: EvRn, EvSy, EvAr. -/
import Derived.Test.YtlkgdpdnhnakoaaGreatDoorEvFa
namespace Go.Proofs.YtlkgdpdnhnakoaaGreatDoor
namespace Ev
noncomputable def ranOk (r : Option (AV × Hp Xo)) : Bool := match r with
  | some (.V (.C (.B true)), h) => match h.t.get tabG with
    | some (.x .tab) => true
    | _ => false
  | _ => false
theorem noGo : Tryz.prog.funcs.toList.all (fun F => !(F.name == "runtime.NumGoroutine")) = true := by kernel_rfl
end Ev
end Go.Proofs.YtlkgdpdnhnakoaaGreatDoor
namespace Go.Proofs.YtlkgdpdnhnakoaaGreatDoor
theorem Ev.Sim.same {X : Type} {E : Ev.Xs X} {G : Nat} {V : Ev.Vn} {h : Ev.Hp X} {w w' : World} (s : Ev.Sim E G V h w) (k : Same w w') : Ev.Sim E G V h w' ∧ Ev.Ext E V h w V h w' :=
  ⟨⟨s.new, s.glob, fun b ob g => let ⟨p, q1, q2⟩ := s.ob b ob g; ⟨p, q1, q2.keep (.refl V) (fun j hj => k.block j (q2.lt j hj) (fun h => h)) k.size⟩, s.apart⟩,
    ⟨.refl V, k.size, Nat.le_refl _, fun j hj hn => ⟨k.block j hj (fun h => h), hn⟩, fun _ _ => rfl, ⟨k.os, k.tape, k.output⟩⟩⟩
namespace Ev
/-! ### Values as numbers -/
def znum (n : Int) : Nat := if 0 ≤ n then 2 * n.toNat else 2 * (-n - 1).toNat + 1
theorem unz_enc (n : Int) : unzN (znum n) = n := by
  unfold unzN znum
  split <;> split <;> omega
def lnum : List UInt8 → Nat
  | [] => 0
  | b :: l => (lnum l + 1) * 256 + b.toNat
theorem bytes_enc : ∀ l : List UInt8, bytesN l.length (lnum l) = l
  | [] => rfl
  | b :: l => by
    have hb : b.toNat < 256 := b.toNat_lt
    show (if lnum (b :: l) = 0 then [] else UInt8.ofNat (lnum (b :: l) % 256) :: bytesN l.length (lnum (b :: l) / 256 - 1)) = b :: l
    have e : lnum (b :: l) = (lnum l + 1) * 256 + b.toNat := rfl
    rw [if_neg (by omega), show lnum (b :: l) % 256 = b.toNat by omega, show lnum (b :: l) / 256 - 1 = lnum l by omega, bytes_enc l]
    simp
theorem sym_int (n : Int) : symV 0 (znum n) = .int .i64 n := by unfold symV; simp only [unz_enc]
theorem sym_str (l : List UInt8) : symV (l.length + 3) (lnum l) = .string ⟨l.toArray⟩ := by unfold symV; simp only [bytes_enc]
/-! ### Facts -/
/-- An unknown number's comparison with a known one. -/
structure Fa where
  op : BinOp
  i : Nat
  n : Int
  r : Bool
noncomputable def symAt (h : Hp Xo) (b : Nat) : Option Nat := match h.t.get b with
  | some (.x (.sym i)) => some i
  | _ => none
/-- Which unknown number is which unknown text's length. -/
noncomputable def lenF (l : List (Nat × Nat)) (b : Builtin) (ts : List TypeId) (args : List AV) (h : Hp Xo) : Option AV := match b, ts, args with
  | .len, t :: _, [.V (.C (.X b))] => match symAt h b, (tabOf Tryz.prog).und t with
    | some i, some .string => match l.find? (fun q => Nat.beq q.1 i) with
      | some q => match symAt h (Nat.add numG q.2) with
        | some j => match Nat.beq j q.2 with
          | true => some (.V (.C (.X (Nat.add numG q.2))))
          | false => none
        | none => none
      | none => none
    | _, _ => none
  | _, _, _ => none
def Fa.Ok (vals : Nat → Nat × Nat) (f : Fa) : Prop := (vals f.i).1 = 0 ∧ intOp f.op .i64 (unzN (vals f.i).2) f.n = some (.B f.r) ∧ f.op ≠ .shl ∧ f.op ≠ .shr
def LenOk (vals : Nat → Nat × Nat) (q : Nat × Nat) : Prop := ∃ s : List UInt8, vals q.1 = (s.length + 3, lnum s) ∧ vals q.2 = (0, znum s.length)
theorem symAt_val {ob : Obj} {vals : Nat → Nat × Nat} {ks : List (Nat × Obj)} {V : Vn} {h : Hp Xo} {w : World} (s : Sim (varX tabG ob vals ks) numG V h w) {b i : Nat} (hx : symAt h b = some i) {v : Value} (hv : (Ce.X b).rel V v) : v = symV (vals i).1 (vals i).2 := by
  unfold symAt at hx
  split at hx
  · injection hx with hx; subst hx
    exact sym_val s (by assumption) hv
  · cases hx
theorem symAt_rel {ob : Obj} {vals : Nat → Nat × Nat} {ks : List (Nat × Obj)} {V : Vn} {h : Hp Xo} {w : World} (s : Sim (varX tabG ob vals ks) numG V h w) {b i : Nat} (hx : symAt h b = some i) : (Ce.X b).rel V (symV (vals i).1 (vals i).2) := by
  unfold symAt at hx
  split at hx
  · rename_i j hj
    injection hx with hx; subst hx
    obtain ⟨p, hp, q1, q2⟩ := s.ob _ _ hj
    exact ⟨p, hp, by rw [q1, q2]⟩
  · cases hx
theorem lenF_ok {ob : Obj} {vals : Nat → Nat × Nat} {ks : List (Nat × Obj)} {l : List (Nat × Nat)} (hl : ∀ q ∈ l, LenOk vals q) : BiOk ob vals ks (lenF l) := by
  intro b ts args z h q V w xs s hr ty cs
  unfold lenF at q
  split at q
  case h_2 => cases q
  rename_i t ts bb
  split at q
  case h_2 => cases q
  rename_i i hi ht
  split at q
  case h_2 => cases q
  rename_i qq hq
  split at q
  case h_2 => cases q
  rename_i j hj
  split at q
  case h_2 => cases q
  rename_i hjq
  injection q with q; subst q
  obtain rfl := Nat.eq_of_beq_eq_true hjq
  have hmem := List.mem_of_find?_eq_some hq
  have hqi : qq.1 = i := by have := List.find?_some hq; exact Nat.eq_of_beq_eq_true this
  obtain ⟨st, v1, v2⟩ := hl qq hmem
  match xs, hr with
  | [v], hr =>
    have e1 : v = .string ⟨st.toArray⟩ := by
      rw [symAt_val s hi hr.1, ← hqi, v1]; exact sym_str st
    subst e1
    have hz := symAt_rel s hj
    rw [v2, sym_int] at hz
    refine ⟨Builtin.len_ (t :: ts).toArray ty #[.string ⟨st.toArray⟩], _, rfl, ?_, hz⟩
    unfold Builtin.len_
    simp only [List.getElem?_toArray, List.getElem?_cons_zero]
    have hu : Tryz.prog.underlying t = some .string := (tab_ok noGo).und ht
    rw [run_und hu]
    show Result.ok _ w = _
    congr 1
end Ev
end Go.Proofs.YtlkgdpdnhnakoaaGreatDoor
namespace Go.Proofs.YtlkgdpdnhnakoaaGreatDoor
namespace Ev
/-- What an operation of an unknown number and a known one tells: a truth, a number, or an unknown number. -/
structure Fq where
  op : BinOp
  k : IntKind
  left : Bool
  i : Nat
  n : Int
  r : Ce
noncomputable def lookQ (op : BinOp) (k : IntKind) (lf : Bool) (i : Nat) (n : Int) : List Fq → Option Ce
  | [] => none
  | f :: l => match decide (f.op = op), decide (f.k = k), decide (f.left = lf), Nat.beq f.i i, decide (f.n = n) with
    | true, true, true, true, true => some f.r
    | _, _, _, _, _ => lookQ op k lf i n l
noncomputable def resQ (r : Ce) (h : Hp Xo) : Option AV := match r with
  | .X b => match symAt h b with
    | some j => match Nat.beq b (Nat.add numG j) with
      | true => some (.V (.C (.X b)))
      | false => none
    | none => none
  | .B c => some (.V (.C (.B c)))
  | .I k n => some (.V (.C (.I k n)))
  | _ => none
noncomputable def factQ (l : List Fq) (op : BinOp) (_ : TypeId) (x y : AV) (h : Hp Xo) : Option AV := match x, y with
  | .V (.C (.X b)), .V (.C (.I k n)) => match symAt h b with
    | some i => match lookQ op k true i n l with
      | some r => resQ r h
      | none => none
    | none => none
  | .V (.C (.I k n)), .V (.C (.X b)) => match symAt h b with
    | some i => match lookQ op k false i n l with
      | some r => resQ r h
      | none => none
    | none => none
  | _, _ => none
/-- An unknown one's number. -/
def numAt (vals : Nat → Nat × Nat) (i : Nat) (k : IntKind) (m : Int) : Prop := symV (vals i).1 (vals i).2 = .int k m
def resOk (vals : Nat → Nat × Nat) (k : IntKind) (c : Ce) : Ce → Prop
  | .X b => ∃ j m, b = numG + j ∧ c = .I k m ∧ numAt vals j k m
  | r => r = c
def Fq.Ok (vals : Nat → Nat × Nat) (f : Fq) : Prop := ∃ v c, numAt vals f.i f.k v ∧ (match f.left with | true => intOp f.op f.k v f.n | false => intOp f.op f.k f.n v) = some c ∧ resOk vals f.k c f.r ∧ f.op ≠ .shl ∧ f.op ≠ .shr
theorem lookQ_at {op : BinOp} {k : IntKind} {lf : Bool} {i : Nat} {n : Int} {r : Ce} : ∀ {l : List Fq}, lookQ op k lf i n l = some r → ∃ f ∈ l, f = ⟨op, k, lf, i, n, r⟩
  | [], h => by cases h
  | f :: l, h => by
    unfold lookQ at h
    split at h
    · rename_i h1 h2 h3 h4 h5
      have h1 := of_decide_eq_true h1
      have h2 := of_decide_eq_true h2
      have h3 := of_decide_eq_true h3
      have h4 := Nat.eq_of_beq_eq_true h4
      have h5 := of_decide_eq_true h5
      injection h with h
      refine ⟨f, List.mem_cons_self .., ?_⟩
      cases f
      simp only at h1 h2 h3 h4 h5 h
      subst h1 h2 h3 h4 h5 h
      rfl
    · obtain ⟨g, hg, e⟩ := lookQ_at h
      exact ⟨g, List.mem_cons_of_mem _ hg, e⟩
theorem resQ_ok {ob : Obj} {vals : Nat → Nat × Nat} {ks : List (Nat × Obj)} {V : Vn} {h : Hp Xo} {w : World} (s : Sim (varX tabG ob vals ks) numG V h w) {k : IntKind} {c r : Ce} {z : AV} (q : resQ r h = some z) (hr : resOk vals k c r) {m : Value} (hm : ∀ V, c.rel V m) : z.rel V m := by
  cases r with
  | X b =>
    unfold resQ at q
    simp only at q
    split at q
    case h_2 => cases q
    rename_i j hj
    split at q
    case h_2 => cases q
    rename_i hb
    injection q with q; subst q
    have hb := Nat.eq_of_beq_eq_true hb
    obtain ⟨j', m', e1, e2, e3⟩ := hr
    have : j = j' := by
      have hb : b = numG + j := hb
      omega
    subst this
    subst e2
    have hm' : m = .int k m' := hm V
    subst hm'
    have := symAt_rel s hj
    unfold numAt at e3
    rw [e3] at this
    exact this
  | B x => injection q with q; subst q; have : Ce.B x = c := hr; subst this; exact hm V
  | I x y => injection q with q; subst q; have : Ce.I x y = c := hr; subst this; exact hm V
  | _ => cases q
theorem factQ_ok {ob : Obj} {vals : Nat → Nat × Nat} {ks : List (Nat × Obj)} {l : List Fq} (hl : ∀ f ∈ l, f.Ok vals) : BinOk ob vals ks (factQ l) := by
  intro op t x y z h q V w u v s hu hv a b
  unfold factQ at q
  split at q
  case h_3 => cases q
  case h_1 =>
    rename_i bb k n
    split at q
    case h_2 => cases q
    rename_i i hi
    split at q
    case h_2 => cases q
    rename_i r hr
    obtain ⟨f, hf, rfl⟩ := lookQ_at hr
    obtain ⟨m0, c, e1, e2, e3, e4, e5⟩ := hl _ hf
    unfold numAt at e1
    have u1 : u = .int k m0 := (symAt_val s hi hu).trans e1
    have v1 : v = .int k n := hv
    subst u1; subst v1
    obtain ⟨m, r1, r2⟩ := intOp_run (P := Tryz.prog) e2 t w
    exact ⟨m, run_eqGuard op t a b (fun _ e => by cases e) (fun e => by cases e) w, r1, resQ_ok s q e3 r2⟩
  case h_2 =>
    rename_i k n bb
    split at q
    case h_2 => cases q
    rename_i i hi
    split at q
    case h_2 => cases q
    rename_i r hr
    obtain ⟨f, hf, rfl⟩ := lookQ_at hr
    obtain ⟨m0, c, e1, e2, e3, e4, e5⟩ := hl _ hf
    unfold numAt at e1
    have u1 : u = .int k n := hu
    have v1 : v = .int k m0 := (symAt_val s hi hv).trans e1
    subst u1; subst v1
    obtain ⟨m, r1, r2⟩ := intOp_run (P := Tryz.prog) e2 t w
    exact ⟨m, run_eqGuard op t a b (fun _ e => by cases e) (fun e => by cases e) w, r1, resQ_ok s q e3 r2⟩
/-- The least, or the greatest, of a known number and an unknown one: an unknown one. -/
structure Fm where
  n : Int
  i : Nat
  j : Nat
noncomputable def lookM (n : Int) (i : Nat) : List Fm → Option Nat
  | [] => none
  | f :: l => match decide (f.n = n), Nat.beq f.i i with
    | true, true => some f.j
    | _, _ => lookM n i l
theorem lookM_at {n : Int} {i j : Nat} : ∀ {l : List Fm}, lookM n i l = some j → (⟨n, i, j⟩ : Fm) ∈ l
  | [], h => by cases h
  | f :: l, h => by
    unfold lookM at h
    split at h
    · rename_i h1 h2
      have h1 := of_decide_eq_true h1
      have h2 := Nat.eq_of_beq_eq_true h2
      injection h with h
      cases f
      simp only at h1 h2 h
      subst h1 h2 h
      exact List.mem_cons_self ..
    · exact List.mem_cons_of_mem _ (lookM_at h)
noncomputable def extF (l : List Fm) (args : List AV) (h : Hp Xo) : Option AV := match args with
  | [.V (.C (.I .i64 n)), .V (.C (.X b))] => match symAt h b with
    | some i => match lookM n i l with
      | some j => match symAt h (Nat.add numG j) with
        | some j' => match Nat.beq j' j with
          | true => some (.V (.C (.X (Nat.add numG j))))
          | false => none
        | none => none
      | none => none
    | none => none
  | _ => none
noncomputable def biQ (lens : List (Nat × Nat)) (mn mx : List Fm) (b : Builtin) (ts : List TypeId) (args : List AV) (h : Hp Xo) : Option AV := match b with
  | .min => extF mn args h
  | .max => extF mx args h
  | .len => lenF lens .len ts args h
  | _ => none
theorem extF_at {ob : Obj} {vals : Nat → Nat × Nat} {ks : List (Nat × Obj)} {l : List Fm} {args : List AV} {h : Hp Xo} {z : AV} (q : extF l args h = some z) {V : Vn} {w : World} {xs : List Value} (s : Sim (varX tabG ob vals ks) numG V h w) (hr : All2 (AV.rel V) args xs) :
    ∃ f ∈ l, xs = [.int .i64 f.n, symV (vals f.i).1 (vals f.i).2] ∧ z.rel V (symV (vals f.j).1 (vals f.j).2) := by
  unfold extF at q
  split at q
  case h_2 => cases q
  rename_i n b
  split at q
  case h_2 => cases q
  rename_i i hi
  split at q
  case h_2 => cases q
  rename_i j hj
  split at q
  case h_2 => cases q
  rename_i j' hj'
  split at q
  case h_2 => cases q
  rename_i hb
  injection q with q; subst q
  obtain rfl := Nat.eq_of_beq_eq_true hb
  refine ⟨_, lookM_at hj, ?_, symAt_rel s hj'⟩
  match xs, hr with
  | [u, v], hr =>
    have h1 : u = .int .i64 n := hr.1
    rw [h1, symAt_val s hi hr.2.1]
def MinOk (vals : Nat → Nat × Nat) (f : Fm) : Prop := ∃ m, numAt vals f.i .i64 m ∧ numAt vals f.j .i64 (if m < f.n then m else f.n)
def MaxOk (vals : Nat → Nat × Nat) (f : Fm) : Prop := ∃ m, numAt vals f.i .i64 m ∧ numAt vals f.j .i64 (if f.n < m then m else f.n)
theorem biQ_ok {ob : Obj} {vals : Nat → Nat × Nat} {ks : List (Nat × Obj)} {lens : List (Nat × Nat)} {mn mx : List Fm} (hl : ∀ q ∈ lens, LenOk vals q) (h1 : ∀ f ∈ mn, MinOk vals f) (h2 : ∀ f ∈ mx, MaxOk vals f) : BiOk ob vals ks (biQ lens mn mx) := by
  intro b ts args z h q V w xs s hr ty cs
  cases b with
  | len => exact lenF_ok hl (show lenF lens .len ts args h = some z from q) s hr ty cs
  | min =>
    obtain ⟨f, hf, rfl, hz⟩ := extF_at (show extF mn args h = some z from q) s hr
    obtain ⟨m, e1, e2⟩ := h1 f hf
    unfold numAt at e1 e2
    rw [e1]
    rw [e2] at hz
    refine ⟨Builtin.min_ ts.toArray ty #[.int .i64 f.n, .int .i64 m], .int .i64 (if m < f.n then m else f.n), rfl, ?_, hz⟩
    refine min_run (V := V) (P := Tryz.prog) (k := .i64) (l := [.V (.C (.I .i64 m))]) (vs := [.int .i64 m]) w ?_ ⟨rfl, trivial⟩
    unfold minI minI
    by_cases hh : m < f.n
    · simp [hh]
    · simp [hh]
  | max =>
    obtain ⟨f, hf, rfl, hz⟩ := extF_at (show extF mx args h = some z from q) s hr
    obtain ⟨m, e1, e2⟩ := h2 f hf
    unfold numAt at e1 e2
    rw [e1]
    rw [e2] at hz
    refine ⟨Builtin.max_ ts.toArray ty #[.int .i64 f.n, .int .i64 m], .int .i64 (if f.n < m then m else f.n), rfl, ?_, hz⟩
    refine max_run (V := V) (P := Tryz.prog) (k := .i64) (l := [.V (.C (.I .i64 m))]) (vs := [.int .i64 m]) w ?_ ⟨rfl, trivial⟩
    unfold maxI maxI
    by_cases hh : f.n < m
    · simp [hh]
    · simp [hh]
  | _ => cases (show none = some z from q)
/-! ### Laws of one's own that know the values -/
def YOkV (vals : Nat → Nat × Nat) (f : FuncId) (g : List AV → Hp Xo → Option (AV × Hp Xo)) : Prop := ∀ {ob : Obj}, (∀ w : World, w.heap[tabG]? = some ob → TabOK w) → ∀ {args : List AV} {h h' : Hp Xo} {z : AV}, g args h = some (z, h') → ∀ {V : Vn} {w : World} {xs : List Value}, Sim (varX tabG ob vals []) numG V h w → All2 (AV.rel V) args xs →
  Calls Tryz.prog f xs.toArray w (fun e w' => ∃ u, e = .returned u ∧ Post (varX tabG ob vals []) numG V h w z h' u w')
structure EnyF where
  f : FuncId
  g : List AV → Hp Xo → Option (AV × Hp Xo)
noncomputable def findV (f : FuncId) : List EnyF → Option (List AV → Hp Xo → Option (AV × Hp Xo))
  | [] => none
  | e :: l => match Nat.beq f e.f with
    | true => some e.g
    | false => findV f l
theorem findV_at {vals : Nat → Nat × Nat} {f : FuncId} {g : List AV → Hp Xo → Option (AV × Hp Xo)} : ∀ {l : List EnyF}, (∀ e ∈ l, YOkV vals e.f e.g) → findV f l = some g → YOkV vals f g
  | [], _, h => by cases h
  | x :: l, hl, h => by
    unfold findV at h
    split at h
    · rename_i q; cases h; obtain rfl : f = x.f := Nat.eq_of_beq_eq_true q; exact hl x (List.mem_cons_self ..)
    · exact findV_at (fun e he => hl e (List.mem_cons_of_mem _ he)) h
noncomputable def iyV (l : List EnyF) (f : FuncId) : Option (List AV → Hp Xo → Option (AV × Hp Xo)) := match findV f l with
  | some g => some g
  | none => findY f iyL
theorem iyV_ok {vals : Nat → Nat × Nat} {ob : Obj} (hT : ∀ w : World, w.heap[tabG]? = some ob → TabOK w) {l : List EnyF} (hl : ∀ e ∈ l, YOkV vals e.f e.g) : IyOk (varX tabG ob vals []) numG (tabOf Tryz.prog) (iyV l) := by
  intro f g args h h' z hj q V w xs s hr
  unfold iyV at hj
  split at hj
  · rename_i g' hg
    injection hj with hj; subst hj
    exact findV_at hl hg hT q s hr
  · exact findY_at hj hT q s hr
/-- A run with values that are not known ahead. -/
theorem runG {n k : Nat} {f : FuncId} {args : List AV} {l : List Fq} {lens : List (Nat × Nat)} {mn mx : List Fm} {ent : List EnyF} {z : AV} {h : Hp Xo} (hq : (clO (tabOf Tryz.prog) numG (ixF (factQ l) (biQ lens mn mx)) (iyV ent) izP (nat_lit 100000) n).call f args (h0 numG tabG k) = some (z, h)) (hx : h.t.get tabG = some (.x .tab))
    {vals : Nat → Nat × Nat} (hl : ∀ f ∈ l, f.Ok vals) (hs : ∀ q ∈ lens, LenOk vals q) (hn : ∀ f ∈ mn, MinOk vals f) (hm : ∀ f ∈ mx, MaxOk vals f) (he : ∀ e ∈ ent, YOkV vals e.f e.g) (w : World) (hT : TabOK w) {xs : List Value} (hr : All2 (AV.rel (V0 numG k vals)) args xs) :
    Calls Tryz.prog f xs.toArray w fun e w' => ∃ u V, e = .returned u ∧ z.rel V u ∧ Same w w' := by
  obtain ⟨ob, hob⟩ : ∃ ob, w.heap[tabG]? = some ob := by
    have := hT 0 (by decide)
    unfold World.cell? at this
    cases h : w.heap[tabG]? with
    | none => rw [show w.heap[(⟨1, 0, none⟩ : Addr).block]? = w.heap[tabG]? from rfl, h] at this; cases this
    | some o => exact ⟨o, rfl⟩
  have hT' : ∀ w' : World, w'.heap[tabG]? = some ob → TabOK w' := fun w' hw' i hi => by
    have := hT i hi
    rw [← this]
    simp only [World.cell?, show w'.heap[1]? = w.heap[1]? from hw'.trans hob.symm]
  have hA := tab_ok noGo
  have hI := ixF_ok (factQ_ok (ob := ob) (ks := []) hl) (biQ_ok (ob := ob) (ks := []) hs hn hm)
  have s := sim0 (G := numG) (g := tabG) (k := k) (vals := vals) (ks := []) (by decide +kernel) hob (by simp)
  have ok := clO_ok (N := nat_lit 100000) hA hI (iyV_ok hT' he) izP_ok (fun C hC => drawO_ok hA hI hC (by kernel_rfl)) n
  refine (ok.call hq s hr).mono ?_
  rintro e w' ⟨u, rfl, V, hz, s', x'⟩
  exact ⟨u, V, rfl, hz, same0 (by decide +kernel) hob (by simp) s' x' hx⟩
/-- A run with values that are not known ahead, that tells true. -/
theorem runQ {n k : Nat} {f : FuncId} {args : List AV} {l : List Fq} {lens : List (Nat × Nat)} {mn mx : List Fm} {ent : List EnyF} (q : ranOk ((clO (tabOf Tryz.prog) numG (ixF (factQ l) (biQ lens mn mx)) (iyV ent) izP (nat_lit 100000) n).call f args (h0 numG tabG k)) = true)
    {vals : Nat → Nat × Nat} (hl : ∀ f ∈ l, f.Ok vals) (hs : ∀ q ∈ lens, LenOk vals q) (hn : ∀ f ∈ mn, MinOk vals f) (hm : ∀ f ∈ mx, MaxOk vals f) (he : ∀ e ∈ ent, YOkV vals e.f e.g) (w : World) (hT : TabOK w) {xs : List Value} (hr : All2 (AV.rel (V0 numG k vals)) args xs) :
    Calls Tryz.prog f xs.toArray w fun e w' => e = .returned (.bool true) ∧ Same w w' := by
  unfold ranOk at q
  split at q
  case h_2 => cases q
  rename_i h hq
  split at q
  case h_2 => cases q
  rename_i hx
  refine (runG hq hx hl hs hn hm he w hT hr).mono ?_
  rintro e w' ⟨u, V, rfl, hz, k'⟩
  have hz : u = .bool true := hz
  subst hz
  exact ⟨rfl, k'⟩
noncomputable def symIs (h : Hp Xo) (b i : Nat) : Bool := match symAt h b with
  | some j => Nat.beq j i
  | none => false
theorem symIs_at {h : Hp Xo} {b i : Nat} (q : symIs h b i = true) : symAt h b = some i := by
  unfold symIs at q
  split at q
  · rename_i j hj; rw [hj, Nat.eq_of_beq_eq_true q]
  · cases q
/-! ### Facts of arithmetic -/
theorem num_of {vals : Nat → Nat × Nat} {i : Nat} {m : Int} (h : vals i = (0, znum m)) : numAt vals i .i64 m := by
  unfold numAt; rw [h]; exact sym_int m
theorem fq_lss {vals : Nat → Nat × Nat} {i : Nat} {n m : Int} {r : Bool} (h : numAt vals i .i64 m) (hr : decide (m < n) = r) : (⟨.lss, .i64, true, i, n, .B r⟩ : Fq).Ok vals := by
  subst hr
  exact ⟨m, .B (decide (m < n)), h, by simp only [intOp]; generalize decide (m < n) = q; cases q <;> rfl, rfl, by simp, by simp⟩
theorem fq_gtr {vals : Nat → Nat × Nat} {i : Nat} {n m : Int} {r : Bool} (h : numAt vals i .i64 m) (hr : decide (n < m) = r) : (⟨.gtr, .i64, true, i, n, .B r⟩ : Fq).Ok vals := by
  subst hr
  exact ⟨m, .B (decide (n < m)), h, by simp only [intOp]; generalize decide (n < m) = q; cases q <;> rfl, rfl, by simp, by simp⟩
theorem fq_leq {vals : Nat → Nat × Nat} {i : Nat} {n m : Int} {r : Bool} (h : numAt vals i .i64 m) (hr : decide (m ≤ n) = r) : (⟨.leq, .i64, true, i, n, .B r⟩ : Fq).Ok vals := by
  subst hr
  exact ⟨m, .B (decide (m ≤ n)), h, by simp only [intOp]; generalize decide (m ≤ n) = q; cases q <;> rfl, rfl, by simp, by simp⟩
theorem fq_geq {vals : Nat → Nat × Nat} {i : Nat} {n m : Int} {r : Bool} (h : numAt vals i .i64 m) (hr : decide (n ≤ m) = r) : (⟨.geq, .i64, true, i, n, .B r⟩ : Fq).Ok vals := by
  subst hr
  exact ⟨m, .B (decide (n ≤ m)), h, by simp only [intOp]; generalize decide (n ≤ m) = q; cases q <;> rfl, rfl, by simp, by simp⟩
end Ev
end Go.Proofs.YtlkgdpdnhnakoaaGreatDoor
