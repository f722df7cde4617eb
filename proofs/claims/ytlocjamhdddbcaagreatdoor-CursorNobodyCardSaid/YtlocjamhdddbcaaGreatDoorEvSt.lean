/- EvSt: facts of texts that are not known ahead. -/
import Derived.Test.YtlocjamhdddbcaaGreatDoorEvAr
namespace Go.Proofs.YtlocjamhdddbcaaGreatDoor
namespace Ev

/-- What an unknown text with an end is: an unknown text. -/
structure Fs where
  i : Nat
  suf : List UInt8
  j : Nat
def Fs.Ok (vals : Nat → Nat × Nat) (f : Fs) : Prop := ∃ l : List UInt8, symV (vals f.i).1 (vals f.i).2 = .string ⟨l.toArray⟩ ∧ symV (vals f.j).1 (vals f.j).2 = .string ⟨(l ++ f.suf).toArray⟩ ∧ l.length + f.suf.length ≤ 1000000
noncomputable def lookS (i : Nat) (s : List UInt8) : List Fs → Option Nat
  | [] => none
  | f :: l => match Nat.beq f.i i, decide (f.suf = s) with
    | true, true => some f.j
    | _, _ => lookS i s l
theorem lookS_at {i j : Nat} {s : List UInt8} : ∀ {l : List Fs}, lookS i s l = some j → (⟨i, s, j⟩ : Fs) ∈ l
  | [], h => by cases h
  | f :: l, h => by
    unfold lookS at h
    split at h
    · rename_i h1 h2
      have h1 := Nat.eq_of_beq_eq_true h1
      have h2 := of_decide_eq_true h2
      injection h with h
      cases f
      simp only at h1 h2 h
      subst h1 h2 h
      exact List.mem_cons_self ..
    · exact List.mem_cons_of_mem _ (lookS_at h)
noncomputable def isS (j : Nat) : List Fs → Bool
  | [] => false
  | f :: l => match Nat.beq f.j j with
    | true => true
    | false => isS j l
theorem isS_at {j : Nat} : ∀ {l : List Fs}, isS j l = true → ∃ f ∈ l, f.j = j
  | [], h => by cases h
  | f :: l, h => by
    unfold isS at h
    split at h
    · rename_i h1
      exact ⟨f, List.mem_cons_self .., Nat.eq_of_beq_eq_true h1⟩
    · obtain ⟨g, hg, e⟩ := isS_at h
      exact ⟨g, List.mem_cons_of_mem _ hg, e⟩
noncomputable def factT (ss : List Fs) (op : BinOp) (x y : AV) (h : Hp Xo) : Option AV := match op, x, y with
  | .add, .V (.C (.X b)), .V (.C (.S s)) => match symAt h b with
    | some i => match lookS i s ss with
      | some j => match symIs h (Nat.add numG j) j with
        | true => some (.V (.C (.X (Nat.add numG j))))
        | false => none
      | none => none
    | none => none
  | .eql, .V (.C (.X b)), .V (.C (.X c)) => match symAt h b with
    | some i => match symIs h c i, isS i ss with
      | true, true => some (.V (.C (.B true)))
      | _, _ => none
    | none => none
  | _, _, _ => none
noncomputable def factP (l : List Fq) (ss : List Fs) (op : BinOp) (t : TypeId) (x y : AV) (h : Hp Xo) : Option AV := match factQ l op t x y h with
  | some z => some z
  | none => factT ss op x y h
theorem factT_ok {ob : Obj} {vals : Nat → Nat × Nat} {ks : List (Nat × Obj)} {ss : List Fs} (hs : ∀ f ∈ ss, f.Ok vals) {op : BinOp} (t : TypeId) {x y z : AV} {h : Hp Xo} (q : factT ss op x y h = some z) {V : Vn} {w : World} {u v : Value} (s : Sim (varX tabG ob vals ks) numG V h w) (hu : x.rel V u) (hv : y.rel V v) (a b : Operand) :
    ∃ m, (eqGuard op t a b u v).run Tryz.prog w = .ok () w ∧ (binOp op t u v).run Tryz.prog w = .ok m w ∧ z.rel V m := by
  unfold factT at q
  split at q
  case h_3 => cases q
  case h_1 =>
    rename_i bb suf
    split at q
    case h_2 => cases q
    rename_i i hi
    split at q
    case h_2 => cases q
    rename_i j hj
    split at q
    case h_2 => cases q
    rename_i hjj
    injection q with q; subst q
    obtain ⟨l, e1, e2, e3⟩ := hs _ (lookS_at hj)
    have u1 : u = .string ⟨l.toArray⟩ := (symAt_val s hi hu).trans e1
    have v1 : v = .string ⟨suf.toArray⟩ := hv
    subst u1; subst v1
    obtain ⟨m, r1, r2⟩ := strOp_run (P := Tryz.prog) (op := .add) (a := l) (b := suf) (c := .S (l ++ suf)) (by unfold strOp; rw [Nat.ble_eq_true_of_le e3]) t w
    refine ⟨m, run_eqGuard .add t a b (fun _ e => by cases e) (fun e => by cases e) w, r1, ?_⟩
    have hm : m = .string ⟨(l ++ suf).toArray⟩ := r2 V
    subst hm
    have := symAt_rel s (symIs_at hjj)
    rw [e2] at this
    exact this
  case h_2 =>
    rename_i bb cc
    split at q
    case h_2 => cases q
    rename_i i hi
    split at q
    case h_2 => cases q
    rename_i hc hj
    injection q with q; subst q
    obtain ⟨f, hf, e⟩ := isS_at hj
    obtain ⟨l, _, e2, _⟩ := hs f hf
    rw [e] at e2
    have u1 : u = .string ⟨(l ++ f.suf).toArray⟩ := (symAt_val s hi hu).trans e2
    have v1 : v = .string ⟨(l ++ f.suf).toArray⟩ := (symAt_val s (symIs_at hc) hv).trans e2
    subst u1; subst v1
    obtain ⟨m, r1, r2⟩ := strOp_run (P := Tryz.prog) (op := .eql) (a := l ++ f.suf) (b := l ++ f.suf) (c := .B true) (by unfold strOp; rw [beq_self_eq_true]; rfl) t w
    refine ⟨m, run_eqGuard .eql t a b (fun _ e => by cases e) (fun e => by cases e) w, r1, r2 V⟩
theorem factP_ok {ob : Obj} {vals : Nat → Nat × Nat} {ks : List (Nat × Obj)} {l : List Fq} {ss : List Fs} (hl : ∀ f ∈ l, f.Ok vals) (hs : ∀ f ∈ ss, f.Ok vals) : BinOk ob vals ks (factP l ss) := by
  intro op t x y z h q V w u v s hu hv a b
  unfold factP at q
  split at q
  case h_1 z' hz => injection q with q; subst q; exact factQ_ok hl hz s hu hv a b
  case h_2 => exact factT_ok hs t q s hu hv a b
/-- A run with values that are not known ahead, texts too, that tells true. -/
theorem runT {n k : Nat} {f : FuncId} {args : List AV} {l : List Fq} {ss : List Fs} {lens : List (Nat × Nat)} {mn mx : List Fm} {ent : List EnyF} (q : ranOk ((clO (tabOf Tryz.prog) numG (ixF (factP l ss) (biQ lens mn mx)) (iyV ent) izP (nat_lit 100000) n).call f args (h0 numG tabG k)) = true)
    {vals : Nat → Nat × Nat} (hl : ∀ f ∈ l, f.Ok vals) (hss : ∀ f ∈ ss, f.Ok vals) (hs : ∀ q ∈ lens, LenOk vals q) (hn : ∀ f ∈ mn, MinOk vals f) (hm : ∀ f ∈ mx, MaxOk vals f) (he : ∀ e ∈ ent, YOkV vals e.f e.g) (w : World) (hT : TabOK w) {xs : List Value} (hr : All2 (AV.rel (V0 numG k vals)) args xs) :
    Calls Tryz.prog f xs.toArray w fun e w' => e = .returned (.bool true) ∧ Same w w' := by
  unfold ranOk at q
  split at q
  case h_2 => cases q
  rename_i h hq
  split at q
  case h_2 => cases q
  rename_i hx
  obtain ⟨ob, hob⟩ : ∃ ob, w.heap[tabG]? = some ob := by
    have := hT 0 (by decide)
    unfold World.cell? at this
    cases h : w.heap[tabG]? with
    | none => rw [show w.heap[(⟨1, 0, none⟩ : Addr).block]? = w.heap[tabG]? from rfl, h] at this; cases this
    | some o => exact ⟨o, rfl⟩
  have hT' : ∀ w' : World, w'.heap[tabG]? = some ob → TabOK w' := fun w' hw' i hi => by
    have := hT i hi
    rw [← this]
    simp only [World.cell?, show w'.heap[1]? = w.heap[1]? from hw'.trans hob.symm]
  have hA := tab_ok noGo
  have hI := ixF_ok (factP_ok (ob := ob) (ks := []) hl hss) (biQ_ok (ob := ob) (ks := []) hs hn hm)
  have s := sim0 (G := numG) (g := tabG) (k := k) (vals := vals) (ks := []) (by decide +kernel) hob (by simp)
  have ok := clO_ok (N := nat_lit 100000) hA hI (iyV_ok hT' he) izP_ok (fun C hC => drawO_ok hA hI hC (by kernel_rfl)) n
  refine (ok.call hq s hr).mono ?_
  rintro e w' ⟨u, rfl, V, hz, s', x'⟩
  have hz : u = .bool true := hz
  subst hz
  exact ⟨rfl, same0 (by decide +kernel) hob (by simp) s' x' hx⟩
end Ev
end Go.Proofs.YtlocjamhdddbcaaGreatDoor
