/- EvSy: runs of a call with values that are not known ahead: what is known of them are facts. -/
import Derived.Test.YtlkgdpdnhnakoaaGreatDoorEvRn
namespace Go.Proofs.YtlkgdpdnhnakoaaGreatDoor

theorem Ev.Sim.same {X : Type} {E : Ev.Xs X} {G : Nat} {V : Ev.Vn} {h : Ev.Hp X} {w w' : World} (s : Ev.Sim E G V h w) (k : Same w w') : Ev.Sim E G V h w' ∧ Ev.Ext E V h w V h w' :=
  ⟨⟨s.new, s.glob, fun b ob g => let ⟨p, q1, q2⟩ := s.ob b ob g; ⟨p, q1, q2.keep (.refl V) (fun j hj => k.block j (q2.lt j hj) (fun h => h)) k.size⟩, s.apart⟩,
    ⟨.refl V, k.size, Nat.le_refl _, fun j hj hn => ⟨k.block j hj (fun h => h), hn⟩, fun _ _ => rfl, ⟨k.os, k.tape, k.output⟩⟩⟩
namespace Ev

/-! ### Values as numbers -/
def znum (n : Int) : Nat := if 0 ≤ n then 2 * n.toNat else 2 * (-n - 1).toNat + 1
theorem unz_enc (n : Int) : unzN (znum n) = n := by
  unfold unzN znum
  split <;> split <;> omega
def lnum : List UInt8 → Nat
  | [] => 0
  | b :: l => (lnum l + 1) * 256 + b.toNat
theorem bytes_enc : ∀ l : List UInt8, bytesN l.length (lnum l) = l
  | [] => rfl
  | b :: l => by
    have hb : b.toNat < 256 := b.toNat_lt
    show (if lnum (b :: l) = 0 then [] else UInt8.ofNat (lnum (b :: l) % 256) :: bytesN l.length (lnum (b :: l) / 256 - 1)) = b :: l
    have e : lnum (b :: l) = (lnum l + 1) * 256 + b.toNat := rfl
    rw [if_neg (by omega), show lnum (b :: l) % 256 = b.toNat by omega, show lnum (b :: l) / 256 - 1 = lnum l by omega, bytes_enc l]
    simp
theorem sym_int (n : Int) : symV 0 (znum n) = .int .i64 n := by unfold symV; simp only [unz_enc]
theorem sym_u8 (n : Int) : symV 1 (znum n) = .int .u8 n := by unfold symV; simp only [unz_enc]
theorem sym_str (l : List UInt8) : symV (l.length + 3) (lnum l) = .string ⟨l.toArray⟩ := by unfold symV; simp only [bytes_enc]

/-! ### Facts -/
/-- An unknown number's comparison with a known one. -/
structure Fa where
  op : BinOp
  i : Nat
  n : Int
  r : Bool
noncomputable def symAt (h : Hp Xo) (b : Nat) : Option Nat := match h.t.get b with
  | some (.x (.sym i)) => some i
  | _ => none
noncomputable def lookF (op : BinOp) (i : Nat) (n : Int) : List Fa → Option Bool
  | [] => none
  | f :: l => match decide (f.op = op), Nat.beq f.i i, decide (f.n = n) with
    | true, true, true => some f.r
    | _, _, _ => lookF op i n l
noncomputable def factF (l : List Fa) (op : BinOp) (_ : TypeId) (x y : AV) (h : Hp Xo) : Option AV := match x, y with
  | .V (.C (.X b)), .V (.C (.I .i64 n)) => match symAt h b with
    | some i => match lookF op i n l with
      | some r => some (.V (.C (.B r)))
      | none => none
    | none => none
  | _, _ => none
/-- Which unknown number is which unknown text's length. -/
noncomputable def lenF (l : List (Nat × Nat)) (b : Builtin) (ts : List TypeId) (args : List AV) (h : Hp Xo) : Option AV := match b, ts, args with
  | .len, t :: _, [.V (.C (.X b))] => match symAt h b, (tabOf Tryz.prog).und t with
    | some i, some .string => match l.find? (fun q => Nat.beq q.1 i) with
      | some q => match symAt h (Nat.add numG q.2) with
        | some j => match Nat.beq j q.2 with
          | true => some (.V (.C (.X (Nat.add numG q.2))))
          | false => none
        | none => none
      | none => none
    | _, _ => none
  | _, _, _ => none
def Fa.Ok (vals : Nat → Nat × Nat) (f : Fa) : Prop := (vals f.i).1 = 0 ∧ intOp f.op .i64 (unzN (vals f.i).2) f.n = some (.B f.r) ∧ f.op ≠ .shl ∧ f.op ≠ .shr
def LenOk (vals : Nat → Nat × Nat) (q : Nat × Nat) : Prop := ∃ s : List UInt8, vals q.1 = (s.length + 3, lnum s) ∧ vals q.2 = (0, znum s.length)
theorem lookF_at {vals : Nat → Nat × Nat} {op : BinOp} {i : Nat} {n : Int} {r : Bool} : ∀ {l : List Fa}, (∀ f ∈ l, f.Ok vals) → lookF op i n l = some r → (vals i).1 = 0 ∧ intOp op .i64 (unzN (vals i).2) n = some (.B r) ∧ op ≠ .shl ∧ op ≠ .shr
  | [], _, h => by cases h
  | f :: l, hl, h => by
    unfold lookF at h
    split at h
    · rename_i h1 h2 h3
      obtain rfl := of_decide_eq_true h1
      obtain rfl := Nat.eq_of_beq_eq_true h2
      obtain rfl := of_decide_eq_true h3
      injection h with h; subst h
      exact hl f (by simp)
    · exact lookF_at (fun f hf => hl f (by simp [hf])) h
theorem symAt_val {ob : Obj} {vals : Nat → Nat × Nat} {ks : List (Nat × Obj)} {V : Vn} {h : Hp Xo} {w : World} (s : Sim (varX tabG ob vals ks) numG V h w) {b i : Nat} (hx : symAt h b = some i) {v : Value} (hv : (Ce.X b).rel V v) : v = symV (vals i).1 (vals i).2 := by
  unfold symAt at hx
  split at hx
  · injection hx with hx; subst hx
    exact sym_val s (by assumption) hv
  · cases hx
theorem symAt_rel {ob : Obj} {vals : Nat → Nat × Nat} {ks : List (Nat × Obj)} {V : Vn} {h : Hp Xo} {w : World} (s : Sim (varX tabG ob vals ks) numG V h w) {b i : Nat} (hx : symAt h b = some i) : (Ce.X b).rel V (symV (vals i).1 (vals i).2) := by
  unfold symAt at hx
  split at hx
  · rename_i j hj
    injection hx with hx; subst hx
    obtain ⟨p, hp, q1, q2⟩ := s.ob _ _ hj
    exact ⟨p, hp, by rw [q1, q2]⟩
  · cases hx
theorem factF_ok {ob : Obj} {vals : Nat → Nat × Nat} {ks : List (Nat × Obj)} {l : List Fa} (hl : ∀ f ∈ l, f.Ok vals) : BinOk ob vals ks (factF l) := by
  intro op t x y z h q V w u v s hu hv a b
  unfold factF at q
  split at q
  case h_2 => cases q
  rename_i bb n
  split at q
  case h_2 => cases q
  rename_i i hi
  split at q
  case h_2 => cases q
  rename_i r hr
  injection q with q; subst q
  obtain ⟨h1, h2, h3, h4⟩ := lookF_at hl hr
  have e1 : u = .int .i64 (unzN (vals i).2) := by
    rw [symAt_val s hi hu, h1]; rfl
  have e2 : v = .int .i64 n := hv
  subst e1; subst e2
  obtain ⟨m, r1, r2⟩ := intOp_run (P := Tryz.prog) h2 t w
  exact ⟨m, run_eqGuard op t a b (fun _ e => by cases e) (fun e => by cases e) w, r1, r2 V⟩
theorem lenF_ok {ob : Obj} {vals : Nat → Nat × Nat} {ks : List (Nat × Obj)} {l : List (Nat × Nat)} (hl : ∀ q ∈ l, LenOk vals q) : BiOk ob vals ks (lenF l) := by
  intro b ts args z h q V w xs s hr ty cs
  unfold lenF at q
  split at q
  case h_2 => cases q
  rename_i t ts bb
  split at q
  case h_2 => cases q
  rename_i i hi ht
  split at q
  case h_2 => cases q
  rename_i qq hq
  split at q
  case h_2 => cases q
  rename_i j hj
  split at q
  case h_2 => cases q
  rename_i hjq
  injection q with q; subst q
  obtain rfl := Nat.eq_of_beq_eq_true hjq
  have hmem := List.mem_of_find?_eq_some hq
  have hqi : qq.1 = i := by have := List.find?_some hq; exact Nat.eq_of_beq_eq_true this
  obtain ⟨st, v1, v2⟩ := hl qq hmem
  match xs, hr with
  | [v], hr =>
    have e1 : v = .string ⟨st.toArray⟩ := by
      rw [symAt_val s hi hr.1, ← hqi, v1]; exact sym_str st
    subst e1
    have hz := symAt_rel s hj
    rw [v2, sym_int] at hz
    refine ⟨Builtin.len_ (t :: ts).toArray ty #[.string ⟨st.toArray⟩], _, rfl, ?_, hz⟩
    unfold Builtin.len_
    simp only [List.getElem?_toArray, List.getElem?_cons_zero]
    have hu : Tryz.prog.underlying t = some .string := (tab_ok noGo).und ht
    rw [run_und hu]
    show Result.ok _ w = _
    congr 1
/-- A run with values that are not known ahead, that tells true. -/
theorem runS {n k : Nat} {f : FuncId} {args : List AV} {l : List Fa} {lens : List (Nat × Nat)} {ent : List Eny} (q : ranOk ((clO (tabOf Tryz.prog) numG (ixF (factF l) (lenF lens)) (iyM ent) izP (nat_lit 100000) n).call f args (h0 numG tabG k)) = true)
    {vals : Nat → Nat × Nat} (hl : ∀ f ∈ l, f.Ok vals) (hs : ∀ q ∈ lens, LenOk vals q) (w : World) (hT : TabOK w) {xs : List Value} (hr : All2 (AV.rel (V0 numG k vals)) args xs) :
    Calls Tryz.prog f xs.toArray w fun e w' => e = .returned (.bool true) ∧ Same w w' := by
  unfold ranOk at q
  split at q
  case h_2 => cases q
  rename_i h hq
  split at q
  case h_2 => cases q
  rename_i hx
  obtain ⟨ob, hob⟩ : ∃ ob, w.heap[tabG]? = some ob := by
    have := hT 0 (by decide)
    unfold World.cell? at this
    cases h : w.heap[tabG]? with
    | none => rw [show w.heap[(⟨1, 0, none⟩ : Addr).block]? = w.heap[tabG]? from rfl, h] at this; cases this
    | some o => exact ⟨o, rfl⟩
  have hT' : ∀ w' : World, w'.heap[tabG]? = some ob → TabOK w' := fun w' hw' i hi => by
    have := hT i hi
    rw [← this]
    simp only [World.cell?, show w'.heap[1]? = w.heap[1]? from hw'.trans hob.symm]
  have hA := tab_ok noGo
  have hI := ixF_ok (factF_ok (ob := ob) (ks := []) hl) (lenF_ok (ob := ob) (ks := []) hs)
  have s := sim0 (G := numG) (g := tabG) (k := k) (vals := vals) (ks := []) (by decide +kernel) hob (by simp)
  have ok := clO_ok (N := nat_lit 100000) hA hI (iyM_ok hT' ent) izP_ok (fun C hC => drawO_ok hA hI hC (by kernel_rfl)) n
  refine (ok.call hq s hr).mono ?_
  rintro e w' ⟨u, rfl, V, hz, s', x'⟩
  have hz : u = .bool true := hz
  subst hz
  exact ⟨rfl, same0 (by decide +kernel) hob (by simp) s' x' hx⟩
end Ev
end Go.Proofs.YtlkgdpdnhnakoaaGreatDoor
