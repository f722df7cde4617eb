/- GEb: EvK, EvPs, EvLt. -/
import Derived.Test.YtlkgdpdnhnakoaaGreatDoorGEa
import Derived.Test.YtlkgdpdnhnakoaaGreatDoorGenS
namespace Go.Proofs.YtlkgdpdnhnakoaaGreatDoor
namespace Ev
/-- The evaluator with closed ways, with laws of its own. -/
noncomputable def clK (J : Iy Xo) : Nat → Cl Xo
  | 0 => ⟨fun _ _ _ => none, fun _ _ _ => none, fun _ _ _ => none⟩
  | n + 1 => ⟨fun f args h => callP J (clK J n) f args h, fun f args h => callP izP (clK J n) f args h, fun l args h => yldF tabP numG ixP (nat_lit 100000) (clK J n) l args h⟩
theorem clK_eq (J : Iy Xo) : ∀ n, clK J n = clO tabP numG ixP J izP (nat_lit 100000) n
  | 0 => rfl
  | n + 1 => by
    unfold clK clO
    rw [clK_eq J n]
    congr 1
    · funext f args h; exact callP_eq J _ f args h
    · funext f args h; exact callP_eq izP _ f args h
end Ev
end Go.Proofs.YtlkgdpdnhnakoaaGreatDoor
namespace Go.Proofs.YtlkgdpdnhnakoaaGreatDoor
namespace Ev
theorem Sim.addG {X : Type} {E : Xs X} {G : Nat} {V : Vn} {h : Hp X} {w w' : World} (s : Sim E G V h w) {ob : Ob X} {p : Pl} {g : Nat} (hg : w.heap.size ≤ g) (hp : foot E ob p = [g]) (ho : ObR E (named V h.next p) w' p ob)
    (hj : ∀ j, j < w.heap.size → w'.heap[j]? = w.heap[j]?) (hs : w.heap.size ≤ w'.heap.size) (hO : Outer w w') :
    Sim E G (named V h.next p) (h.add ob) w' ∧ Ext E V h w (named V h.next p) (h.add ob) w' := by
  have hn : V h.next = none := s.new _ (Nat.le_refl _)
  refine ⟨(s.name p).put (named_self _ _ _) ho (fun j hl _ => hj j hl) hs ?_, ⟨named_le hn, hs, Nat.le_succ _, fun j hl hnl => ⟨hj j hl, fun l => ?_⟩, fun b hb => named_ne (Nat.ne_of_lt hb), hO⟩⟩
  · intro b' ob' p' j g' hne q hf hf'
    rw [hp, List.mem_singleton] at hf'
    obtain ⟨p0, q1, q2⟩ := (s.name p).ob b' ob' g'
    rw [q] at q1; cases q1
    have := q2.lt j hf
    omega
  · rcases Live.put (h := ⟨h.t, h.next + 1⟩) (named_self _ _ _) l with q | q
    · exact hnl (q.name s)
    · rw [hp, List.mem_singleton] at q; omega
/-- A slice that a call made. -/
theorem new_row {E : Xs Xo} {G : Nat} {V : Vn} {h : Hp Xo} {w w' : World} (s : Sim E G V h w) (hk : Same w w') {e : TypeId} {size n : Nat} {v : Value} {cells : List Value} (ho : w'.ownsRow w.heap.size e size v n cells) (hn : 1 ≤ n) {new : List Ce} (hnew : All2 (Ce.rel V) new cells) :
    ∃ V', (AV.V (.C (.L (some (h.next, 0)) n (.e 0)))).rel V' v ∧ Sim E G V' (h.add (.cells (T.ofL new) (Nat.mul n size) (some size))) w' ∧ Ext E V h w V' (h.add (.cells (T.ofL new) (Nat.mul n size) (some size))) w' := by
  have hn0 : V h.next = none := s.new _ (Nat.le_refl _)
  obtain ⟨hlen, ho⟩ := ho
  rcases ho with ⟨_, h0⟩ | ⟨g, cap', cur, rfl, hg, hblk, hnc, hm, hcs, htk⟩
  · omega
  have hle : n * size ≤ cap' * size := Nat.mul_le_mul_right _ hnc
  obtain ⟨s1, x1⟩ := Sim.addG (ob := .cells (T.ofL new) (Nat.mul n size) (some size)) (p := ⟨g, 0, cap', 0, 0⟩) s hg rfl
    ⟨cur, _, (0, 0), hblk, .inl rfl, fun j x hj gx => by
      obtain ⟨v, v1, v2⟩ := hnew.get (T.get_ofL gx)
      refine ⟨v, ?_, v2.mono (named_le hn0)⟩
      have hj : j < n * size := hj
      rw [← htk, List.getElem?_take, if_pos hj, Array.getElem?_toList] at v1
      show cur[0 + j]? = some v
      rw [Nat.zero_add]; exact v1, by show 0 + n * size ≤ cur.size; omega, fun k' hk' => by cases hk'; show cur.size = 0 + cap' * size; omega⟩
    (fun j hj => hk.block j hj (fun h => h)) hk.size ⟨hk.os, hk.tape, hk.output⟩
  exact ⟨_, ⟨_, named_self _ _ _, by show 0 + n ≤ cap'; omega, rfl⟩, s1, x1⟩
theorem nats_rel (V : Vn) : ∀ l : List Nat, All2 (Ce.rel V) (l.map fun n => .I .u8 (.ofNat n)) (l.map fun x => Value.int .u8 ((x : Nat) : Int))
  | [] => trivial
  | _ :: l => ⟨rfl, nats_rel V l⟩
noncomputable def putO (args : List AV) (h : Hp Xo) : Option (AV × Hp Xo) := match args with
  | [.V (.C (.I .u64 (.ofNat n)))] => match Nat.ble n (nat_lit 18446744073709551615) with
    | true => some (.V (.C (.L (some (h.next, 0)) (putSmall n).length (.e 0))), h.add (.cells (T.ofL ((putSmall n).map fun n => .I .u8 (.ofNat n))) (Nat.mul (putSmall n).length (nat_lit 1)) (some (nat_lit 1))))
    | false => none
  | _ => none
theorem put_ok : YOk 184 putO := by
  intro ob vals ks hT args h h' z q V w xs s hr
  unfold putO at q
  split at q
  case h_2 => cases q
  rename_i n
  split at q
  case h_2 => cases q
  rename_i hle
  injection q with q; injection q with q1 q2; subst q1; subst q2
  have hle : n ≤ 18446744073709551615 := Nat.le_of_ble_eq_true hle
  match xs, hr with
  | [v], ⟨h1, _⟩ =>
    have h1 : v = .int .u64 (n : Nat) := h1
    subst h1
    refine (ord_putSmall n w (by omega)).mono ?_
    rintro e w' ⟨v, rfl, ho, hk⟩
    obtain ⟨V', z1, s1, x1⟩ := new_row s hk ho (by simp [putSmall]) (nats_rel V (putSmall n))
    exact ⟨v, rfl, V', z1, s1, x1⟩
noncomputable def genO (args : List AV) (h : Hp Xo) : Option (AV × Hp Xo) := match args with
  | [.V (.G l)] => match natsC l with
    | some xs => match Nat.beq xs.length (nat_lit 8) with
      | true => some (.V (.C (.I .i64 (.ofNat (genG xs)))), h)
      | false => none
    | none => none
  | _ => none
theorem gen_ok : YOk 261 genO := by
  intro ob vals ks hT args h h' z q V w xs s hr
  unfold genO at q
  split at q
  case h_2 => cases q
  rename_i l
  split at q
  case h_2 => cases q
  rename_i is his
  split at q
  case h_2 => cases q
  rename_i hl
  injection q with q; injection q with q1 q2; subst q1; subst q2
  obtain ⟨e1, hb⟩ := natsC_spec his
  have hl : is.length = 8 := Nat.eq_of_beq_eq_true hl
  match xs, hr with
  | [v], ⟨⟨vs, h1, h2⟩, _⟩ =>
    subst e1
    have hv : ∀ (l : List Nat) (vs : List Value), All2 (Ce.rel V) (l.map fun n => .I .u8 (.ofNat n)) vs → vs = l.map fun n : Nat => Value.int .u8 (n : Nat) := by
      intro l
      induction l with
      | nil => intro vs h; cases vs with
        | nil => rfl
        | cons => exact h.elim
      | cons a l ih => intro vs h; cases vs with
        | nil => exact h.elim
        | cons v vs =>
          have e : v = .int .u8 (a : Nat) := h.1
          rw [List.map_cons, ← ih vs h.2, e]
    have e2 := hv is vs h1
    subst h2
    have e3 : (Value.agg vs.toArray) = stV is := by rw [e2]; rfl
    rw [e3]
    refine (sn_genG is hl hb w).mono ?_
    rintro e w' ⟨rfl, hk⟩
    obtain ⟨s1, x1⟩ := Sim.same s hk
    exact ⟨_, rfl, V, rfl, s1, x1⟩
noncomputable def entP : List EnyF := [⟨184, putO⟩, ⟨261, genO⟩]
theorem entP_ok (vals : Nat → Nat × Nat) : ∀ e ∈ entP, YOkV vals e.f e.g := by
  intro e he
  simp only [entP, List.mem_cons, List.not_mem_nil, or_false] at he
  rcases he with rfl | rfl
  · exact fun hT _ _ _ _ q _ _ _ s hr => put_ok hT q s hr
  · exact fun hT _ _ _ _ q _ _ _ s hr => gen_ok hT q s hr
/-- A run from the start, with laws of one's own, that tells true. -/
theorem ranP {l : List EnyF} (hl : ∀ e ∈ l, YOkV (fun _ => (0, 0)) e.f e.g) {n : Nat} {f : FuncId} (q : ranOk ((clK (iyV l) n).call f [] (h0 numG tabG 0)) = true) (w : World) (hT : TabOK w) :
    Calls Tryz.prog f #[] w fun e w' => e = .returned (.bool true) ∧ Same w w' := by
  rw [clK_eq] at q
  unfold ranOk at q
  split at q
  case h_2 => cases q
  rename_i h hq
  split at q
  case h_2 => cases q
  rename_i hx
  obtain ⟨ob, hob⟩ : ∃ ob, w.heap[tabG]? = some ob := by
    have := hT 0 (by decide)
    unfold World.cell? at this
    cases h : w.heap[tabG]? with
    | none => rw [show w.heap[(⟨1, 0, none⟩ : Addr).block]? = w.heap[tabG]? from rfl, h] at this; cases this
    | some o => exact ⟨o, rfl⟩
  have hT' : ∀ w' : World, w'.heap[tabG]? = some ob → TabOK w' := fun w' hw' i hi => by
    have := hT i hi
    rw [← this]
    simp only [World.cell?, show w'.heap[1]? = w.heap[1]? from hw'.trans hob.symm]
  have hA := tab_ok noGo
  have s := sim0 (G := numG) (g := tabG) (k := 0) (vals := fun _ => (0, 0)) (ks := []) (by decide +kernel) hob (by simp)
  have ok := clO_ok (N := nat_lit 100000) hA (ixP_ok (ob := ob) (vals := fun _ => (0, 0)) (ks := [])) (iyV_ok hT' hl) izP_ok (fun C hC => drawO_ok hA ixP_ok hC (by kernel_rfl)) n
  refine (ok.call hq s (xs := []) trivial).mono ?_
  rintro e w' ⟨u, rfl, V, hz, s', x'⟩
  have hz : u = .bool true := hz
  subst hz
  exact ⟨rfl, same0 (by decide +kernel) hob (by simp) s' x' hx⟩
end Ev
end Go.Proofs.YtlkgdpdnhnakoaaGreatDoor
namespace Go.Proofs.YtlkgdpdnhnakoaaGreatDoor
namespace Ev
/-- An object, written out: rows of cells at places; a map. -/
inductive Lt
  | cells (rows : List (Nat × List Ce)) (n : Nat) (ext : Option Nat)
  | map (es : List (Ce × A0 × Nat)) (clock : Nat)
noncomputable def rowsT (l : List (Nat × List Ce)) : T Ce := List.rec (motive := fun _ => T Ce) (T.full (nat_lit 16)) (fun p _ t => T.putL p.2 t p.1) l
noncomputable def Lt.ob : Lt → Ob Xo
  | .cells rows n ext => .cells (rowsT rows) n ext
  | .map es c => .map es c
noncomputable def subRows (t : T Ce) (l : List (Nat × List Ce)) : Bool := List.rec (motive := fun _ => Bool) true (fun p _ ih => match t.getL p.1 p.2.length with
  | some l' => match decide (l' = p.2) with
    | true => ih
    | false => false
  | none => false) l
noncomputable def subO (x : Lt) (o : Option (Ob Xo)) : Bool := match x, o with
  | .cells rows n ext, some (.cells t m e) => match Nat.ble n m, decide (ext = e) with
    | true, true => subRows t rows
    | _, _ => false
  | .map es c, some (.map es' c') => match decide (es = es'), Nat.beq c c' with
    | true, true => true
    | _, _ => false
  | _, _ => false
noncomputable def subH (l : List (Nat × Lt)) (h : Hp Xo) : Bool := List.rec (motive := fun _ => Bool) (match h.t.get tabG with
  | some (.x .tab) => true
  | _ => false) (fun p _ ih => match subO p.2 (h.t.get p.1) with
  | true => ih
  | false => false) l
noncomputable def litT (l : List (Nat × Lt)) : T (Ob Xo) := List.rec (motive := fun _ => T (Ob Xo)) (h0 numG tabG 0).t (fun p _ t => t.put p.1 p.2.ob) l
noncomputable def litH (l : List (Nat × Lt)) (n : Nat) : Hp Xo := ⟨litT l, n⟩
theorem rowsT_at {t : T Ce} : ∀ {l : List (Nat × List Ce)}, subRows t l = true → ∀ {i : Nat} {x : Ce}, (rowsT l).get i = some x → t.get i = some x
  | [], _, i, x, g => by
    have g : (T.full (nat_lit 16) : T Ce).get i = some x := g
    rw [T.get_full] at g; cases g
  | p :: l, q, i, x, g => by
    have q : (match t.getL p.1 p.2.length with
      | some l' => match decide (l' = p.2) with
        | true => subRows t l
        | false => false
      | none => false) = true := q
    split at q
    case h_2 => cases q
    rename_i l' hl'
    split at q
    case h_2 => cases q
    rename_i hd
    have hd := of_decide_eq_true hd
    subst hd
    have g : (T.putL p.2 (rowsT l) p.1).get i = some x := g
    rcases T.get_putL g with ⟨g1, g2⟩ | ⟨_, g2⟩
    · have h1 := (T.getL_spec hl').2 (i - p.1) (List.getElem?_eq_some_iff.1 g2).1
      rw [show p.1 + (i - p.1) = i by omega] at h1
      rw [h1]; exact g2
    · exact rowsT_at q g2
theorem subO_ok {E : Xs Xo} {V : Vn} {w : World} {p : Pl} {x : Lt} {ob : Ob Xo} (q : subO x (some ob) = true) (h : ObR E V w p ob) : ObR E V w p x.ob ∧ foot E x.ob p = foot E ob p := by
  unfold subO at q
  split at q
  case h_1 rows n ext _ t m e heq =>
    injection heq with heq; subst heq
    split at q
    case h_2 => cases q
    rename_i h1 h2
    have h1 := Nat.le_of_ble_eq_true h1
    have h2 := of_decide_eq_true h2
    subst h2
    obtain ⟨c, ty, fz, a1, a2, a3, a4, a5⟩ := h
    exact ⟨⟨c, ty, fz, a1, a2, fun i y hi g => a3 i y (Nat.lt_of_lt_of_le hi h1) (rowsT_at q g), by omega, a5⟩, rfl⟩
  case h_2 es c _ es' c' heq =>
    injection heq with heq; subst heq
    split at q
    case h_2 => cases q
    rename_i h1 h2
    have h1 := of_decide_eq_true h1
    have h2 := Nat.eq_of_beq_eq_true h2
    subst h1; subst h2
    exact ⟨h, rfl⟩
  case h_3 => cases q
theorem litT_at {b : Nat} {o : Ob Xo} : ∀ {l : List (Nat × Lt)}, (litT l).get b = some o → (∃ x, (b, x) ∈ l ∧ o = x.ob) ∨ (b = tabG ∧ o = .x .tab)
  | [], g => by
    rcases h0_at (show (h0 numG tabG 0).t.get b = some o from g) with ⟨i, q, _⟩ | q
    · omega
    · exact .inr q
  | p :: l, g => by
    have g : ((litT l).put p.1 p.2.ob).get b = some o := g
    rcases T.get_put g with ⟨e1, e2⟩ | ⟨_, g'⟩
    · exact .inl ⟨p.2, by rw [e1]; exact List.mem_cons_self .., e2⟩
    · rcases litT_at g' with ⟨x, h1, h2⟩ | q
      · exact .inl ⟨x, List.mem_cons_of_mem _ h1, h2⟩
      · exact .inr q
theorem subH_at {h : Hp Xo} : ∀ {l : List (Nat × Lt)}, subH l h = true → h.t.get tabG = some (.x .tab) ∧ ∀ p ∈ l, subO p.2 (h.t.get p.1) = true
  | [], q => by
    have q : (match h.t.get tabG with
      | some (.x .tab) => true
      | _ => false) = true := q
    split at q
    · rename_i hx; exact ⟨hx, fun p hp => by cases hp⟩
    · cases q
  | p :: l, q => by
    have q : (match subO p.2 (h.t.get p.1) with
      | true => subH l h
      | false => false) = true := q
    split at q
    case h_2 => cases q
    rename_i h1
    obtain ⟨h2, h3⟩ := subH_at q
    refine ⟨h2, fun p' hp' => ?_⟩
    rcases List.mem_cons.1 hp' with rfl | hp'
    · exact h1
    · exact h3 p' hp'
/-- What is written out of a heap is there. -/
theorem litSim {E : Xs Xo} {G : Nat} {V : Vn} {h : Hp Xo} {w : World} {l : List (Nat × Lt)} {n : Nat} (s : Sim E G V h w) (q : subH l h = true) (hn : h.next ≤ n) : Sim E G V (litH l n) w ∧ Ext E V h w V (litH l n) w := by
  obtain ⟨hx, hl⟩ := subH_at q
  have key : ∀ b ob, (litH l n).t.get b = some ob → ∃ ob', h.t.get b = some ob' ∧ ∃ p, V b = some p ∧ ObR E V w p ob ∧ foot E ob p = foot E ob' p := by
    intro b ob g
    rcases litT_at g with ⟨x, h1, rfl⟩ | ⟨rfl, rfl⟩
    · have h2 := hl _ h1
      cases hb : h.t.get b with
      | none =>
        rw [show h.t.get (b, x).1 = none from hb] at h2
        unfold subO at h2
        split at h2 <;> first | cases h2 | (rename_i e; cases e)
      | some ob' =>
        rw [show h.t.get (b, x).1 = some ob' from hb] at h2
        obtain ⟨p, q1, q2⟩ := s.ob b ob' hb
        obtain ⟨q3, q4⟩ := subO_ok h2 q2
        exact ⟨ob', rfl, p, q1, q3, q4⟩
    · obtain ⟨p, q1, q2⟩ := s.ob _ _ hx
      exact ⟨_, hx, p, q1, q2, rfl⟩
  refine ⟨⟨fun b hb => s.new b (Nat.le_trans hn hb), s.glob, fun b ob g => ?_, fun b ob p b' ob' p' j g g' e e' f f' => ?_⟩, ⟨.refl V, Nat.le_refl _, hn, fun j _ hnl => ⟨rfl, fun lv => ?_⟩, fun _ _ => rfl, ⟨rfl, rfl, rfl⟩⟩⟩
  · obtain ⟨_, _, p, q1, q2, _⟩ := key b ob g
    exact ⟨p, q1, q2⟩
  · obtain ⟨o1, a1, p1, a2, _, a4⟩ := key b ob g
    obtain ⟨o2, b1, p2, b2, _, b4⟩ := key b' ob' g'
    rw [e] at a2; cases a2
    rw [e'] at b2; cases b2
    exact s.apart b o1 p b' o2 p' j a1 b1 e e' (a4 ▸ f) (b4 ▸ f')
  · obtain ⟨b, ob, p, g, e, f⟩ := lv
    obtain ⟨o1, a1, p1, a2, _, a4⟩ := key b ob g
    rw [e] at a2; cases a2
    exact hnl ⟨b, o1, p, a1, e, a4 ▸ f⟩
noncomputable def ltRun (z : AV) (l' : List (Nat × Lt)) (n' : Nat) (r : Option (AV × Hp Xo)) : Bool := match r with
  | some (y, h) => match decide (y = z), Nat.ble h.next n', subH l' h with
    | true, true, true => true
    | _, _, _ => false
  | none => false
end Ev
end Go.Proofs.YtlkgdpdnhnakoaaGreatDoor
