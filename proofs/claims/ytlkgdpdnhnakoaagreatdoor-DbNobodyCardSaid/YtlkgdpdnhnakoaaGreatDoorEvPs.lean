/- EvPs: a stamp's generation, numbers in few bytes: laws of one's own, for runs. -/
import Derived.Test.YtlkgdpdnhnakoaaGreatDoorEvAr
import Derived.Test.YtlkgdpdnhnakoaaGreatDoorEvK
import Derived.Test.YtlkgdpdnhnakoaaGreatDoorGenS
namespace Go.Proofs.YtlkgdpdnhnakoaaGreatDoor
namespace Ev
theorem Sim.addG {X : Type} {E : Xs X} {G : Nat} {V : Vn} {h : Hp X} {w w' : World} (s : Sim E G V h w) {ob : Ob X} {p : Pl} {g : Nat} (hg : w.heap.size ≤ g) (hp : foot E ob p = [g]) (ho : ObR E (named V h.next p) w' p ob)
    (hj : ∀ j, j < w.heap.size → w'.heap[j]? = w.heap[j]?) (hs : w.heap.size ≤ w'.heap.size) (hO : Outer w w') :
    Sim E G (named V h.next p) (h.add ob) w' ∧ Ext E V h w (named V h.next p) (h.add ob) w' := by
  have hn : V h.next = none := s.new _ (Nat.le_refl _)
  refine ⟨(s.name p).put (named_self _ _ _) ho (fun j hl _ => hj j hl) hs ?_, ⟨named_le hn, hs, Nat.le_succ _, fun j hl hnl => ⟨hj j hl, fun l => ?_⟩, fun b hb => named_ne (Nat.ne_of_lt hb), hO⟩⟩
  · intro b' ob' p' j g' hne q hf hf'
    rw [hp, List.mem_singleton] at hf'
    obtain ⟨p0, q1, q2⟩ := (s.name p).ob b' ob' g'
    rw [q] at q1; cases q1
    have := q2.lt j hf
    omega
  · rcases Live.put (h := ⟨h.t, h.next + 1⟩) (named_self _ _ _) l with q | q
    · exact hnl (q.name s)
    · rw [hp, List.mem_singleton] at q; omega
/-- A slice that a call made. -/
theorem new_row {E : Xs Xo} {G : Nat} {V : Vn} {h : Hp Xo} {w w' : World} (s : Sim E G V h w) (hk : Same w w') {e : TypeId} {size n : Nat} {v : Value} {cells : List Value} (ho : w'.ownsRow w.heap.size e size v n cells) (hn : 1 ≤ n) {new : List Ce} (hnew : All2 (Ce.rel V) new cells) :
    ∃ V', (AV.V (.C (.L (some (h.next, 0)) n (.e 0)))).rel V' v ∧ Sim E G V' (h.add (.cells (T.ofL new) (Nat.mul n size) (some size))) w' ∧ Ext E V h w V' (h.add (.cells (T.ofL new) (Nat.mul n size) (some size))) w' := by
  have hn0 : V h.next = none := s.new _ (Nat.le_refl _)
  obtain ⟨hlen, ho⟩ := ho
  rcases ho with ⟨_, h0⟩ | ⟨g, cap', cur, rfl, hg, hblk, hnc, hm, hcs, htk⟩
  · omega
  have hle : n * size ≤ cap' * size := Nat.mul_le_mul_right _ hnc
  obtain ⟨s1, x1⟩ := Sim.addG (ob := .cells (T.ofL new) (Nat.mul n size) (some size)) (p := ⟨g, 0, cap', 0, 0⟩) s hg rfl
    ⟨cur, _, (0, 0), hblk, .inl rfl, fun j x hj gx => by
      obtain ⟨v, v1, v2⟩ := hnew.get (T.get_ofL gx)
      refine ⟨v, ?_, v2.mono (named_le hn0)⟩
      have hj : j < n * size := hj
      rw [← htk, List.getElem?_take, if_pos hj, Array.getElem?_toList] at v1
      show cur[0 + j]? = some v
      rw [Nat.zero_add]; exact v1, by show 0 + n * size ≤ cur.size; omega, fun k' hk' => by cases hk'; show cur.size = 0 + cap' * size; omega⟩
    (fun j hj => hk.block j hj (fun h => h)) hk.size ⟨hk.os, hk.tape, hk.output⟩
  exact ⟨_, ⟨_, named_self _ _ _, by show 0 + n ≤ cap'; omega, rfl⟩, s1, x1⟩
theorem nats_rel (V : Vn) : ∀ l : List Nat, All2 (Ce.rel V) (l.map fun n => .I .u8 (.ofNat n)) (l.map fun x => Value.int .u8 ((x : Nat) : Int))
  | [] => trivial
  | _ :: l => ⟨rfl, nats_rel V l⟩
noncomputable def putO (args : List AV) (h : Hp Xo) : Option (AV × Hp Xo) := match args with
  | [.V (.C (.I .u64 (.ofNat n)))] => match Nat.ble n (nat_lit 18446744073709551615) with
    | true => some (.V (.C (.L (some (h.next, 0)) (putSmall n).length (.e 0))), h.add (.cells (T.ofL ((putSmall n).map fun n => .I .u8 (.ofNat n))) (Nat.mul (putSmall n).length (nat_lit 1)) (some (nat_lit 1))))
    | false => none
  | _ => none
theorem put_ok : YOk 184 putO := by
  intro ob vals ks hT args h h' z q V w xs s hr
  unfold putO at q
  split at q
  case h_2 => cases q
  rename_i n
  split at q
  case h_2 => cases q
  rename_i hle
  injection q with q; injection q with q1 q2; subst q1; subst q2
  have hle : n ≤ 18446744073709551615 := Nat.le_of_ble_eq_true hle
  match xs, hr with
  | [v], ⟨h1, _⟩ =>
    have h1 : v = .int .u64 (n : Nat) := h1
    subst h1
    refine (ord_putSmall n w (by omega)).mono ?_
    rintro e w' ⟨v, rfl, ho, hk⟩
    obtain ⟨V', z1, s1, x1⟩ := new_row s hk ho (by simp [putSmall]) (nats_rel V (putSmall n))
    exact ⟨v, rfl, V', z1, s1, x1⟩
noncomputable def genO (args : List AV) (h : Hp Xo) : Option (AV × Hp Xo) := match args with
  | [.V (.G l)] => match natsC l with
    | some xs => match Nat.beq xs.length (nat_lit 8) with
      | true => some (.V (.C (.I .i64 (.ofNat (genS xs)))), h)
      | false => none
    | none => none
  | _ => none
theorem gen_ok : YOk 261 genO := by
  intro ob vals ks hT args h h' z q V w xs s hr
  unfold genO at q
  split at q
  case h_2 => cases q
  rename_i l
  split at q
  case h_2 => cases q
  rename_i is his
  split at q
  case h_2 => cases q
  rename_i hl
  injection q with q; injection q with q1 q2; subst q1; subst q2
  obtain ⟨e1, hb⟩ := natsC_spec his
  have hl : is.length = 8 := Nat.eq_of_beq_eq_true hl
  match xs, hr with
  | [v], ⟨⟨vs, h1, h2⟩, _⟩ =>
    subst e1
    have hv : ∀ (l : List Nat) (vs : List Value), All2 (Ce.rel V) (l.map fun n => .I .u8 (.ofNat n)) vs → vs = l.map fun n : Nat => Value.int .u8 (n : Nat) := by
      intro l
      induction l with
      | nil => intro vs h; cases vs with
        | nil => rfl
        | cons => exact h.elim
      | cons a l ih => intro vs h; cases vs with
        | nil => exact h.elim
        | cons v vs =>
          have e : v = .int .u8 (a : Nat) := h.1
          rw [List.map_cons, ← ih vs h.2, e]
    have e2 := hv is vs h1
    subst h2
    have e3 : (Value.agg vs.toArray) = stV is := by rw [e2]; rfl
    rw [e3]
    refine (sn_gen is hl hb w).mono ?_
    rintro e w' ⟨rfl, hk⟩
    obtain ⟨s1, x1⟩ := Sim.same s hk
    exact ⟨_, rfl, V, rfl, s1, x1⟩
noncomputable def entP : List EnyF := [⟨184, putO⟩, ⟨261, genO⟩]
theorem entP_ok (vals : Nat → Nat × Nat) : ∀ e ∈ entP, YOkV vals e.f e.g := by
  intro e he
  simp only [entP, List.mem_cons, List.not_mem_nil, or_false] at he
  rcases he with rfl | rfl
  · exact fun hT _ _ _ _ q _ _ _ s hr => put_ok hT q s hr
  · exact fun hT _ _ _ _ q _ _ _ s hr => gen_ok hT q s hr
/-- A run from the start, with laws of one's own, that tells true. -/
theorem ranP {l : List EnyF} (hl : ∀ e ∈ l, YOkV (fun _ => (0, 0)) e.f e.g) {n : Nat} {f : FuncId} (q : ranOk ((clK (iyV l) n).call f [] (h0 numG tabG 0)) = true) (w : World) (hT : TabOK w) :
    Calls Tryz.prog f #[] w fun e w' => e = .returned (.bool true) ∧ Same w w' := by
  rw [clK_eq] at q
  unfold ranOk at q
  split at q
  case h_2 => cases q
  rename_i h hq
  split at q
  case h_2 => cases q
  rename_i hx
  obtain ⟨ob, hob⟩ : ∃ ob, w.heap[tabG]? = some ob := by
    have := hT 0 (by decide)
    unfold World.cell? at this
    cases h : w.heap[tabG]? with
    | none => rw [show w.heap[(⟨1, 0, none⟩ : Addr).block]? = w.heap[tabG]? from rfl, h] at this; cases this
    | some o => exact ⟨o, rfl⟩
  have hT' : ∀ w' : World, w'.heap[tabG]? = some ob → TabOK w' := fun w' hw' i hi => by
    have := hT i hi
    rw [← this]
    simp only [World.cell?, show w'.heap[1]? = w.heap[1]? from hw'.trans hob.symm]
  have hA := tab_ok noGo
  have s := sim0 (G := numG) (g := tabG) (k := 0) (vals := fun _ => (0, 0)) (ks := []) (by decide +kernel) hob (by simp)
  have ok := clO_ok (N := nat_lit 100000) hA (ixP_ok (ob := ob) (vals := fun _ => (0, 0)) (ks := [])) (iyV_ok hT' hl) izP_ok (fun C hC => drawO_ok hA ixP_ok hC (by kernel_rfl)) n
  refine (ok.call hq s (xs := []) trivial).mono ?_
  rintro e w' ⟨u, rfl, V, hz, s', x'⟩
  have hz : u = .bool true := hz
  subst hz
  exact ⟨rfl, same0 (by decide +kernel) hob (by simp) s' x' hx⟩
end Ev
end Go.Proofs.YtlkgdpdnhnakoaaGreatDoor
