/- EvWi: leaf.with as a law of its own, for runs. -/
import Derived.Test.YtlocjamhdddbcaaGreatDoorEvAr
import Derived.Test.YtlocjamhdddbcaaGreatDoorLeW
namespace Go.Proofs.YtlocjamhdddbcaaGreatDoor
namespace Ev
theorem Sim.addAt {X : Type} {E : Xs X} {G : Nat} {V : Vn} {h : Hp X} {w w' : World} (s : Sim E G V h w) {ob : Ob X} {p : Pl} {g : Nat} (hg : w.heap.size ≤ g) (hp : foot E ob p = [g]) (ho : ObR E (named V h.next p) w' p ob)
    (hj : ∀ j, j < w.heap.size → w'.heap[j]? = w.heap[j]?) (hs : w.heap.size ≤ w'.heap.size) (hO : Outer w w') :
    Sim E G (named V h.next p) (h.add ob) w' ∧ Ext E V h w (named V h.next p) (h.add ob) w' := by
  have hn : V h.next = none := s.new _ (Nat.le_refl _)
  refine ⟨(s.name p).put (named_self _ _ _) ho (fun j hl _ => hj j hl) hs ?_, ⟨named_le hn, hs, Nat.le_succ _, fun j hl hnl => ⟨hj j hl, fun l => ?_⟩, fun b hb => named_ne (Nat.ne_of_lt hb), hO⟩⟩
  · intro b' ob' p' j g' hne q hf hf'
    rw [hp, List.mem_singleton] at hf'
    obtain ⟨p0, q1, q2⟩ := (s.name p).ob b' ob' g'
    rw [q] at q1; cases q1
    have := q2.lt j hf
    omega
  · rcases Live.put (h := ⟨h.t, h.next + 1⟩) (named_self _ _ _) l with q | q
    · exact hnl (q.name s)
    · rw [hp, List.mem_singleton] at q; omega
noncomputable def rowKeys : List Ce → Option (List (List UInt8))
  | [] => some []
  | .S k :: .L _ _ _ :: r => match rowKeys r with
    | some l => some (k :: l)
    | none => none
  | _ => none
theorem rowKeys_at {V : Vn} : ∀ {row : List Ce} {vs : List Value} {ks : List (List UInt8)}, rowKeys row = some ks → All2 (Ce.rel V) row vs → ∃ l : List Rk, l.map Rk.key = ks ∧ rkE.all l = vs
  | [], [], _, q, _ => by cases q; exact ⟨[], rfl, rfl⟩
  | .S k :: .L a n c :: r, v1 :: v2 :: vs, ks, q, ⟨h1, h2, h3⟩ => by
    unfold rowKeys at q
    split at q
    case h_2 => cases q
    rename_i l hl
    injection q with q; subst q
    obtain ⟨l', e1, e2⟩ := rowKeys_at hl h3
    have h1 : v1 = .string ⟨k.toArray⟩ := h1
    obtain ⟨p, cap, e⟩ := slice_of (show (AV.V (.C (.L a n c))).rel V v2 from h2)
    exact ⟨⟨k, p, n, cap⟩ :: l', by simp [e1], by rw [Enc.all_cons, e2, h1, e]; rfl⟩
  | .S k :: .L a n c :: r, [_], _, _, ⟨_, h⟩ => h.elim
noncomputable def withO (args : List AV) (h : Hp Xo) : Option (AV × Hp Xo) := match args with
  | [.V (.C (.L a n c)), .V (.C (.S key))] => match Nat.ble n (nat_lit 1000), rowOf h (nat_lit 2) (.L a n c) n with
    | true, some row => match rowKeys row with
      | some ks => match hasK ks key with
        | true => some (.V (.C (.L a n c)), h)
        | false => nseq (Nat.mul (nat_lit 2) (atK ks key n)) fun i => some (.V (.C (.L (some (h.next, 0)) (Nat.succ n) (.e 0))), h.add (.cells (T.ofL (row.take i ++ (.S key :: .L none 0 (.k 0) :: row.drop i))) (Nat.mul (Nat.succ n) (nat_lit 2)) (some 2)))
      | none => none
    | _, _ => none
  | _ => none
/-- A row's values. -/
theorem rowOf_vals {E : Xs Xo} {G : Nat} {V : Vn} {h : Hp Xo} {w : World} (s : Sim E G V h w) {k n m : Nat} {a : Option (Nat × Nat)} {c : Cap} {row : List Ce} (q : rowOf h k (.L a m c) n = some row) {v : Value} (hv : (Ce.L a m c).rel V v) :
    ∃ p cap vs, v = .slice p m cap ∧ All2 (Ce.rel V) row vs ∧ row.length = n * k ∧ (n = 0 ∨ ∃ b o, p = some ⟨b, o, none⟩ ∧ b < w.heap.size ∧ ∀ j u, vs[j]? = some u → w.cell? ⟨b, o + j, none⟩ = some u) := by
  obtain ⟨p, cap, rfl⟩ := slice_of (show (AV.V (.C (.L a m c))).rel V v from hv)
  have hlen := rowOf_len q
  refine ⟨p, cap, ?_⟩
  unfold rowOf at q
  split at q
  case h_1 =>
    split at q
    case h_1 => injection q with q; subst q; exact ⟨[], rfl, trivial, hlen, .inl rfl⟩
    case h_2 => cases q
  case h_2 b o m' c' heq =>
    injection heq with e1 e2 e3
    subst e1 e2 e3
    split at q
    case h_1 => injection q with q; subst q; exact ⟨[], rfl, trivial, hlen, .inl rfl⟩
    case h_2 =>
      split at q
      case h_2 => cases q
      rename_i t q0 ext hg
      split at q
      case h_2 => cases q
      rename_i hle
      have hp : ∃ pl : Pl, V b = some pl ∧ p = some ⟨pl.bl, pl.of + o, none⟩ := by
        cases c with
        | k c => obtain ⟨y, ⟨pl, hp, rfl⟩, e⟩ := hv; injection e with e _ _; exact ⟨pl, hp, e⟩
        | e d => obtain ⟨pl, hp, _, e⟩ := hv; injection e with e _ _; exact ⟨pl, hp, e⟩
      obtain ⟨pl, hp, rfl⟩ := hp
      obtain ⟨pl', hp', cs, ty, fz, hc, _, hcr⟩ := s.ob _ _ hg
      rw [hp] at hp'; cases hp'
      obtain ⟨vs, s1, s2, s3⟩ := hcr.getL (Nat.le_of_ble_eq_true hle) q
      refine ⟨vs, rfl, s1, hlen, .inr ⟨pl.bl, pl.of + o, rfl, (Array.getElem?_eq_some_iff.1 hc).1, fun j u hj => ?_⟩⟩
      rw [cell_at hc]
      exact s3 j u hj
  case h_3 => rename_i e; cases e
  case h_4 => cases q
theorem with_ok : YOk 235 withO := by
  intro ob vals ks hT args h h' z q V w xs s hr
  unfold withO at q
  split at q
  case h_2 => cases q
  rename_i a n c key
  split at q
  case h_2 => cases q
  rename_i row hn hrow
  split at q
  case h_2 => cases q
  rename_i kk hkk
  have hn : n ≤ 1000 := Nat.le_of_ble_eq_true hn
  match xs, hr with
  | [v, u], ⟨h1, h2, _⟩ =>
    have h2 : u = .string ⟨key.toArray⟩ := h2
    subst h2
    obtain ⟨p, cap, vs, rfl, hvs, hlen, hat⟩ := rowOf_vals s hrow (show (Ce.L a n c).rel V v from h1)
    obtain ⟨l, e1, e2⟩ := rowKeys_at hkk hvs
    have hl : l.length = n := by
      have hlen' : row.length = n * 2 := hlen
      have h1 := hvs.length
      have h2 := rkE.all_len l
      rw [e2] at h2
      have h3 : rkE.n = 2 := rfl
      rw [h3] at h2
      omega
    have hels : ElsAt rkE w p l := by
      rcases hat with h0 | ⟨b, o, rfl, hb, hc⟩
      · exact .inl (List.eq_nil_of_length_eq_zero (hl.trans h0))
      · exact .inr ⟨b, o, rfl, hb, fun j u hj => hc j u (by rw [← e2]; exact hj)⟩
    have hnone : ∀ x, p = some x → ∃ b off, x = ⟨b, off, none⟩ := fun x hx => by
      subst hx
      cases a with
      | none => cases c with
        | k c => have h1 : Value.slice (some x) n cap = .slice none n c := h1; injection h1 with e _ _; cases e
        | e d => exact (show False from h1).elim
      | some a => cases c with
        | k c => obtain ⟨y, ⟨pl, _, rfl⟩, e⟩ := (show ∃ y, pR V a y ∧ Value.slice (some x) n cap = .slice (some y) n c from h1); injection e with e _ _; cases e; exact ⟨_, _, rfl⟩
        | e d => obtain ⟨pl, _, _, e⟩ := (show ∃ q, V a.1 = some q ∧ d + n ≤ q.cp ∧ Value.slice (some x) n cap = .slice (some ⟨q.bl, q.of + a.2, none⟩) n (q.cp - d) from h1); injection e with e _ _; cases e; exact ⟨_, _, rfl⟩
    refine (le_with p n cap l key w hl.symm hn hels hnone).mono ?_
    rintro e w' ⟨rv, rfl, hpost, hk⟩
    rw [e1] at hpost
    unfold WithP at hpost
    split at q
    · rename_i hh
      rw [hh] at hpost
      simp only [if_true] at hpost
      injection q with q; injection q with q1 q2; subst q1; subst q2
      obtain ⟨s1, x1⟩ := Sim.same s hk
      exact ⟨_, rfl, V, by rw [hpost]; exact h1, s1, x1⟩
    · rename_i hh
      rw [nseq_eq] at q
      rw [hh] at hpost
      simp only [Bool.false_eq_true, if_false] at hpost
      injection q with q; injection q with q1 q2; subst q1; subst q2
      have hi : atK kk key n ≤ n := atK_le kk key n
      obtain ⟨i, hi'⟩ : ∃ i, atK kk key n = i := ⟨_, rfl⟩
      rw [hi'] at hpost hi
      have h2i : Nat.mul (nat_lit 2) (atK kk key n) = i * 2 := by rw [hi']; exact Nat.mul_comm 2 i
      rw [h2i]
      have hlen2 : (l.take i ++ (⟨key, none, 0, 0⟩ : Rk) :: l.drop i).length = n + 1 := by simp; omega
      have hcells : rkE.all (l.take i ++ (⟨key, none, 0, 0⟩ : Rk) :: l.drop i) = vs.take (i * 2) ++ ((.string ⟨key.toArray⟩ : Value) :: .slice none 0 0 :: vs.drop (i * 2)) := by
        have a1 := rkE.all_take l i
        have a2 := rkE.all_drop l i
        have a3 : rkE.n = 2 := rfl
        rw [a3, e2] at a1 a2
        rw [rkE.all_append, rkE.all_cons, a1, a2]
        rfl
      have hnew : All2 (Ce.rel V) (row.take (i * 2) ++ (.S key :: .L none 0 (.k 0) :: row.drop (i * 2))) (rkE.all (l.take i ++ (⟨key, none, 0, 0⟩ : Rk) :: l.drop i)) := by
        rw [hcells]
        exact (hvs.take _).append ⟨rfl, rfl, hvs.drop _⟩
      have hn0 : V h.next = none := s.new _ (Nat.le_refl _)
      rcases hpost.2 with ⟨_, h0⟩ | ⟨g, cap', cur, rfl, hg, hblk, hnc, hm, hcs, htk⟩
      · omega
      rw [hlen2] at hnc htk
      have a3 : rkE.n = 2 := rfl
      rw [a3] at hcs htk
      rw [hlen2]
      obtain ⟨s1, x1⟩ := Sim.addAt (ob := .cells (T.ofL (row.take (i * 2) ++ (.S key :: .L none 0 (.k 0) :: row.drop (i * 2)))) (Nat.mul (Nat.succ n) (nat_lit 2)) (some 2)) (p := ⟨g, 0, cap', 0, 0⟩) s hg rfl
        ⟨cur, _, (0, 0), hblk, .inl rfl, fun j x hj gx => by
          have hj : j < (n + 1) * 2 := hj
          obtain ⟨v, v1, v2⟩ := hnew.get (T.get_ofL gx)
          refine ⟨v, ?_, v2.mono (named_le hn0)⟩
          rw [← htk, List.getElem?_take, if_pos hj, Array.getElem?_toList] at v1
          show cur[0 + j]? = some v
          rw [Nat.zero_add]; exact v1, by show 0 + (n + 1) * 2 ≤ cur.size; omega, fun k' hk' => by cases hk'; show cur.size = 0 + cap' * 2; omega⟩
        (fun j hj => hk.block j hj (fun h => h)) hk.size ⟨hk.os, hk.tape, hk.output⟩
      exact ⟨_, rfl, _, ⟨_, named_self _ _ _, by show 0 + (n + 1) ≤ cap'; omega, rfl⟩, s1, x1⟩
end Ev
end Go.Proofs.YtlocjamhdddbcaaGreatDoor
