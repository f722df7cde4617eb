/- EvAd: conflict.Add as a law of its own, for runs. -/
import Derived.Test.YtlocjamhdddbcaaGreatDoorEvWi
import Derived.Test.YtlocjamhdddbcaaGreatDoorCfa
import Derived.Test.YtlocjamhdddbcaaGreatDoorEvK
namespace Go.Proofs.YtlocjamhdddbcaaGreatDoor
namespace Ev
noncomputable def strRow : List Ce → Option (List (List UInt8))
  | [] => some []
  | .S k :: r => match strRow r with
    | some l => some (k :: l)
    | none => none
  | _ => none
theorem strRow_at {V : Vn} : ∀ {row : List Ce} {vs : List Value} {ks : List (List UInt8)}, strRow row = some ks → All2 (Ce.rel V) row vs → stE.all ks = vs ∧ row.length = ks.length
  | [], [], _, q, _ => by cases q; exact ⟨rfl, rfl⟩
  | .S k :: r, v :: vs, ks, q, ⟨h1, h2⟩ => by
    unfold strRow at q
    split at q
    case h_2 => cases q
    rename_i l hl
    injection q with q; subst q
    obtain ⟨e1, e2⟩ := strRow_at hl h2
    have h1 : v = .string ⟨k.toArray⟩ := h1
    exact ⟨by rw [Enc.all_cons, e1, h1]; rfl, by simp [e2]⟩
theorem strs_rel (V : Vn) : ∀ l : List (List UInt8), All2 (Ce.rel V) (l.map .S) (stE.all l)
  | [] => trivial
  | k :: l => by
    rw [Enc.all_cons]
    exact ⟨rfl, strs_rel V l⟩
def addL (ks : List (List UInt8)) (key : List UInt8) : List (List UInt8) := match hasK ks key with
  | true => ks
  | false => ks.take (posK ks key ks.length) ++ key :: ks.drop (posK ks key ks.length)
theorem addL_eq (ks : List (List UInt8)) (key : List UInt8) : addL ks key = addK ks key := by
  have hk : hasK ks key = true ↔ key ∈ ks := by
    unfold hasK
    rw [List.any_eq_true]
    constructor
    · rintro ⟨x, hx, e⟩; rw [← eq_of_beq e]; exact hx
    · intro h; exact ⟨key, h, beq_self_eq_true key⟩
  unfold addL addK
  by_cases h : key ∈ ks
  · rw [if_pos h, hk.2 h]
  · rw [if_neg h]
    have : hasK ks key = false := by
      cases q : hasK ks key
      · rfl
      · exact absurd (hk.1 q) h
    rw [this]
theorem addK_pos (ks : List (List UInt8)) (key : List UInt8) : 1 ≤ (addK ks key).length := by
  unfold addK
  split
  · rename_i h; exact List.length_pos_of_mem h
  · simp only [List.length_append, List.length_cons]; omega
noncomputable def plainC (a : Option (Nat × Nat)) (c : Cap) : Bool := match a, c with
  | none, .k n => Nat.beq n 0
  | none, .e _ => false
  | some _, _ => true
noncomputable def addO (args : List AV) (h : Hp Xo) : Option (AV × Hp Xo) := match args with
  | [.V (.C (.L a n c)), .V (.C (.S key))] => match plainC a c, Nat.ble n (nat_lit 500), rowOf h (nat_lit 1) (.L a n c) n with
    | true, true, some row => match strRow row with
      | some ks => some (.V (.C (.L (some (h.next, 0)) (addL ks key).length (.e 0))), h.add (.cells (T.ofL ((addL ks key).map .S)) (addL ks key).length (some 1)))
      | none => none
    | _, _, _ => none
  | _ => none
theorem add_ok : YOk 116 addO := by
  intro ob vals ks0 hT args h h' z q V w xs s hr
  unfold addO at q
  split at q
  case h_2 => cases q
  rename_i a n c key
  split at q
  case h_2 => cases q
  rename_i row hp0 hn hrow
  split at q
  case h_2 => cases q
  rename_i ks hks
  injection q with q; injection q with q1 q2; subst q1; subst q2
  have hn : n ≤ 500 := Nat.le_of_ble_eq_true hn
  match xs, hr with
  | [v, u], ⟨h1, h2, _⟩ =>
    have h2 : u = .string ⟨key.toArray⟩ := h2
    subst h2
    obtain ⟨p, cap, vs, rfl, hvs, hlen, hat⟩ := rowOf_vals s hrow (show (Ce.L a n c).rel V v from h1)
    obtain ⟨e1, e2⟩ := strRow_at hks hvs
    have hl : n = ks.length := by
      have hlen' : row.length = n * 1 := hlen
      omega
    have hels : ElsAt stE w p ks := by
      rcases hat with h0 | ⟨b, o, rfl, hb, hc⟩
      · exact .inl (List.eq_nil_of_length_eq_zero (hl.symm.trans h0))
      · exact .inr ⟨b, o, rfl, hb, fun j u hj => hc j u (by rw [← e1]; exact hj)⟩
    have hplain : PlainA p cap := by
      cases a with
      | none => cases c with
        | k c =>
          have h1 : Value.slice p n cap = .slice none n c := h1
          injection h1 with e3 _ e4
          exact .inl ⟨e3, e4.trans (Nat.eq_of_beq_eq_true hp0)⟩
        | e d => cases hp0
      | some a => cases c with
        | k c => obtain ⟨y, ⟨pl, _, rfl⟩, e⟩ := (show ∃ y, pR V a y ∧ Value.slice p n cap = .slice (some y) n c from h1); injection e with e _ _; exact .inr ⟨_, _, e⟩
        | e d => obtain ⟨pl, _, _, e⟩ := (show ∃ q, V a.1 = some q ∧ d + n ≤ q.cp ∧ Value.slice p n cap = .slice (some ⟨q.bl, q.of + a.2, none⟩) n (q.cp - d) from h1); injection e with e _ _; exact .inr ⟨_, _, e⟩
    refine (cf_add p n cap ks hl hn key w hels hplain).mono ?_
    rintro e w' ⟨⟨rv, rfl, hpost⟩, hk⟩
    rw [addL_eq]
    obtain ⟨new, hnw⟩ : ∃ new, addK ks key = new := ⟨_, rfl⟩
    have hpos := addK_pos ks key
    rw [hnw] at hpost hpos ⊢
    have hn0 : V h.next = none := s.new _ (Nat.le_refl _)
    have hnew := strs_rel V new
    rcases hpost.2 with ⟨_, h0⟩ | ⟨g, cap', cur, rfl, hg, hblk, hnc, hm, hcs, htk⟩
    · omega
    have a3 : stE.n = 1 := rfl
    rw [a3] at hcs htk
    obtain ⟨s1, x1⟩ := Sim.addAt (ob := .cells (T.ofL (new.map .S)) new.length (some 1)) (p := ⟨g, 0, cap', 0, 0⟩) s hg rfl
      ⟨cur, _, (0, 0), hblk, .inl rfl, fun j x hj gx => by
        obtain ⟨v, v1, v2⟩ := hnew.get (T.get_ofL gx)
        refine ⟨v, ?_, v2.mono (named_le hn0)⟩
        rw [← htk, List.getElem?_take, if_pos (by omega), Array.getElem?_toList] at v1
        show cur[0 + j]? = some v
        rw [Nat.zero_add]; exact v1, by show 0 + new.length ≤ cur.size; omega, fun k' hk' => by cases hk'; show cur.size = 0 + cap' * 1; omega⟩
      (fun j hj => hk.block j hj (fun h => h)) hk.size ⟨hk.os, hk.tape, hk.output⟩
    exact ⟨_, rfl, _, ⟨_, named_self _ _ _, by show 0 + new.length ≤ cap'; omega, rfl⟩, s1, x1⟩
/-- A run from the start, with laws of one's own, that tells true. -/
theorem ranL {l : List EnyF} (hl : ∀ e ∈ l, YOkV (fun _ => (0, 0)) e.f e.g) {n : Nat} {f : FuncId} (q : ranOk ((clK (iyV l) n).call f [] (h0 numG tabG 0)) = true) (w : World) (hT : TabOK w) :
    Calls Tryz.prog f #[] w fun e w' => e = .returned (.bool true) ∧ Same w w' := by
  rw [clK_eq] at q
  unfold ranOk at q
  split at q
  case h_2 => cases q
  rename_i h hq
  split at q
  case h_2 => cases q
  rename_i hx
  obtain ⟨ob, hob⟩ : ∃ ob, w.heap[tabG]? = some ob := by
    have := hT 0 (by decide)
    unfold World.cell? at this
    cases h : w.heap[tabG]? with
    | none => rw [show w.heap[(⟨1, 0, none⟩ : Addr).block]? = w.heap[tabG]? from rfl, h] at this; cases this
    | some o => exact ⟨o, rfl⟩
  have hT' : ∀ w' : World, w'.heap[tabG]? = some ob → TabOK w' := fun w' hw' i hi => by
    have := hT i hi
    rw [← this]
    simp only [World.cell?, show w'.heap[1]? = w.heap[1]? from hw'.trans hob.symm]
  have hA := tab_ok noGo
  have s := sim0 (G := numG) (g := tabG) (k := 0) (vals := fun _ => (0, 0)) (ks := []) (by decide +kernel) hob (by simp)
  have ok := clO_ok (N := nat_lit 100000) hA (ixP_ok (ob := ob) (vals := fun _ => (0, 0)) (ks := [])) (iyV_ok hT' hl) izP_ok (fun C hC => drawO_ok hA ixP_ok hC (by kernel_rfl)) n
  refine (ok.call hq s (xs := []) trivial).mono ?_
  rintro e w' ⟨u, rfl, V, hz, s', x'⟩
  have hz : u = .bool true := hz
  subst hz
  exact ⟨rfl, same0 (by decide +kernel) hob (by simp) s' x' hx⟩
/-- A law of one's own that asks nothing of the values. -/
theorem YOk.v {f : FuncId} {g : List AV → Hp Xo → Option (AV × Hp Xo)} (h : YOk f g) (vals : Nat → Nat × Nat) : YOkV vals f g := fun hT _ _ _ _ q _ _ _ s hr => h hT q s hr
end Ev
end Go.Proofs.YtlocjamhdddbcaaGreatDoor
