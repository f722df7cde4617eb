/- LeW: a leaf's place of a key; a leaf's stacks with one of a key. -/
import Derived.Test.YtlocjamhdddbcaaGreatDoorInsC
namespace Go.Proofs.YtlocjamhdddbcaaGreatDoor
open Go.RowKit Go.Sort Go.Shelf

instance : Inhabited Rk := ⟨⟨[], none, 0, 0⟩⟩
def hasK (ks : List (List UInt8)) (key : List UInt8) : Bool := ks.any fun k => k == key
def plI (l : List Rk) (key : List UInt8) : Int := Lib.idxBy (fun _ (y : Rk) => y.key == key) l default
theorem plI_cases (l : List Rk) (key : List UInt8) : (plI l key = -1 ∧ hasK (l.map Rk.key) key = false) ∨ ∃ (k : Nat) (h : k < l.length), plI l key = (k : Int) ∧ hasK (l.map Rk.key) key = true ∧ l.find? (fun y => y.key == key) = some l[k] := by
  unfold plI Lib.idxBy hasK
  suffices H : ∀ (l : List Rk) (i : Nat), (Lib.idxByFrom (fun _ (y : Rk) => y.key == key) default l i = -1 ∧ (l.map Rk.key).any (fun k => k == key) = false) ∨ ∃ (k : Nat) (h : k < l.length), Lib.idxByFrom (fun _ (y : Rk) => y.key == key) default l i = ((i + k : Nat) : Int) ∧ (l.map Rk.key).any (fun k => k == key) = true ∧ l.find? (fun y => y.key == key) = some l[k] by
    rcases H l 0 with h | ⟨k, h, h1, h2⟩
    · exact .inl h
    · exact .inr ⟨k, h, by simpa using h1, h2⟩
  intro l
  induction l with
  | nil => intro i; exact .inl ⟨rfl, rfl⟩
  | cons x l ih =>
    intro i
    cases hx : (x.key == key)
    · rcases ih (i + 1) with ⟨h1, h2⟩ | ⟨k, h, h1, h2, h3⟩
      · exact .inl ⟨by simp only [Lib.idxByFrom, hx]; exact h1, by rw [List.map_cons, List.any_cons, hx, h2]; rfl⟩
      · exact .inr ⟨k + 1, by simpa using h, by simp only [Lib.idxByFrom, hx]; rw [show i + (k + 1) = i + 1 + k by omega]; exact h1, by rw [List.map_cons, List.any_cons, h2, Bool.or_true], by rw [List.find?_cons, hx]; exact h3⟩
    · exact .inr ⟨0, by simp, by simp [Lib.idxByFrom, hx], by rw [List.map_cons, List.any_cons, hx]; rfl, by rw [List.find?_cons, hx]; rfl⟩
set_option maxRecDepth 100000 in
theorem ixk_empty (a : Option Addr) (c : Nat) (fv : Value) (w : World) : Calls Tryz.prog 226 #[.slice a 0 c, fv] w fun e w' => e = .returned (.int .i64 (-1)) ∧ w' = w := by
  go_enter Tryz.func226, Tryz.ntmps226
  go_wp2_with fail
  go_loopw [8] (fun t wr => t = .int .i64 0 ∧ wr = w) (fun _ _ => 0)
  case atStart => exact ⟨rfl, rfl⟩
  case round =>
    obtain ⟨rfl, rfl⟩ := hrel
    go_wp2_with fail
    go_ret
    exact ⟨rfl, rfl⟩
set_option maxRecDepth 100000 in
theorem pred_place (key : List UInt8) (B : Nat) (w : World) (h1 : Blk w B #[.string ⟨key.toArray⟩] 9) :
    PredBelow Tryz.prog 227 #[.pointer (some ⟨B, 0, none⟩)] (fun x : Rk => .agg (rkE.enc x).toArray) (fun x => x.key == key) w := fun W x hb => by
  have k := Kept.of_below hb
  have b1 := h1.kept k (fun h => h)
  have p1 := cell_blk b1
  have z1 := b1.lt
  obtain ⟨xk, xa, xn, xc⟩ := x
  have HB := Lib.hid hb
  clear h1 b1 k hb
  show Calls Tryz.prog 227 #[.agg #[.string ⟨xk.toArray⟩, .slice xa xn xc], .pointer (some ⟨B, 0, none⟩)] W _
  cases hq : (xk == key)
  · go_enter Tryz.func227, Tryz.ntmps227
    go_wp2_with fail
    go_ret
    exact ⟨by simp [hq], HB.out.alloc HB.out.size _⟩
  · go_enter Tryz.func227, Tryz.ntmps227
    go_wp2_with fail
    go_ret
    exact ⟨by simp [hq], HB.out.alloc HB.out.size _⟩
set_option maxRecDepth 100000 in
theorem le_place (a : Option Addr) (n c : Nat) (l : List Rk) (key : List UInt8) (w : World) (hn : n = l.length) (hl : n ≤ 1000) (hat : ElsAt rkE w a l) :
    Calls Tryz.prog 159 #[.slice a n c, .string ⟨key.toArray⟩] w fun e w' => e = .returned (.int .i64 (plI l key)) ∧ Same w w' := by
  have IX := Lib.hid (show ∀ (W : World) (B : Nat), Same w W → Blk W B #[.string ⟨key.toArray⟩] 9 → Calls Tryz.prog 226 #[.slice a n c, .func (.func 227) #[] #[.pointer (some ⟨B, 0, none⟩)]] W fun e w' => e = .returned (.int .i64 (plI l key)) ∧ Same W w' from by
    intro W B k h1
    by_cases h0 : l = []
    · subst h0
      simp at hn
      subst hn
      exact (ixk_empty a c _ W).mono (fun e w' ⟨q1, q2⟩ => ⟨q1, q2 ▸ Kept.refl _ _⟩)
    · obtain ⟨b, off, rfl, hb⟩ := hat.there h0
      have hcon := AnyQ.slices_IndexFunc Tryz.ixkA 2 Tryz.isAgg108 Tryz.sizeOf108 (fun x : Rk => rkE.enc x) (fun _ => rfl) (fun x => x.key == key) 227 #[.pointer (some ⟨B, 0, none⟩)] (enters_of Tryz.func227 (by kernel_rfl) rfl) b off n c l W (pred_place key B W h1) (by omega) (by omega) (Nat.lt_of_lt_of_le hb k.size) (fun j hj i v hi => by
        have hx : l[j]? = some l[j]! := by rw [List.getElem?_eq_getElem hj, getElem!_pos l j hj]
        have := (hat.same k).get hx i hi
        rw [Nat.add_assoc]; exact this)
      change Calls Tryz.prog 226 _ _ _ at hcon
      rw [List.take_of_length_le (by omega)] at hcon
      exact hcon.mono (fun e w' ⟨q1, q2⟩ => ⟨q1, Kept.of_below q2⟩))
  clear hn hat
  go_enter Tryz.func159, Tryz.ntmps159
  go_wp2_with fail
  refine Calls.boxes1 ?_
  intro W b1 k1 z1
  refine (IX.out W _ k1 b1).mono ?_
  rintro e w2 ⟨rfl, k2⟩
  go_wp2_with fail
  go_ret
  exact ⟨rfl, k1.trans k2⟩
/-- Where a key is to stand: behind the last one, from the end on, that is less. -/
def atK (ks : List (List UInt8)) (key : List UInt8) : Nat → Nat
  | 0 => 0
  | n + 1 => match ks[n]? with
    | some k => match decide (k < key) with
      | true => n + 1
      | false => atK ks key n
    | none => n + 1
theorem atK_le (ks : List (List UInt8)) (key : List UInt8) : ∀ n, atK ks key n ≤ n
  | 0 => Nat.le_refl _
  | n + 1 => by
    unfold atK
    split
    · split
      · exact Nat.le_refl _
      · exact Nat.le_succ_of_le (atK_le ks key n)
    · exact Nat.le_refl _
def WithP (w w' : World) (a : Option Addr) (n c : Nat) (l : List Rk) (key : List UInt8) (ks : List (List UInt8)) (r : Value) : Prop :=
  if hasK ks key = true then r = .slice a n c else OwnE rkE w' w.heap.size 108 r (l.take (atK ks key n) ++ ⟨key, none, 0, 0⟩ :: l.drop (atK ks key n))
def WithQ (w : World) (a : Option Addr) (n c : Nat) (l : List Rk) (key : List UInt8) (e : Ending) (w' : World) : Prop := ∃ r, e = .returned r ∧ WithP w w' a n c l key (l.map Rk.key) r ∧ Same w w'
theorem blessK : ∀ (x y : List UInt8), Op.bytesLess x y = decide (x < y)
  | [], [] => by simp [Op.bytesLess]
  | _ :: _, [] => by simp [Op.bytesLess]
  | [], _ :: _ => by simp [Op.bytesLess]
  | a :: x, b :: y => by
    rw [Op.bytesLess, blessK x y]
    simp only [List.cons_lt_cons_iff]
    by_cases h1 : a < b <;> by_cases h2 : a = b <;> by_cases h3 : x < y <;> simp [h1, h2, h3]
theorem atK_step {ks : List (List UInt8)} {key x : List UInt8} {j : Nat} (h : ks[j]? = some x) : atK ks key (j + 1) = if Op.bytesLess x key = true then j + 1 else atK ks key j := by
  rw [atK, h, blessK]
  show (match decide (x < key) with | true => j + 1 | false => atK ks key j) = _
  generalize decide (x < key) = q
  cases q <;> rfl
set_option maxRecDepth 100000 in
set_option maxHeartbeats 1600000 in
theorem le_with (a : Option Addr) (n c : Nat) (l : List Rk) (key : List UInt8) (w : World) (hn : n = l.length) (hl : n ≤ 1000) (hat : ElsAt rkE w a l) (ha : ∀ x, a = some x → ∃ b off, x = ⟨b, off, none⟩) :
    Calls Tryz.prog 235 #[.slice a n c, .string ⟨key.toArray⟩] w (WithQ w a n c l key) := by
  have PL := Lib.hid (le_place a n c l key w hn hl hat)
  have CL := Lib.hid (fun w' (k : Same w w') => clk_rk a n c l w' hn (by omega) (hat.same k) ha)
  have HN := Lib.hid hn
  have HAT := Lib.hid hat
  have HA := Lib.hid ha
  have HL := Lib.hid hl
  have FC := Lib.hid (plI_cases l key)
  clear hn hat ha hl
  go_enter Tryz.func235, Tryz.ntmps235
  go_wp2_with fail
  with_reducible refine PL.out.mono ?_
  rintro e w1 ⟨rfl, k1⟩
  have K1 := Lib.hid k1
  clear k1 PL
  rcases FC.out with ⟨e1, e2⟩ | ⟨k, hk, e1, e2, -⟩
  case inr =>
    rw [e1]
    have g0 : (0 : Int) ≤ (k : Int) := by omega
    have E2 := Lib.hid e2
    clear e1 e2
    go_wp2_with fail
    go_ret
    exact ⟨.slice a n c, rfl, by unfold WithP; rw [if_pos E2.out], K1.out⟩
  case inl =>
    rw [e1]
    have E2 := Lib.hid e2
    clear e1 e2 FC
    have FIN := Lib.hid (show ∀ (i : Nat) (w3 : World) (v : Value) (vb : Nat), i ≤ n → atK (l.map Rk.key) key n = i → Same w w3 → OwnE rkE w3 w.heap.size 108 v l → Blk w3 vb #[.string ⟨key.toArray⟩, .slice none 0 0] 108 → (∀ g, v.ownBlock = some g → vb ≠ g) →
        Calls Tryz.prog 201 #[v, .int .i64 (i : Nat), .slice (some ⟨vb, 0, none⟩) 1 1] w3 (WithQ w a n c l key) from by
      intro i w3 v vb hi hp k3 ho hb hne
      refine (ins_rk ho k3.size (by have := HN.out; have := HL.out; omega) i (by have := HN.out; omega) ⟨key, none, 0, 0⟩ vb hb hne).mono ?_
      rintro e w' ⟨⟨v', rfl, h1⟩, h2⟩
      refine ⟨_, rfl, ?_, k3.step h2 (fun j hj q => by omega)⟩
      unfold WithP
      rw [if_neg (by rw [E2.out]; decide), hp]
      exact h1)
    go_wp2_with fail
    go_loopw [5] (fun t wr => ∃ (i : Nat), t = .int .i64 i ∧ i ≤ n ∧ atK (l.map Rk.key) key n = atK (l.map Rk.key) key i ∧ wr = w1) (fun t _ => (intOf t).toNat)
    case atStart => exact ⟨n, rfl, by omega, rfl, rfl⟩
    case round =>
      obtain ⟨i, rfl, hi, hpos, rfl⟩ := hrel
      have HPOS := Lib.hid hpos
      have HI := Lib.hid hi
      clear hpos
      by_cases h0 : i = 0
      · subst h0
        have HP0 := Lib.hid (show atK (l.map Rk.key) key n = 0 from HPOS.out)
        clear HPOS
        simp only [Int.natCast_zero]
        go_wp2_with fail
        with_reducible refine (CL.out wr K1.out).mono ?_
        rintro e w3 ⟨⟨v, rfl, ho⟩, k3⟩
        have HO := Lib.hid ho
        have K3 := Lib.hid (K1.out.trans k3)
        have KS := Lib.hid k3
        clear ho k3 CL
        go_wp2_with fail
        have FI := FIN.out 0 (w3.alloc (.cells #[.string ⟨key.toArray⟩, .slice none 0 0] 108)) v w3.heap.size (by omega) HP0.out (K3.out.alloc _) ((HO.out.same ((Kept.refl _ _).alloc _)).rebase (by have := K1.out.size; exact this)) (Blk.new _ _ _) (fun g hg => by have := (HO.out.far g hg).2; omega)
        simp only [Int.natCast_zero] at FI
        with_reducible refine FI.mono ?_
        rintro e w' hp
        have HP := Lib.hid hp
        obtain ⟨v', rfl, -⟩ := hp
        go_wp2_with fail
        go_ret
        exact HP.out
      · obtain ⟨j, rfl⟩ : ∃ j, i = j + 1 := ⟨i - 1, by omega⟩
        have hjl : j < l.length := by have := HN.out; omega
        rcases (HAT.out.same K1.out) with hnil | ⟨b, off, rfl, hbl, hc⟩
        · rw [hnil] at hjl; simp at hjl
        obtain ⟨x, hx⟩ : ∃ x, l[j] = x := ⟨_, rfl⟩
        have hxs : l[j]? = some x := by rw [List.getElem?_eq_getElem hjl, hx]
        have c0 : wr.cell? ⟨b, off + j * 2, none⟩ = some (.string ⟨x.key.toArray⟩) := by
          have := ElsAt.get (E := rkE) (.inr ⟨b, off, rfl, hbl, hc⟩) hxs 0 rfl
          exact this
        have hl1 := HL.out
        have g1 : (j : Int) < (n : Int) := by omega
        have g0 : (0 : Int) ≤ (j : Int) := by omega
        have g2 : (0 : Int) < ((j + 1 : Nat) : Int) := by omega
        have g3 : ((j + 1 : Nat) : Int) - 1 = (j : Int) := by omega
        have g4 : IntKind.i64.wrap (((j + 1 : Nat) : Int) - 1) = (j : Int) := by rw [IntKind.wrap_i64]; omega
        have PJ := Lib.hid (atK_step (key := key) (show (l.map Rk.key)[j]? = some x.key by rw [List.getElem?_map, hxs]; rfl))
        clear hc hx hxs
        obtain ⟨xk, hxk⟩ : ∃ xk, x.key = xk := ⟨_, rfl⟩
        rw [hxk] at c0 PJ
        clear hxk
        cases fv : Op.bytesLess xk key
        · have PJ2 := Lib.hid (show atK (l.map Rk.key) key n = atK (l.map Rk.key) key j from by rw [HPOS.out, PJ.out, fv]; rfl)
          clear PJ HPOS FIN
          go_wp2_with fail
          exact ⟨⟨j, rfl, by omega, PJ2.out, trivial⟩, by simp [intOf]⟩
        · have PJ2 := Lib.hid (show atK (l.map Rk.key) key n = j + 1 from by rw [HPOS.out, PJ.out, fv]; rfl)
          clear PJ HPOS
          go_wp2_with fail
          with_reducible refine (CL.out wr K1.out).mono ?_
          rintro e w3 ⟨⟨v, rfl, ho⟩, k3⟩
          have HO := Lib.hid ho
          have K3 := Lib.hid (K1.out.trans k3)
          clear ho k3 CL
          go_wp2_with fail
          have FI := FIN.out (j + 1) (w3.alloc (.cells #[.string ⟨key.toArray⟩, .slice none 0 0] 108)) v w3.heap.size (by omega) PJ2.out (K3.out.alloc _) ((HO.out.same ((Kept.refl _ _).alloc _)).rebase (by have := K1.out.size; exact this)) (Blk.new _ _ _) (fun g hg => by have := (HO.out.far g hg).2; omega)
          rw [show ((j + 1 : Nat) : Int) = (j : Int) + 1 from rfl] at FI
          with_reducible refine FI.mono ?_
          rintro e w' hp
          have HP := Lib.hid hp
          obtain ⟨v', rfl, -⟩ := hp
          go_wp2_with fail
          go_ret
          exact HP.out
end Go.Proofs.YtlocjamhdddbcaaGreatDoor
