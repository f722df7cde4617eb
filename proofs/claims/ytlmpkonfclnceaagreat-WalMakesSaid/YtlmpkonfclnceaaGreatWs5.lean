/- Texts in sectors: Read. -/
import Derived.Test.YtlmpkonfclnceaaGreatWs4
namespace Go.Proofs.YtlmpkonfclnceaaGreat
open Go.RowKit Go.Sort

theorem prs_fuel (p : List Nat) : ∀ f, p.length ≤ f → prs f p = prs p.length p := by
  suffices h : ∀ n (p : List Nat), p.length ≤ n → ∀ f, p.length ≤ f → prs f p = prs p.length p from h p.length p (Nat.le_refl _)
  intro n
  induction n with
  | zero => intro p hp f _; rw [List.eq_nil_of_length_eq_zero (by omega : p.length = 0)]; cases f <;> rfl
  | succ n ih =>
    intro p hp f hf
    cases p with
    | nil => cases f <;> rfl
    | cons x r =>
      simp only [List.length_cons] at hp hf ⊢
      cases f with
      | zero => omega
      | succ f =>
        simp only [prs]
        split
        · have h1 : (r.drop x).length ≤ n := by rw [List.length_drop]; omega
          have h2 : (r.drop x).length ≤ r.length := by rw [List.length_drop]; omega
          rw [ih _ h1 f (by omega), ih _ h1 r.length h2]
        · rfl
theorem prs_step (x : Nat) (r : List Nat) : prs (x :: r).length (x :: r) = if x ≤ r.length then (prs (r.drop x).length (r.drop x)).map fun l => r.take x :: l else none := by
  simp only [List.length_cons, prs]
  rw [prs_fuel (r.drop x) r.length (by rw [List.length_drop]; omega)]
abbrev OwnT (w : World) (base : Nat) (v : Value) (l : List (List Nat)) : Prop := OwnE strE w base 9 v l
theorem strInfo : (Tryz.prog.info? 9).map (fun i => (i.zero, i.size, i.bytes)) = some (some (.string ByteArray.empty), 1, 16) := by kernel_rfl
/-- One text more. -/
theorem txt_append {w : World} {base : Nat} {v : Value} {l : List (List Nat)} (h : OwnT w base v l) (hb : base ≤ w.heap.size) (hl : l.length ≤ 100000) (s : List Nat) :
    ∃ v' w', (Builtin.append_ #[46, 46] 46 #[v, .slice (some ⟨w.heap.size, 0, none⟩) 1 1]).run Tryz.prog (w.alloc (.cells #[.string (strN s)] 9)) = .ok v' w' ∧ OwnT w' base v' (l ++ [s]) ∧ Kept (fun j => base ≤ j) w w' := by
  have kA : Same w (w.alloc (.cells #[.string (strN s)] 9)) := (Kept.refl _ w).alloc _
  have hone : ElsAt strE (w.alloc (.cells #[.string (strN s)] 9)) (some ⟨w.heap.size, 0, none⟩) [s] := elsAt_one (E := strE) (x := s) (Blk.new w _ _) rfl
  obtain ⟨v', w', hrun, ho, hgr, -⟩ := run_appendE (P := Tryz.prog) (w.alloc (.cells #[.string (strN s)] 9)) 46 46 base 9 (.string ByteArray.empty) 16 strE Tryz.underlying46 strInfo rfl v l (h.same kA) (some ⟨w.heap.size, 0, none⟩) 1 1 [s] rfl hone (fun h => by cases h) (by unfold maxLen; simp; omega) (by simp; omega) (Nat.le_trans hb kA.size)
  refine ⟨v', w', hrun, ho, ?_⟩
  refine (kA.mono (fun _ _ z => z.elim)).trans (((Kept.refl _ _).grown hgr (fun k hk _ => hk) : Kept (fun j => v.ownBlock = some j) _ w').mono (fun j _ hj => ?_))
  exact (World.ownsRow.lt h j hj).1
/-- Bytes behind the first k, as a slice. -/
theorem nats_cut {w : World} {b off n c : Nat} {l : List Nat} (h : NatsAt w .u8 (some ⟨b, off, none⟩) l) (hn : n = l.length) (hc : n ≤ c) (k : Nat) :
    NatsAt w .u8 (if c = k then some ⟨b, off, none⟩ else some ⟨b, off + k, none⟩) (l.drop k) := by
  by_cases q : c = k
  · rw [List.drop_eq_nil_of_le (by omega)]; exact .inl rfl
  · rw [if_neg q]; exact h.drop k
/-- What Read tells. -/
def ReadPost (w : World) (o : Option (List (List Nat))) (r : Ending) (w' : World) : Prop := (∃ v, r = .returned (.tuple #[v, .bool o.isSome]) ∧ OwnT w' w.heap.size v (o.getD [])) ∧ Same w w'
theorem readPost_none (w w' : World) (k : Same w w') : ReadPost w none (.returned (.tuple #[.slice none 0 0, .bool false])) w' := ⟨⟨_, rfl, OwnE.nil _ _ _⟩, k⟩
set_option maxRecDepth 100000 in
set_option maxHeartbeats 800000 in
theorem ws_read_bad (a : Option Addr) (n c : Nat) (xs : List Nat) (hn : n = xs.length) (hl : n ≤ 1000000) (e t : Int) (w : World) (hbad : ¬ (xs.length = 256 ∧ okE e t = true)) :
    Calls Tryz.prog 68 #[.slice a n c, .int .i64 e, .int .i64 t] w (ReadPost w none) := by
  by_cases h1 : n = 256
  · subst h1
    have hok : okE e t = false := by
      cases h : okE e t
      · rfl
      · exact absurd ⟨hn.symm, h⟩ hbad
    have MY := Lib.hid fun w' => ws_may e w'
    unfold okE at hok
    clear hbad hn
    by_cases h2 : 1 ≤ e
    · by_cases h3 : e ≤ 1099511627776
      · rw [decide_eq_true h2, decide_eq_true h3] at MY hok
        simp only [Bool.true_and, Bool.and_self] at MY hok
        by_cases h4 : t < 0
        · clear hok
          go_enter Tryz.func68, Tryz.ntmps68
          go_wp2_with fail
          with_reducible refine (MY.out _).mono ?_
          rintro r w' ⟨rfl, rfl⟩
          go_wp2_with fail
          go_ret2
          exact readPost_none _ _ (Kept.refl _ _)
        · have h5 : 256 ≤ t := by
            rw [decide_eq_true (show 0 ≤ t by omega), Bool.true_and, decide_eq_false_iff_not] at hok
            omega
          clear hok
          go_enter Tryz.func68, Tryz.ntmps68
          go_wp2_with fail
          with_reducible refine (MY.out _).mono ?_
          rintro r w' ⟨rfl, rfl⟩
          go_wp2_with fail
          go_ret2
          exact readPost_none _ _ (Kept.refl _ _)
      · rw [decide_eq_true h2, decide_eq_false h3] at MY
        simp only [Bool.and_false] at MY
        clear hok
        go_enter Tryz.func68, Tryz.ntmps68
        go_wp2_with fail
        with_reducible refine (MY.out _).mono ?_
        rintro r w' ⟨rfl, rfl⟩
        go_wp2_with fail
        go_ret2
        exact readPost_none _ _ (Kept.refl _ _)
    · rw [decide_eq_false h2] at MY
      simp only [Bool.false_and] at MY
      clear hok
      go_enter Tryz.func68, Tryz.ntmps68
      go_wp2_with fail
      with_reducible refine (MY.out _).mono ?_
      rintro r w' ⟨rfl, rfl⟩
      go_wp2_with fail
      go_ret2
      exact readPost_none _ _ (Kept.refl _ _)
  · have g1 : ¬ (n : Int) = 256 := by omega
    clear hbad hn
    go_enter Tryz.func68, Tryz.ntmps68
    go_wp2_with fail
    go_ret2
    exact readPost_none _ _ (Kept.refl _ _)
theorem layS_okT {xs : List Nat} (hx : Bts xs) {l : List (List Nat)} (h : bdy l = prtB xs) : (bdy l).length ≤ 239 ∧ TBts l ∧ (∀ s ∈ l, s.length ≤ 238) ∧ l.length ≤ 239 := by
  have h1 : (bdy l).length ≤ 239 := by rw [h]; unfold prtB; rw [List.length_take]; omega
  have h2 : Bts (bdy l) := by rw [h]; unfold prtB; exact (hx.drop 9).take _
  refine ⟨h1, fun s hs x hxs => h2 x (List.mem_flatMap.2 ⟨s, hs, List.mem_cons_of_mem _ hxs⟩), fun s hs => ?_, Nat.le_trans (bdy_count l) h1⟩
  have := bdy_len_ge l s hs
  omega
section
attribute [local go_sem ↓] exec_app semAt_app
attribute [local go_sem] isApp_lit appA appX
set_option maxRecDepth 100000 in
set_option maxHeartbeats 1600000 in
theorem ws_read_ok (g o c : Nat) (xs : List Nat) (hl : xs.length = 256) (hc : 256 ≤ c) (hx : Bts xs) (e t : Nat) (he : 1 ≤ e ∧ e ≤ 1099511627776) (ht : t < 256) (w : World) (hat : NatsAt w .u8 (some ⟨g, o, none⟩) xs) :
    Calls Tryz.prog 68 #[.slice (some ⟨g, o, none⟩) 256 c, .int .i64 (e : Nat), .int .i64 (t : Nat)] w (ReadPost w (readS xs e t)) := by
  have MY := Lib.hid fun w' => ws_may (e : Nat) w'
  rw [decide_eq_true (show (1 : Int) ≤ (e : Int) by omega), decide_eq_true (show (e : Int) ≤ 1099511627776 by omega)] at MY
  simp only [Bool.and_self] at MY
  have c8 := nats_get hat (i := 8) (by omega)
  have b8 := getD_bts hx 8
  have hR : readS xs e t = match prs (prtB xs).length (prtB xs) with
    | some l => if l ≠ [] ∧ layS e t l = xs then some l else none
    | none => none := by
    have hok : okE (e : Int) (t : Int) = true := by unfold okE; simp; omega
    have hp : (prtB xs).length ≤ 239 := by unfold prtB; rw [List.length_take]; omega
    unfold readS
    rw [if_pos ⟨hl, hok⟩, prs_fuel _ 239 hp]
    simp only [Int.toNat_natCast]
    cases prs (prtB xs).length (prtB xs) <;> rfl
  obtain ⟨M, hM⟩ : ∃ M, min (xs.getD 8 0) 239 = M := ⟨_, rfl⟩
  have hmin : min ((xs.getD 8 0 : Nat) : Int) 239 = (M : Int) := by omega
  have hM9 : M ≤ 239 := by omega
  obtain ⟨x8, hx8⟩ : ∃ x8, xs.getD 8 0 = x8 := ⟨_, rfl⟩
  rw [hx8] at c8 b8 hmin
  have hpl : (prtB xs).length = M := by unfold prtB; rw [List.length_take, List.length_drop, hM]; omega
  have hpa : NatsAt w .u8 (some ⟨g, o + 9, none⟩) (prtB xs) := (hat.drop 9).take _
  have hpb : Bts (prtB xs) := (hx.drop 9).take _
  have OKT := Lib.hid fun l (h : bdy l = prtB xs) => layS_okT hx h
  have PB := Lib.hid fun l (h : prs (prtB xs).length (prtB xs) = some l) => prs_bdy _ _ l h
  obtain ⟨p0, hp0⟩ : ∃ p0, prtB xs = p0 := ⟨_, rfl⟩
  rw [hp0] at hR hpl hpa hpb OKT PB
  obtain ⟨R, hRR⟩ : ∃ R, readS xs e t = R := ⟨_, rfl⟩
  rw [hRR] at hR ⊢
  have HR := Lib.hid hR
  have HPL := Lib.hid hpl
  have HPB := Lib.hid hpb
  have HPA := Lib.hid hpa
  have HAT := Lib.hid hat
  have HX := Lib.hid hx
  have HL := Lib.hid hl
  have HE := Lib.hid he
  have t1 : (9 + (M : Int)).toNat = 9 + M := by omega
  have t2 : 9 + (M : Int) ≤ (c : Int) := by omega
  have t3 : ¬ c = 9 := by omega
  have t4 : ¬ (t : Int) < 0 := by omega
  have t5 : ¬ (256 : Int) ≤ (t : Int) := by omega
  have hb8 : (x8 : Int) < 256 := by omega
  have hx8w : IntKind.i64.wrap (x8 : Int) = (x8 : Int) := IntWalk.i64_in _ (by omega)
  clear hR hpl hpa hpb hat hx hl he hM hx8 hp0 hRR
  go_enter Tryz.func68, Tryz.ntmps68
  go_wp2_with fail
  with_reducible refine (MY.out _).mono ?_
  rintro r w' ⟨rfl, rfl⟩
  clear MY
  go_wp2_with fail
  clear t1 t2 c8 hmin
  go_loopw [8, 9] (fun v sv wr => ∃ (a' : Option Addr) (n' c' : Nat) (p : List Nat) (acc : List (List Nat)), sv = .slice a' n' c' ∧ n' = p.length ∧ n' ≤ 239 ∧ n' ≤ c' ∧ NatsAt wr .u8 a' p ∧ Bts p ∧ (p = [] ∨ ∀ y, a' = some y → y.block < w'.heap.size) ∧ OwnT wr w'.heap.size v acc ∧ acc.length ≤ 239 - n' ∧ prs p0.length p0 = (prs p.length p).map (fun l => acc ++ l) ∧ Same w' wr) (fun _ sv _ => lenV sv)
  case atStart =>
    refine ⟨_, M, _, p0, [], rfl, HPL.out.symm, hM9, by omega, HPA.out, HPB.out, ?_, OwnE.nil _ _ _, Nat.zero_le _, ?_, Kept.refl _ _⟩
    · rcases HPA.out with q | ⟨b, o', q, hb, -⟩
      · exact .inl q
      · cases q; exact .inr (fun y hy => by cases hy; exact hb)
    · cases prs p0.length p0 <;> simp
  case round =>
    obtain ⟨a', n', c', p, acc, rfl, hn', hn9, hc', hpt, hpbt, hold, hown, hal, hprs, hk⟩ := hrel
    have AT := Lib.hid hpt; have OWN := Lib.hid hown; have PRS := Lib.hid hprs; have K := Lib.hid hk; have HN' := Lib.hid hn'
    clear hpt hown hprs hk
    by_cases hz : 0 < n'
    · have g1 : (0 : Int) < (n' : Int) := by omega
      cases p with
      | nil => simp at hn'; omega
      | cons x r =>
        obtain ⟨b, off, rfl, hbw⟩ : ∃ b off, a' = some ⟨b, off, none⟩ ∧ b < w'.heap.size := by
          rcases AT.out with q | ⟨b, off, q, hb, -⟩
          · cases q
          · exact ⟨b, off, q, (hold.resolve_left (by simp)) _ q⟩
        have c0 := nats_get AT.out (i := 0) (by simp)
        rw [Nat.add_zero, show (x :: r).getD 0 0 = x from rfl] at c0
        have hst := prs_step x r
        rw [List.length_cons] at hn'
        have HST := Lib.hid hst
        clear hst
        have gx0 : (0 : Int) ≤ (x : Int) := by omega
        by_cases hxr : x ≤ r.length
        · have gx : ¬ (n' : Int) ≤ (x : Int) := by omega
          have HST2 : Hid (prs p0.length p0 = (prs (r.drop x).length (r.drop x)).map (fun l => (acc ++ [r.take x]) ++ l)) := by
            show _ = _
            rw [PRS.out, HST.out, if_pos hxr]
            cases prs (r.drop x).length (r.drop x) <;> simp
          have hx256 : (x : Int) < 256 := by have := hpbt x (by simp); omega
          have CUT1 := nats_cut AT.out HN'.out hc' 1
          have CUT2 := Lib.hid fun w2 (kk : NatsAt w2 .u8 (some ⟨b, off, none⟩) (x :: r)) => nats_cut kk HN'.out hc' (x + 1)
          have hv := conv_str (if c' = 1 then some ⟨b, off, none⟩ else some ⟨b, off + 1, none⟩) x (c' - 1) (r.take x) wr (by rw [List.length_take]; omega) (NatsAt.take CUT1 x)
          obtain ⟨v5, w5, hrun, ow5, k5⟩ := txt_append OWN.out K.out.size (by omega) (r.take x)
          obtain ⟨aok, aV, aW⟩ := app_of hrun
          have OW5 := Lib.hid ow5
          have K5 := Lib.hid (K.out.step k5 (fun i hi q => by omega))
          have AT5 := Lib.hid (CUT2.out w5 (AT.out.kept k5 (fun y hy => by cases hy; dsimp only; omega)))
          have BD : Hid (Bts (r.drop x)) := fun y hy => hpbt y (List.mem_cons_of_mem _ (List.mem_of_mem_drop hy))
          have HDL : Hid ((r.drop x).length = n' - (x + 1)) := by show _ = _; rw [List.length_drop]; omega
          obtain ⟨S, hS⟩ : ∃ S, r.take x = S := ⟨_, rfl⟩
          rw [hS] at hv OW5 HST2 aok aV aW
          have s1 : ((x : Int) + 1).toNat = x + 1 := by omega
          have s2 : (1 : Int) ≤ (x : Int) + 1 := by omega
          have s3 : (x : Int) + 1 ≤ (c' : Int) := by omega
          have s4 : (x : Int) + 1 ≤ (n' : Int) := by omega
          have HAL := Lib.hid hal
          have HBW := Lib.hid hbw
          clear hrun ow5 k5 CUT1 CUT2 hn' hS hpbt hxr hal AT OWN K hold
          go_wp2_with fail
          go_roundw
          case rel =>
            refine ⟨_, _, _, r.drop x, acc ++ [S], rfl, HDL.out.symm, by omega, by omega, AT5.out, BD.out, .inr (fun y hy => ?_), OW5.out, ?_, HST2.out, K5.out⟩
            · have e : y.block = b := by split at hy <;> (cases hy; rfl)
              rw [e]; exact HBW.out
            · have := HAL.out
              simp
              omega
          case measure => simp only [lenV_slice]; omega
        · have gx : (n' : Int) ≤ (x : Int) := by omega
          have hx256 : (x : Int) < 256 := by have := hpbt x (by simp); omega
          have HRN : Hid (R = none) := by
            show _ = _
            rw [HR.out, PRS.out, HST.out, if_neg hxr]
            rfl
          clear hn'
          go_wp2_with fail
          go_ret2
          rw [HRN.out]
          exact readPost_none _ _ K.out
    · have hp : p = [] := List.eq_nil_of_length_eq_zero (by omega)
      have g1 : ¬ (0 : Int) < (n' : Int) := by omega
      have hpr : prs p0.length p0 = some acc := by rw [PRS.out, hp]; simp [prs]
      have hR2 : R = if acc ≠ [] ∧ layS e t acc = xs then some acc else none := by rw [HR.out, hpr]
      obtain ⟨k1, k2, k3, k4⟩ := OKT.out acc (PB.out acc hpr)
      obtain ⟨av, lv, cv, rfl, hlv, -, hav, hcv⟩ := OWN.out.rd
      have HLV := hlv
      have HAV := hav
      clear hp hpr
      by_cases hac : acc = []
      · have hl0 : lv = 0 := by rw [hlv.out, hac]; rfl
        subst hl0
        have HRN : Hid (R = none) := by show _ = _; rw [hR2, if_neg (fun h => h.1 hac)]
        clear hR2 hac hlv hav
        go_wp2_with fail
        go_ret2
        rw [HRN.out]
        exact readPost_none _ _ K.out
      · have hl0 : ¬ (lv : Int) = 0 := by have := hlv.out; have : acc.length ≠ 0 := fun q => hac (List.eq_nil_of_length_eq_zero q); omega
        have hl1 : ((lv : Int) == 0) = false := by simpa using hl0
        have LA := Lib.hid (ws_lay e t HE.out ht av lv cv acc HLV.out k3 k1 k2 wr HAV.out)
        have LL := Lib.hid (layS_len e t k1)
        have LB := Lib.hid (layS_bts e t k2 k1)
        obtain ⟨Y, hY⟩ : ∃ Y, layS e t acc = Y := ⟨_, rfl⟩
        rw [hY] at LA hR2 LL LB
        have HR2 := Lib.hid hR2
        have HAC := Lib.hid hac
        clear hR2 hac hlv hav hY
        go_wp2_with fail
        with_reducible refine LA.out.mono ?_
        rintro r w3 ⟨g3, rfl, n3, -, k3'⟩
        have EQ := Lib.hid (by_equal (some ⟨g3, 0, none⟩) (some ⟨g, o, none⟩) 256 256 256 c Y xs w3 LL.out.symm HL.out.symm LB.out HX.out n3 (HAT.out.same (K.out.trans k3')))
        have K3 := Lib.hid (K.out.trans k3')
        have OW3 := Lib.hid (OWN.out.same k3')
        clear n3 k3'
        by_cases heq : Y = xs
        · rw [decide_eq_true heq] at EQ
          have HRN : Hid (R = some acc) := by show _ = _; rw [HR2.out, if_pos ⟨HAC.out, heq⟩]
          clear heq
          go_wp2_with fail
          with_reducible refine EQ.out.mono ?_
          rintro r w4 ⟨rfl, rfl⟩
          go_wp2_with fail
          go_ret2
          rw [HRN.out]
          exact ⟨⟨_, rfl, OW3.out⟩, K3.out⟩
        · rw [decide_eq_false heq] at EQ
          have HRN : Hid (R = none) := by show _ = _; rw [HR2.out, if_neg (fun h => heq h.2)]
          clear heq
          go_wp2_with fail
          with_reducible refine EQ.out.mono ?_
          rintro r w4 ⟨rfl, rfl⟩
          go_wp2_with fail
          go_ret2
          rw [HRN.out]
          exact readPost_none _ _ K3.out
end
end Go.Proofs.YtlmpkonfclnceaaGreat
