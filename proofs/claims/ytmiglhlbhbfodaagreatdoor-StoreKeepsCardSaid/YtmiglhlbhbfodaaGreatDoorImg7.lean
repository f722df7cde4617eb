/- A store's image: the walk. -/
import Derived.Test.YtmiglhlbhbfodaaGreatDoorGAw7
import Derived.Test.YtmiglhlbhbfodaaGreatDoorGKs
namespace Go.Proofs.YtmiglhlbhbfodaaGreatDoor
open Go.RowKit Go.Sort Go.Shelf

/-- What image tells. -/
def ImgPost (w : World) (p d bs m : Nat) (S : Sto) (e : Ending) (w' : World) : Prop := e = .returned (.string (strN (imgS S))) ∧ StoIn w' p d bs m S ∧ Kept (fun g => g = p) w w'
def recS (S : Sto) (n : Nat) : List Nat := if bitN S.nwords n = true then recD S.D.s S.r.ring S.nsize n else []
def imgTo (S : Sto) (n : Nat) : List Nat := S.r.body ++ ([124] ++ (List.range n).flatMap (recS S))
theorem imgTo_succ (S : Sto) (n : Nat) : imgTo S (n + 1) = imgTo S n ++ recS S n := by
  unfold imgTo
  rw [List.range_succ, List.flatMap_append, List.flatMap_cons, List.flatMap_nil, List.append_nil, List.append_assoc, List.append_assoc]
theorem imgTo_all (S : Sto) : imgTo S S.nsize = imgS S := rfl
theorem openP_out {b : List Nat} (hb : Bts b) : (openP b).1.length ≤ 1016 ∧ Bts (openP b).1 ∧ (openP b).2 ≠ 8 := by
  unfold openP
  split
  · split
    · rename_i hle
      split
      · exact ⟨by rw [List.length_take]; omega, (hb.drop _).take _, by simp⟩
      · exact ⟨by simp, bts_nil, by decide⟩
    · exact ⟨by simp, bts_nil, by decide⟩
  · exact ⟨by simp, bts_nil, by decide⟩
theorem readB_out {D : Dsk} (h : ∀ x ∈ D.s, x.OK) (hon : D.off = false) (f k n : Int) : (readB D f k n).1.length ≤ 1016 ∧ Bts (readB D f k n).1 ∧ (readB D f k n).2 ≠ 8 := by
  unfold readB
  split
  · rw [hon, if_neg (by decide)]
    have hh : ∀ j, Bts (hasAt D j) := fun j => (getD_ok h j).hasB
    exact openP_out ((((hh _).app (hh _)).app (hh _)).app (hh _))
  · rename_i h0
    refine ⟨by simp, bts_nil, ?_⟩
    dsimp only
    unfold atA at h0 ⊢
    split
    · split <;> decide
    · rename_i h2
      rw [errA_two h2]
      decide
theorem recD_bts {s : List Sec} (h : ∀ x ∈ s, x.OK) (ring size n : Nat) : Bts (recD s ring size n) ∧ (recD s ring size n).length ≤ 1021 := by
  have hr := readB_out (D := onD s) h rfl ((8 + ring : Nat) : Int) (size : Nat) (n : Nat)
  unfold recD
  refine ⟨fun x hx => ?_, by rw [List.length_append]; simp only [List.length_cons, List.length_nil]; omega⟩
  rcases List.mem_append.1 hx with q | q
  · simp only [List.mem_cons, List.not_mem_nil, or_false] at q
    omega
  · exact hr.2.1 x q
theorem imgD_bts {s : List Sec} (h : ∀ x ∈ s, x.OK) (ring size : Nat) {body : List Nat} (hb : Bts body) (words : List Nat) : Bts (imgD s ring size body words) := by
  unfold imgD
  refine hb.app ((bts_lit (by decide)).app fun x hx => ?_)
  obtain ⟨n, _, hx⟩ := List.mem_flatMap.1 hx
  split at hx
  · exact (recD_bts h ring size n).1 x hx
  · cases hx
theorem imgTo_len {S : Sto} (h : ∀ x ∈ S.D.s, x.OK) (n : Nat) : (imgTo S n).length ≤ S.r.body.length + 1 + n * 1021 := by
  induction n with
  | zero => unfold imgTo; simp
  | succ n ih =>
    rw [imgTo_succ, List.length_append]
    have : (recS S n).length ≤ 1021 := by
      unfold recS
      split
      · exact (recD_bts h _ _ n).2
      · simp
    omega
set_option maxRecDepth 100000 in
set_option maxHeartbeats 3200000 in
theorem st_image {w : World} {p d bs m : Nat} {S : Sto} (h : StoIn w p d bs m S) (hf : S.Fit) (hok : S.D.OK) (hon : S.D.off = false) (hgood : S.bad = false) (hb700 : S.r.body.length ≤ 700) (h12 : S.nsize ≤ 512) :
    Calls Tryz.prog 10 #[.pointer (some ⟨p, 0, none⟩)] w (ImgPost w p d bs m S) := by
  obtain ⟨R, hR⟩ : ∃ R, ImgPost w p d bs m S = R := ⟨_, rfl⟩
  rw [hR]
  have HR := Lib.hid hR
  have H := Lib.hid h
  have FT := Lib.hid hf
  have OK := Lib.hid (And.intro hok (And.intro hon hgood))
  have PL := Lib.hid (show p < w.heap.size from by obtain ⟨cap, wa, wc, ba, bc, na, nc, h1, -⟩ := h; exact h1.lt)
  have BO := Lib.hid (st_Body h)
  have B7 := Lib.hid (And.intro hb700 h12)
  obtain ⟨body, hbody⟩ : ∃ body, S.r.body = body := ⟨_, rfl⟩
  rw [hbody] at BO B7
  have HBO := Lib.hid hbody
  have s124 : strN [124] = { data := #[124] } := by decide
  have S124 := Lib.hid s124
  clear hR h hf hok hon hgood hb700 h12 hbody s124
  go_enter Tryz.func10, Tryz.ntmps10
  go_wp2_with fail
  with_reducible refine BO.out.mono ?_
  rintro e w1 ⟨⟨v1, rfl, o1⟩, k1⟩
  obtain ⟨a1, l1, c1, rfl, hl1, -, n1, -⟩ := o1.rd
  have hcv := conv_str a1 l1 c1 body w1 hl1.out n1.out
  have hadd : ((strN body).size : Int) + (({ data := #[124] } : ByteArray).size : Int) ≤ 9223372036854775807 := by
    have h1 := strN_size body
    have h2 : ({ data := #[124] } : ByteArray).size = 1 := by decide
    have := B7.out.1
    omega
  have S1 := Lib.hid (H.out.same k1)
  have K1 := Lib.hid k1
  have US := Lib.hid (st_Used S1.out FT.out)
  unfold UsedPost mapV at US
  clear k1 o1 BO n1 hl1
  go_wp2_with fail
  with_reducible refine US.out.mono ?_
  rintro e w2 ⟨g, c2, rfl, o2, k2⟩
  have O2 := Lib.hid o2
  have S2 := Lib.hid (S1.out.same k2)
  have K2 := Lib.hid (K1.out.trans k2)
  clear k2 o2 US hcv hadd
  go_upto_region 3 with fail
  obtain ⟨y, hy⟩ : ∃ y, w2.heap.size = y := ⟨_, rfl⟩
  have he : strN body ++ ({ data := #[124] } : ByteArray) = strN (imgTo S 0) := by
    rw [← S124.out, strN_app]
    unfold imgTo
    rw [HBO.out]
    simp
  rw [hy, he]
  refine cutWl (fun wn => Fr wn [(y, #[.int .i64 (S.nsize : Nat), .slice (some ⟨g, 0, none⟩) S.nwords.length c2], 51)] ∧ Same w2 wn) ⟨⟨Blk.new' _ _ _ hy.symm, trivial⟩, (Kept.refl _ _).alloc _⟩ ?_
  rintro w5 ⟨hf5, k5⟩
  have F5 := Lib.hid hf5
  have K5 := Lib.hid (K2.out.trans k5)
  have S5 := Lib.hid (S2.out.same k5)
  have N5 := Lib.hid (O2.out.natsA.same k5)
  have FY := Lib.hid (show ¬ y = p ∧ ¬ g = p from by
    have h1 := (World.ownsRow.lt O2.out g rfl).1
    have h2 := PL.out; have h3 := K1.out.size; have h4 := K2.out.size
    omega)
  have HL := Lib.hid (show S.nwords.length ≤ c2 from O2.out.len.2.1)
  have CN := Lib.hid (fun W (k : Kept (fun g => g = p) w5 W) => show (∀ i, W.cell? ⟨y, i, none⟩ = (#[.int .i64 (S.nsize : Nat), .slice (some ⟨g, 0, none⟩) S.nwords.length c2] : Array Value)[i]?) ∧ NatsAt W .u64 (some ⟨g, 0, none⟩) S.nwords from ⟨cell_blk (F5.out.1.kept k FY.out.1), N5.out.kept k (fun x hx q => by cases hx; exact FY.out.2 q)⟩)
  have HS := Lib.hid (fun (n : Nat) W (k : Kept (fun g => g = p) w5 W) => bm_has (S.nsize : Nat) (some ⟨g, 0, none⟩) c2 S.nwords (n : Nat) W FT.out.nw (CN.out W k).2)
  have LE := Lib.hid (fun n => imgTo_len (S := S) OK.out.1.secs n)
  have TS := Lib.hid (imgTo_succ S)
  have TA := Lib.hid (imgTo_all S)
  have RD := Lib.hid (fun n => show (bitN S.nwords n = false → recS S n = []) ∧ (bitN S.nwords n = true → n < S.nsize → (S.rd (n : Nat)).1 = S ∧ recS S n = [n / 256 % 256, n % 256, (S.rd (n : Nat)).2.2 % 256, (S.rd (n : Nat)).2.1.length / 256 % 256, (S.rd (n : Nat)).2.1.length % 256] ++ (S.rd (n : Nat)).2.1 ∧ (S.rd (n : Nat)).2.1.length ≤ 1016) from by
    refine ⟨fun hb => by unfold recS; rw [hb]; rfl, fun hb hn => ?_⟩
    have hq := readB_on OK.out.2.1 ((8 + S.r.ring : Nat) : Int) (S.nsize : Nat) (n : Nat)
    have ho := readB_out (D := onD S.D.s) OK.out.1.secs rfl ((8 + S.r.ring : Nat) : Int) (S.nsize : Nat) (n : Nat)
    have he : S.hasE (n : Nat) = 0 := by
      unfold Sto.hasE
      rw [OK.out.2.2, if_neg (by decide), hasM_in FT.out.now hn, if_pos hb]
    have e : S.rd (n : Nat) = (S, readB (onD S.D.s) ((8 + S.r.ring : Nat) : Int) (S.nsize : Nat) (n : Nat)) := by
      unfold Sto.rd Sto.rq
      rw [if_neg (fun z => z he), hq, decide_eq_false ho.2.2, Bool.or_false]
    rw [e]
    refine ⟨rfl, ?_, ho.1⟩
    unfold recS
    rw [if_pos hb]
    rfl)
  obtain ⟨ns, hns⟩ : ∃ ns, S.nsize = ns := ⟨_, rfl⟩
  have HNS := Lib.hid hns
  have HM := Lib.hid (fun n (hn : n < ns) => hasM_in (n := n) (by rw [← hns]; exact FT.out.now) hn)
  rw [hns] at CN HS RD TA
  have h12 := B7.out.2
  rw [hns] at h12
  obtain ⟨nl, hnl⟩ : ∃ nl, S.nwords.length = nl := ⟨_, rfl⟩
  rw [hnl] at CN HS
  unfold mapV at HS
  clear hns he hy K1 O2 S2 K2 S1 F5 N5 FY HL hnl S124 hf5 k5
  go_wp2_with fail
  go_loopw [3, 5] (fun o t wr => ∃ n : Nat, t = .int .i64 n ∧ n ≤ ns ∧ o = .string (strN (imgTo S n)) ∧ StoIn wr p d bs m S ∧ Kept (fun g => g = p) w5 wr) (fun _ t _ => ns - (intOf t).toNat)
  case atStart => exact ⟨0, rfl, by omega, rfl, S5.out, Kept.refl _ _⟩
  case round =>
    obtain ⟨n, rfl, hn, rfl, hst, hk⟩ := hrel
    have ST := Lib.hid hst; have K := Lib.hid hk
    have pc := (CN.out wr hk).1
    clear hst hk
    by_cases hgo : n < ns
    · have g1 : (n : Int) < (ns : Int) := by omega
      have HSn := Lib.hid (HS.out n wr K.out)
      rw [HM.out n hgo] at HSn
      obtain ⟨R1, R2⟩ := RD.out n
      have TSn := Lib.hid (TS.out n)
      have LEn := Lib.hid (LE.out n)
      cases hb : bitN S.nwords n with
      | false =>
        rw [hb] at HSn
        have E1 := Lib.hid (show imgTo S (n + 1) = imgTo S n from by rw [TSn.out, R1 hb, List.append_nil])
        clear R1 R2 hb
        go_wp2_with fail
        with_reducible refine HSn.out.mono ?_
        rintro e wa ⟨rfl, ka⟩
        have SA := Lib.hid (ST.out.same ka)
        have KA := Lib.hid (K.out.trans (ka.mono (fun _ _ q => q.elim)))
        have pa := (CN.out wa KA.out).1
        clear ka HSn pc
        go_wp2_with fail
        go_roundw
        case rel => exact ⟨n + 1, by go_num, by omega, by rw [E1.out], SA.out, KA.out⟩
        case measure => simp [intOf]; omega
      | true =>
        rw [hb] at HSn
        obtain ⟨q1, q2, q3⟩ := R2 hb hgo
        have RP := Lib.hid (fun w' (k : Same wr w') => st_Read (ST.out.same k) (n : Nat))
        rw [q1] at RP
        rw [q2] at TSn
        obtain ⟨rb, hrb⟩ : ∃ rb, (S.rd (n : Nat)).2.1 = rb := ⟨_, rfl⟩
        obtain ⟨re, hre⟩ : ∃ re, (S.rd (n : Nat)).2.2 = re := ⟨_, rfl⟩
        rw [hrb, hre] at RP TSn
        rw [hrb] at q3
        unfold RdPost at RP
        obtain ⟨rl, hrl⟩ : ∃ rl, rb.length = rl := ⟨_, rfl⟩
        have HRL := Lib.hid hrl
        rw [hrl] at RP TSn q3
        clear R1 R2 hb q1 q2 hrb hre hrl
        go_wp2_with fail
        with_reducible refine HSn.out.mono ?_
        rintro e wa ⟨rfl, ka⟩
        have RPa := Lib.hid (RP.out wa ka)
        have KA := Lib.hid (K.out.trans (ka.mono (fun _ _ q => q.elim)))
        clear ka HSn pc RP
        go_wp2_with fail
        with_reducible refine RPa.out.mono ?_
        rintro e wb ⟨ra, rc, rfl, n6, z6, sb, kb⟩
        have SB := Lib.hid sb
        have KB := Lib.hid (KA.out.trans kb)
        have N6 := Lib.hid n6
        clear sb kb RPa n6 z6
        obtain ⟨C, hC⟩ : ∃ C : Array Value, (#[.int .u8 ((n : Int) / 256), .int .u8 ((n : Int) % 256), .int .u8 ((re : Int) % 256), .int .u8 ((rl : Int) / 256), .int .u8 ((rl : Int) % 256)] : Array Value) = C := ⟨_, rfl⟩
        have nat5 : NatsAt (wb.alloc (.cells C 5)) .u8 (some ⟨wb.heap.size, 0, none⟩) [n / 256, n % 256, re % 256, rl / 256, rl % 256] := konst_at wb _ C (by rw [← hC]; simp) (0, 0)
        have kc : Same wb (wb.alloc (.cells C 5)) := (Kept.refl _ _).alloc _
        have hcv1 := conv_str (some ⟨wb.heap.size, 0, none⟩) 5 5 _ _ rfl nat5
        have hcv2 := conv_str ra rl rc rb _ HRL.out.symm (N6.out.same kc)
        rw [← hC] at hcv1 hcv2 kc
        have SC := Lib.hid (SB.out.same kc)
        have KC := Lib.hid (KB.out.trans (kc.mono (fun _ _ q => q.elim)))
        have hs1 := strN_size (imgTo S n)
        have hs2 := strN_size [n / 256, n % 256, re % 256, rl / 256, rl % 256]
        have hs3 := strN_size rb
        have hs4 := strN_size (imgTo S n ++ [n / 256, n % 256, re % 256, rl / 256, rl % 256])
        have happ := strN_app (imgTo S n) [n / 256, n % 256, re % 256, rl / 256, rl % 256]
        have happ2 := Lib.hid (strN_app (imgTo S n ++ [n / 256, n % 256, re % 256, rl / 256, rl % 256]) rb)
        have hl := LEn.out
        rw [HBO.out] at hl
        have h7 := B7.out.1
        have hrl := HRL.out
        have had1 : ((strN (imgTo S n)).size : Int) + ((strN [n / 256, n % 256, re % 256, rl / 256, rl % 256]).size : Int) ≤ 9223372036854775807 := by rw [hs1, hs2]; simp only [List.length_cons, List.length_nil]; omega
        have had2 : ((strN (imgTo S n ++ [n / 256, n % 256, re % 256, rl / 256, rl % 256])).size : Int) + ((strN rb).size : Int) ≤ 9223372036854775807 := by rw [hs4, hs3, List.length_append]; simp only [List.length_cons, List.length_nil]; omega
        have EQ := Lib.hid (show strN (imgTo S n ++ [n / 256, n % 256, re % 256, rl / 256, rl % 256]) ++ strN rb = strN (imgTo S (n + 1)) from by
          rw [happ2.out, TSn.out, List.append_assoc, show n / 256 % 256 = n / 256 from by omega, show rl / 256 % 256 = rl / 256 from by omega])
        clear hC nat5 kc hs1 hs2 hs3 hs4 hl h7 hrl SB KB N6
        go_wp2_with fail
        go_roundw
        case rel => exact ⟨n + 1, by go_num, by omega, by rw [EQ.out], SC.out, KC.out⟩
        case measure => simp [intOf]; omega
    · have hnn : n = ns := by omega
      subst hnn
      have g1 : ¬ (n : Int) < (n : Int) := by omega
      have FI := Lib.hid (show R (.returned (.string (strN (imgTo S n)))) wr from by
        rw [← HR.out, TA.out]
        exact ⟨rfl, ST.out, (K5.out.mono (fun _ _ q => q.elim)).trans K.out⟩)
      go_wp2_with fail
      exact FI.out
end Go.Proofs.YtmiglhlbhbfodaaGreatDoor
