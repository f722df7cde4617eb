/- The document's disk: Power. -/
import Derived.Test.YtlmpkonfclnceaaRef3g
namespace Go.Proofs.Ytlmpkonfclnceaa
open Go.RowKit

theorem strN_size (l : List Nat) : (strN l).size = l.length := by simp [strN, ByteArray.size]
theorem strN_cut (l : List Nat) (i j : Nat) : (strN l).extract i j = strN ((l.take j).drop i) := by
  apply ByteArray.ext
  rw [ByteArray.data_extract]
  simp only [strN]
  rw [List.extract_toArray, List.extract_eq_take_drop, List.map_drop, List.map_take, List.drop_take]
theorem strN_app (l m : List Nat) : strN l ++ strN m = strN (l ++ m) := by
  apply ByteArray.ext
  simp [strN, ByteArray.data_append]

/-- Going over all sectors. -/
def powTo (s : List Sec) (f : List Nat) (i : Nat) : List Sec × List Nat := (List.range i).foldl powStep (s, f)
theorem powTo_succ (s : List Sec) (f : List Nat) (i : Nat) : powTo s f (i + 1) = powStep (powTo s f i) i := by unfold powTo; rw [List.range_succ, List.foldl_append]; rfl
theorem powTo_I {s : List Sec} {f : List Nat} (h : ∀ x ∈ s, x.OK) (hf : Bts f) (i : Nat) : PowI s (powTo s f i) := by
  induction i with
  | zero => exact PowI.start h hf
  | succ i ih =>
    rw [powTo_succ]
    unfold powStep
    split
    · rename_i q; exact ih.step (by rw [← ih.waits]; exact q)
    · exact ih
theorem powTo_all (s : List Sec) (f : List Nat) : settle (powTo s f s.length).1 = powS s f := (powS_all s f).symm
theorem FatesV.apart {w w' : World} {v : Value} {f : List Nat} {g : Nat} {cs : Array Value} {t : TypeId} (h : FatesV w v f) (hb : Blk w g cs t) (hk : Kept (fun j => j = g) w w') (hne : ∀ (i : Nat) (x : Int), cs[i]? ≠ some (.int .u8 x)) : FatesV w' v f := by
  obtain ⟨a, l, c, h1, h2, h3, h4⟩ := h
  exact ⟨a, l, c, h1, h2, h3, h4.apart hb hk hne⟩
theorem nou8_5 (a : Option Addr) (n c : Nat) (x : Bool) (y z : Int) (u : Bool) : ∀ (i : Nat) (v : Int), (#[.slice a n c, .bool x, .int .i64 y, .int .i64 z, .bool u] : Array Value)[i]? ≠ some (.int .u8 v) := by
  intro i v
  rcases i with _ | _ | _ | _ | _ | i <;> simp
theorem nou8_3 (a b : ByteArray) (u : Bool) : ∀ (i : Nat) (v : Int), (#[.string a, .string b, .bool u] : Array Value)[i]? ≠ some (.int .u8 v) := by
  intro i v
  rcases i with _ | _ | _ | i <;> simp
theorem tmod4_nat (q : Nat) : (q : Int).tmod 4 = ((q % 4 : Nat) : Int) := by rw [Int.tmod_eq_emod_of_nonneg (by omega)]; omega
theorem powF_set (ss : List Sec) (fs : List Nat) (i : Nat) {x : Sec} (hx : ss.getD i sec0 = x) {k : Nat} {r : List Nat} (hk : keepOf fs = (k, r)) : powF (ss, fs) i = (ss.set i (powOne x k), r) := by
  unfold powF
  dsimp only
  rw [hk, hx]

set_option maxRecDepth 100000 in
set_option maxHeartbeats 1600000 in
theorem rs_power (a : Option Addr) (n c : Nat) (D : Dsk) (hn : n = D.s.length) (hok : D.OK) (v : Value) (f : List Nat) (hf : Bts f) (w : World) (hs : SecsAt w a D.s) (hv : FatesV w v f) :
    Calls Try.prog 64 #[refV a n c D, v] w fun e w' => RefD w w' e (powerD D f) := by
  subst hn
  have hl := hok.few
  have hi0 := fun i => powTo_I hok.secs hf i
  obtain ⟨s, off, calls, after, done⟩ := D
  simp only [refV]
  dsimp only at hs hl hi0 ⊢
  have PI := Lib.hid hi0
  have HS := Lib.hid hs; have HV := Lib.hid hv
  clear hs hv hok hi0
  go_enter Try.func64, Try.ntmps64
  go_wp2_with fail
  go_loopw [1, 5] (fun fv iv wr => ∃ (i : Nat) (a' : Option Addr) (c' : Nat), iv = .int .i64 i ∧ i ≤ s.length ∧ FatesV wr fv (powTo s f i).2 ∧ SecsAt wr a' (powTo s f i).1 ∧
    Fr wr [(w.heap.size, #[.slice a' s.length c', .bool off, .int .i64 calls, .int .i64 after, .bool done], 43), (w.heap.size + 1, #[.slice none 0 0, .bool false, .int .i64 0, .int .i64 0, .bool false], 43)] ∧ Same w wr) (fun _ iv _ => s.length - (intOf iv).toNat)
  case atStart => exact ⟨0, a, c, rfl, Nat.zero_le _, HV.out.same (((Kept.refl _ w).alloc _).alloc _), HS.out.same (((Kept.refl _ w).alloc _).alloc _), ⟨(Blk.new w _ _).alloc _, Blk.new' _ _ _ (by simp), trivial⟩, ((Kept.refl _ w).alloc _).alloc _⟩
  case round =>
    clear HV HS
    obtain ⟨i, a', c', rfl, hi, hfv, hse, hfr, hk⟩ := hrel
    have pi := PI.out i
    have ps := powTo_succ s f i
    have plen := pi.len
    obtain ⟨st, hst⟩ : ∃ st, powTo s f i = st := ⟨_, rfl⟩
    rw [hst] at hfv hse pi ps plen
    obtain ⟨ss, fs⟩ := st
    dsimp only at hfv hse plen
    have PS := Lib.hid ps; have PL := Lib.hid plen; have PF := Lib.hid pi.fates; have POK := Lib.hid pi.ok
    have HF := Lib.hid hfr; have HK := Lib.hid hk; have HV := Lib.hid hfv; have HSE := Lib.hid hse
    obtain ⟨p0, f0, p1, f1, -⟩ := hfr.rules
    have z0 := hfr.1.lt
    have z1 := hfr.2.1.lt
    have HST := Lib.hid hst
    clear pi ps plen hfr hk hfv hst
    by_cases hgo : i < s.length
    · have hx := get_of (s := ss) (n := i) (by rw [PL.out]; exact hgo)
      have hxk := getD_ok POK.out i
      obtain ⟨x, hxx⟩ : ∃ x, ss.getD i sec0 = x := ⟨_, rfl⟩
      have HXX := Lib.hid hxx
      rw [hxx] at hx hxk
      have hw : waitsAt ss i = x.waits := by unfold waitsAt; rw [hxx]
      have HW := Lib.hid hw
      rcases hse with h | ⟨b, o, rfl, hb, hc⟩
      · subst h; simp at hx
      have c0 := (hc i x hx).1
      have c1 := (hc i x hx).2.1
      have c2 := (hc i x hx).2.2
      have ln : (i : Int) < (s.length : Int) := by omega
      have ln0 : (0 : Int) ≤ (i : Int) := by omega
      clear hc hx hw
      have WW : Hid (∀ (y : Sec) (Z1 Z2 : ByteArray), Z1 = strN y.has → Z2 = strN y.safe → ∀ w', SecsAt w' (some ⟨b, o, none⟩) ss → Calls Try.prog 96 #[.agg #[.slice (some ⟨b, o, none⟩) s.length c', .bool off, .int .i64 calls, .int .i64 after, .bool done], .int .i64 i, .agg #[.string Z1, .string Z2, .bool y.waits]] w' fun e w'' =>
          ∃ a5 c5, e = .returned (.agg #[.slice a5 s.length c5, .bool off, .int .i64 calls, .int .i64 after, .bool done]) ∧ SecsAt w'' a5 (ss.set i y) ∧ Same w' w'') := by
        intro y Z1 Z2 h1 h2 w' h
        subst h1 h2
        refine (rs_with (some ⟨b, o, none⟩) s.length c' ⟨ss, off, calls, after, done⟩ PL.out.symm hl i (by rw [PL.out]; exact hgo) y w' h).mono ?_
        rintro e w'' ⟨a5, c5, rfl, ⟨h5, -⟩, k5⟩
        exact ⟨a5, c5, by simp only [refV, List.length_set]; rw [PL.out], h5, k5⟩
      obtain ⟨H, hH⟩ : ∃ H, strN x.has = H := ⟨_, rfl⟩
      obtain ⟨S, hS⟩ : ∃ S, strN x.safe = S := ⟨_, rfl⟩
      have HZH := Lib.hid hH.symm; have HZS := Lib.hid hS.symm
      rw [hH] at c0
      rw [hS] at c1
      have sH : H.size = 256 := by rw [← hH, strN_size, hxk.hasL]
      have sS : S.size = 256 := by rw [← hS, strN_size, hxk.safeL]
      have SH := Lib.hid sH; have SS := Lib.hid sS; have XK := Lib.hid hxk
      clear hH hS sH sS hxk
      cases hwt : x.waits
      · rw [hwt] at c2
        have PS9 : Hid (powTo s f (i + 1) = (ss, fs)) := by
          refine PS.out.trans ?_
          unfold powStep
          rw [show waitsAt (ss, fs).1 i = false from HW.out.trans hwt]
          rfl
        clear WW hxx
        go_wp2_with fail
        go_roundw
        case rel =>
          have kB : Same wr (wr.alloc (.cells #[.string H, .string S, .bool false] 107)) := (Kept.refl _ wr).alloc _
          exact ⟨i + 1, _, _, by go_num, by omega, by rw [PS9.out]; exact HV.out.same kB, by rw [PS9.out]; exact HSE.out.same kB, HF.out.same kB, HK.out.trans kB⟩
        case measure => simp [intOf]; omega
      · rw [hwt] at c2
        have KB : Hid (Same wr (wr.alloc (.cells #[.string H, .string S, .bool true] 107))) := (Kept.refl _ wr).alloc _
        have PSF : Hid (powTo s f (i + 1) = powF (ss, fs) i) := by
          refine PS.out.trans ?_
          unfold powStep
          rw [show waitsAt (ss, fs).1 i = true from HW.out.trans hwt]
          rfl
        have ht := tmod4_nat (take1 fs).1
        obtain ⟨r, hr⟩ : ∃ r, (take1 fs).1 % 4 = r := ⟨_, rfl⟩
        rw [hr] at ht
        have RT := Lib.hid fun w' => rs_take w' u1 fs
        have kp : keepOf fs = if r = 2 then (256, (take1 fs).2) else if r = 3 then take1 (take1 fs).2 else (0, (take1 fs).2) := by unfold keepOf; rw [hr]
        have tb := take1_bts PF.out
        dsimp only at tb
        obtain ⟨T, hT⟩ : ∃ T, (take1 fs).1 = T := ⟨_, rfl⟩
        obtain ⟨R, hR⟩ : ∃ R, (take1 fs).2 = R := ⟨_, rfl⟩
        rw [hR] at kp
        rw [hT] at ht
        rw [hT, hR] at tb
        simp only [hT, hR] at RT
        have hT256 := tb.1
        have TB := Lib.hid tb.2
        have yx : ∀ k, powOne x k = ⟨x.has.take k ++ x.safe.drop k, x.safe, true⟩ := fun k => by unfold powOne; rw [hwt]
        have HXX2 := Lib.hid hxx
        clear hr hT hR tb PS hxx
        by_cases h2 : r = 2
        · subst h2
          have PS9 : Hid (powTo s f (i + 1) = (ss.set i ⟨x.has, x.safe, true⟩, R)) := by
            refine PSF.out.trans ?_
            rw [powF_set ss fs i HXX2.out (kp.trans (if_pos rfl)), yx, List.take_of_length_le (by rw [XK.out.hasL]; omega), List.drop_eq_nil_of_le (by rw [XK.out.safeL]; omega), List.append_nil]
          clear kp yx PSF
          go_wp2_with fail
          refine (RT.out _ (HV.out.same KB.out) PF.out).mono ?_
          rintro e w3 ⟨⟨v9, rfl, fv9⟩, k3⟩
          have KR := Lib.hid (show Same wr w3 from KB.out.trans k3)
          have B6 := Lib.hid (show Blk w3 wr.heap.size #[.string H, .string S, .bool true] 107 from (Blk.new wr _ _).kept k3 (fun h => h))
          have FV9 := Lib.hid fv9
          have zw0 : w.heap.size < wr.heap.size := z0
          have zw1 : w.heap.size + 1 < wr.heap.size := z1
          clear p0 f0 z0 p1 f1 z1
          obtain ⟨p0, f0, p1, f1, -⟩ := (HF.out.same KR.out).rules
          have z0 := (HF.out.same KR.out).1.lt
          have z1 := (HF.out.same KR.out).2.1.lt
          have p6 := cell_blk B6.out
          have f6 := fun i => B6.out.free i
          have z6 := B6.out.lt
          clear k3 fv9 KB
          go_wp2_with fail
          refine (WW.out ⟨x.has, x.safe, true⟩ _ _ HZH.out HZS.out _ (HSE.out.same (by repeat (first | with_reducible exact KR.out | with_reducible refine Kept.drew ?_ | with_reducible refine Kept.setNew ?_ (by dsimp only; omega) _)))).mono ?_
          rintro e w5 ⟨a5, c5, rfl, hs5, k5⟩
          have KR5 := Lib.hid (show Same wr w5 from Kept.trans (by repeat (first | with_reducible exact KR.out | with_reducible refine Kept.drew ?_ | with_reducible refine Kept.setNew ?_ (by dsimp only; omega) _)) k5)
          have V5 := Lib.hid (show FatesV w5 v9 R from FatesV.same (FatesV.apart FV9.out B6.out (by repeat (first | with_reducible exact Kept.refl _ _ | with_reducible refine Kept.drew ?_ | with_reducible refine Kept.setG ?_ _ _)) (nou8_3 _ _ _)) k5)
          have HS5 := Lib.hid hs5
          clear hs5 k5 KR p0 f0 z0 p1 f1 z1 B6 FV9
          have FF := HF.out.same KR5.out
          obtain ⟨p0, f0, p1, f1, -⟩ := FF.rules
          have z0 := FF.1.lt
          have z1 := FF.2.1.lt
          have HFF := Lib.hid FF
          clear FF HF
          go_wp2_with fail
          go_roundw
          case rel =>
            have hbk : Blk w5 w.heap.size #[.slice (some ⟨b, o, none⟩) s.length c', .bool off, .int .i64 calls, .int .i64 after, .bool done] 43 := HFF.out.1
            have hbk1 : Blk w5 (w.heap.size + 1) #[.slice none 0 0, .bool false, .int .i64 0, .int .i64 0, .bool false] 43 := HFF.out.2.1
            refine ⟨i + 1, a5, c5, by go_num, by omega, ?_, ?_, ⟨?_, ?_, trivial⟩, ?_⟩
            · rw [PS9.out]
              refine FatesV.apart V5.out hbk ?_ (nou8_5 _ _ _ _ _ _ _)
              repeat (first | with_reducible exact Kept.refl _ _ | with_reducible refine Kept.drew ?_ | with_reducible refine Kept.setG ?_ _ _)
            · rw [PS9.out]
              refine SecsAt.apart HS5.out hbk ?_ (nostr5 _ _ _ _ _ _ _)
              repeat (first | with_reducible exact Kept.refl _ _ | with_reducible refine Kept.drew ?_ | with_reducible refine Kept.setG ?_ _ _)
            · exact Blk.set5 hbk
            · repeat (first | with_reducible exact hbk1 | with_reducible refine Blk.other ?_ (by dsimp only; omega) _)
            · repeat (first | with_reducible exact HK.out.trans KR5.out | with_reducible refine Kept.setNew ?_ (by dsimp only; omega) _)
          case measure => simp [intOf]; omega
        · by_cases h3 : r = 3
          · subst h3
            have tb2 := take1_bts TB.out
            obtain ⟨M, hM⟩ : ∃ M, (take1 R).1 = M := ⟨_, rfl⟩
            obtain ⟨R2, hR2⟩ : ∃ R2, (take1 R).2 = R2 := ⟨_, rfl⟩
            have hMR : take1 R = (M, R2) := by rw [← hM, ← hR2]
            rw [hM, hR2] at tb2
            have PS9 : Hid (powTo s f (i + 1) = (ss.set i ⟨x.has.take M ++ x.safe.drop M, x.safe, true⟩, R2)) := by
              refine PSF.out.trans ?_
              rw [powF_set ss fs i HXX2.out (kp.trans ((if_neg (by decide)).trans ((if_pos rfl).trans hMR))), yx]
            have hM256 := tb2.1
            have HMR := Lib.hid hMR
            have hM0 : (0 : Int) ≤ (M : Int) := by omega
            clear kp yx PSF h2 hM hR2 tb2 hMR
            go_wp2_with fail
            refine (RT.out _ (HV.out.same KB.out) PF.out).mono ?_
            rintro e w3 ⟨⟨v9, rfl, fv9⟩, k3⟩
            have KR := Lib.hid (show Same wr w3 from KB.out.trans k3)
            have B6 := Lib.hid (show Blk w3 wr.heap.size #[.string H, .string S, .bool true] 107 from (Blk.new wr _ _).kept k3 (fun h => h))
            have FV9 := Lib.hid fv9
            have zw0 : w.heap.size < wr.heap.size := z0
            have zw1 : w.heap.size + 1 < wr.heap.size := z1
            clear p0 f0 z0 p1 f1 z1
            obtain ⟨p0, f0, p1, f1, -⟩ := (HF.out.same KR.out).rules
            have z0 := (HF.out.same KR.out).1.lt
            have z1 := (HF.out.same KR.out).2.1.lt
            have p6 := cell_blk B6.out
            have f6 := fun i => B6.out.free i
            have z6 := B6.out.lt
            clear k3 fv9 KB
            go_wp2_with fail
            refine (rs_take w3 v9 R FV9.out TB.out).mono ?_
            rw [HMR.out]
            rintro e w4 ⟨⟨v8, rfl, fv8⟩, k4⟩
            have KR' := Lib.hid (show Same wr w4 from KR.out.trans k4)
            have B6' := Lib.hid (show Blk w4 wr.heap.size #[.string H, .string S, .bool true] 107 from B6.out.kept k4 (fun h => h))
            clear KR B6 FV9 p6 f6 z6 p0 f0 z0 p1 f1 z1
            have KR := KR'
            have B6 := B6'
            have FV9 := Lib.hid fv8
            clear KR' B6' fv8 k4
            obtain ⟨p0, f0, p1, f1, -⟩ := (HF.out.same KR.out).rules
            have z0 := (HF.out.same KR.out).1.lt
            have z1 := (HF.out.same KR.out).2.1.lt
            have p6 := cell_blk B6.out
            have f6 := fun i => B6.out.free i
            have z6 := B6.out.lt
            have HZZ : Hid (H.extract 0 M ++ S.extract M 256 = strN (x.has.take M ++ x.safe.drop M)) := by
              show _ = _
              rw [HZH.out, HZS.out, strN_cut, strN_cut, strN_app, List.drop_zero, List.take_of_length_le (l := x.safe) (by rw [XK.out.safeL]; omega)]
            have sH : H.size = 256 := SH.out
            have sS : S.size = 256 := SS.out
            have hM3 : (M : Int) ≤ 256 := by omega
            have hM4 : M ≤ 256 := by omega
            go_wp2_with fail
            go_region
            all_goals
              go_wp2_with fail
              refine (WW.out ⟨(x.has.take M ++ x.safe.drop M), x.safe, true⟩ _ _ HZZ.out HZS.out _ (HSE.out.same (by repeat (first | with_reducible exact KR.out | with_reducible refine Kept.drew ?_ | with_reducible refine Kept.setNew ?_ (by dsimp only; omega) _)))).mono ?_
              rintro e w5 ⟨a5, c5, rfl, hs5, k5⟩
              have KR5 := Lib.hid (show Same wr w5 from Kept.trans (by repeat (first | with_reducible exact KR.out | with_reducible refine Kept.drew ?_ | with_reducible refine Kept.setNew ?_ (by dsimp only; omega) _)) k5)
              have V5 := Lib.hid (show FatesV w5 v8 R2 from FatesV.same (FatesV.apart FV9.out B6.out (by repeat (first | with_reducible exact Kept.refl _ _ | with_reducible refine Kept.drew ?_ | with_reducible refine Kept.setG ?_ _ _)) (nou8_3 _ _ _)) k5)
              have HS5 := Lib.hid hs5
              clear hs5 k5 KR p0 f0 z0 p1 f1 z1 B6 FV9
              have FF := HF.out.same KR5.out
              obtain ⟨p0, f0, p1, f1, -⟩ := FF.rules
              have z0 := FF.1.lt
              have z1 := FF.2.1.lt
              have HFF := Lib.hid FF
              clear FF HF
              go_wp2_with fail
              go_roundw
              case rel =>
                have hbk : Blk w5 w.heap.size #[.slice (some ⟨b, o, none⟩) s.length c', .bool off, .int .i64 calls, .int .i64 after, .bool done] 43 := HFF.out.1
                have hbk1 : Blk w5 (w.heap.size + 1) #[.slice none 0 0, .bool false, .int .i64 0, .int .i64 0, .bool false] 43 := HFF.out.2.1
                refine ⟨i + 1, a5, c5, by go_num, by omega, ?_, ?_, ⟨?_, ?_, trivial⟩, ?_⟩
                · rw [PS9.out]
                  refine FatesV.apart V5.out hbk ?_ (nou8_5 _ _ _ _ _ _ _)
                  repeat (first | with_reducible exact Kept.refl _ _ | with_reducible refine Kept.drew ?_ | with_reducible refine Kept.setG ?_ _ _)
                · rw [PS9.out]
                  refine SecsAt.apart HS5.out hbk ?_ (nostr5 _ _ _ _ _ _ _)
                  repeat (first | with_reducible exact Kept.refl _ _ | with_reducible refine Kept.drew ?_ | with_reducible refine Kept.setG ?_ _ _)
                · exact Blk.set5 hbk
                · repeat (first | with_reducible exact hbk1 | with_reducible refine Blk.other ?_ (by dsimp only; omega) _)
                · repeat (first | with_reducible exact HK.out.trans KR5.out | with_reducible refine Kept.setNew ?_ (by dsimp only; omega) _)
              case measure => simp [intOf]; omega
          · have PS9 : Hid (powTo s f (i + 1) = (ss.set i ⟨x.safe, x.safe, true⟩, R)) := by
              refine PSF.out.trans ?_
              rw [powF_set ss fs i HXX2.out (kp.trans ((if_neg h2).trans (if_neg h3))), yx, List.take_zero, List.drop_zero, List.nil_append]
            have h2' : ¬ (r : Int) = 2 := by omega
            have h3' : ¬ (r : Int) = 3 := by omega
            clear kp yx PSF h2 h3
            go_wp2_with fail
            refine (RT.out _ (HV.out.same KB.out) PF.out).mono ?_
            rintro e w3 ⟨⟨v9, rfl, fv9⟩, k3⟩
            have KR := Lib.hid (show Same wr w3 from KB.out.trans k3)
            have B6 := Lib.hid (show Blk w3 wr.heap.size #[.string H, .string S, .bool true] 107 from (Blk.new wr _ _).kept k3 (fun h => h))
            have FV9 := Lib.hid fv9
            have zw0 : w.heap.size < wr.heap.size := z0
            have zw1 : w.heap.size + 1 < wr.heap.size := z1
            clear p0 f0 z0 p1 f1 z1
            obtain ⟨p0, f0, p1, f1, -⟩ := (HF.out.same KR.out).rules
            have z0 := (HF.out.same KR.out).1.lt
            have z1 := (HF.out.same KR.out).2.1.lt
            have p6 := cell_blk B6.out
            have f6 := fun i => B6.out.free i
            have z6 := B6.out.lt
            clear k3 fv9 KB
            go_wp2_with fail
            refine (WW.out ⟨x.safe, x.safe, true⟩ _ _ HZS.out HZS.out _ (HSE.out.same (by repeat (first | with_reducible exact KR.out | with_reducible refine Kept.drew ?_ | with_reducible refine Kept.setNew ?_ (by dsimp only; omega) _)))).mono ?_
            rintro e w5 ⟨a5, c5, rfl, hs5, k5⟩
            have KR5 := Lib.hid (show Same wr w5 from Kept.trans (by repeat (first | with_reducible exact KR.out | with_reducible refine Kept.drew ?_ | with_reducible refine Kept.setNew ?_ (by dsimp only; omega) _)) k5)
            have V5 := Lib.hid (show FatesV w5 v9 R from FatesV.same (FatesV.apart FV9.out B6.out (by repeat (first | with_reducible exact Kept.refl _ _ | with_reducible refine Kept.drew ?_ | with_reducible refine Kept.setG ?_ _ _)) (nou8_3 _ _ _)) k5)
            have HS5 := Lib.hid hs5
            clear hs5 k5 KR p0 f0 z0 p1 f1 z1 B6 FV9
            have FF := HF.out.same KR5.out
            obtain ⟨p0, f0, p1, f1, -⟩ := FF.rules
            have z0 := FF.1.lt
            have z1 := FF.2.1.lt
            have HFF := Lib.hid FF
            clear FF HF
            go_wp2_with fail
            go_roundw
            case rel =>
              have hbk : Blk w5 w.heap.size #[.slice (some ⟨b, o, none⟩) s.length c', .bool off, .int .i64 calls, .int .i64 after, .bool done] 43 := HFF.out.1
              have hbk1 : Blk w5 (w.heap.size + 1) #[.slice none 0 0, .bool false, .int .i64 0, .int .i64 0, .bool false] 43 := HFF.out.2.1
              refine ⟨i + 1, a5, c5, by go_num, by omega, ?_, ?_, ⟨?_, ?_, trivial⟩, ?_⟩
              · rw [PS9.out]
                refine FatesV.apart V5.out hbk ?_ (nou8_5 _ _ _ _ _ _ _)
                repeat (first | with_reducible exact Kept.refl _ _ | with_reducible refine Kept.drew ?_ | with_reducible refine Kept.setG ?_ _ _)
              · rw [PS9.out]
                refine SecsAt.apart HS5.out hbk ?_ (nostr5 _ _ _ _ _ _ _)
                repeat (first | with_reducible exact Kept.refl _ _ | with_reducible refine Kept.drew ?_ | with_reducible refine Kept.setG ?_ _ _)
              · exact Blk.set5 hbk
              · repeat (first | with_reducible exact hbk1 | with_reducible refine Blk.other ?_ (by dsimp only; omega) _)
              · repeat (first | with_reducible exact HK.out.trans KR5.out | with_reducible refine Kept.setNew ?_ (by dsimp only; omega) _)
            case measure => simp [intOf]; omega
    · have e : i = s.length := by omega
      subst e
      have W : Hid (∀ w', SecsAt w' a' ss → Calls Try.prog 94 #[.agg #[.slice a' s.length c', .bool false, .int .i64 calls, .int .i64 (-1), .bool false]] w' fun e w'' =>
          ∃ a5 c5, e = .returned (.agg #[.slice a5 s.length c5, .bool false, .int .i64 calls, .int .i64 (-1), .bool false]) ∧ (SecsAt w'' a5 (settle ss) ∧ Far w' a5) ∧ Same w' w'') := by
        intro w' h
        refine (rs_safe a' s.length c' ⟨ss, false, calls, -1, false⟩ PL.out.symm hl w' h).mono ?_
        rintro e w'' ⟨a5, c5, rfl, h5, k5⟩
        exact ⟨a5, c5, by simp only [refV, settle_len]; rw [PL.out], h5, k5⟩
      clear hse
      go_wp2_with fail
      refine (W.out _ (SecsAt.apart HSE.out HF.out.1 (by repeat (first | with_reducible exact Kept.refl _ _ | with_reducible refine Kept.setG ?_ _ _)) (nostr5 _ _ _ _ _ _ _))).mono ?_
      rintro e w5 ⟨a5, c5, rfl, ⟨hs5, hf5⟩, k5⟩
      have HFA := Lib.hid (show Far w a5 from hf5.mono (Kept.size (fp := fun _ => False) (by repeat (first | with_reducible exact HK.out | with_reducible refine Kept.setNew ?_ (by dsimp only; omega) _))))
      have b1 : Blk w5 (w.heap.size + 1) #[.slice none 0 0, .bool false, .int .i64 0, .int .i64 0, .bool false] 43 := Blk.kept (fp := fun _ => False) (Blk.kept (fp := fun j => j = w.heap.size) HF.out.2.1 (by repeat (first | with_reducible exact Kept.refl _ _ | with_reducible refine Kept.setG ?_ _ _)) (by omega)) k5 (fun h => h)
      have KE := Lib.hid (show Same w w5 from Kept.trans (by repeat (first | with_reducible exact HK.out | with_reducible refine Kept.setNew ?_ (by dsimp only; omega) _)) k5)
      have B1 := Lib.hid b1
      have HS5 := Lib.hid hs5
      have q1 := cell_blk b1
      have e1 := fun i => b1.free i
      have y1 := b1.lt
      clear p0 f0 z0 p1 f1 z1 b1 hs5 k5 hf5
      go_wp2_with fail
      refine bodyPost_ret (results_two rfl _ _ (w.heap.size + 1) 43 #[.slice a5 s.length c5, .bool false, .int .i64 calls, .int .i64 (-1), .bool false] _ rfl (Blk.set5 B1.out) Try.underlying43 rfl (by kernel_rfl)) rfl ?_
      have hfin : settle ss = powS s f := by
        have := powTo_all s f
        rw [HST.out] at this
        exact this
      refine ⟨a5, c5, ?_, ⟨?_, HFA.out⟩, ?_⟩
      · show _ = Ending.returned (refV a5 (powS s f).length c5 ⟨powS s f, false, calls, -1, false⟩)
        rw [powS_len]
        rfl
      · show SecsAt _ a5 (powS s f)
        rw [← hfin]
        refine SecsAt.apart HS5.out B1.out ?_ (nostr5 _ _ _ _ _ _ _)
        repeat (first | with_reducible exact Kept.refl _ _ | with_reducible refine Kept.setG ?_ _ _)
      · repeat (first | with_reducible exact KE.out | with_reducible refine Kept.setNew ?_ (by dsimp only; omega) _)
end Go.Proofs.Ytlmpkonfclnceaa
