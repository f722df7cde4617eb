/- Texts in sectors: lay. -/
import Derived.Test.YtlmpkonfclnceaaGreatWs1
import Derived.Test.YtlmpkonfclnceaaGreatGCpy
import Derived.Lib.BufferWrite
namespace Go.Proofs.YtlmpkonfclnceaaGreat
open Go.RowKit Go.Sort

theorem zeroC_page : Tryz.zeroCells127 = (encB (List.replicate 256 0)).toArray := by kernel_rfl
theorem bits_or64u (x y : Nat) (hx : x < 1099511627777) (hy : y < 256) : bits .or .u64 ((x : Int) * 256) (y : Int) = ((256 * x + y : Nat) : Int) := by
  have e : (x : Int) * 256 = ((256 * x : Nat) : Int) := by omega
  have hor : 256 * x ||| y = 256 * x + y := by
    have := Nat.two_pow_add_eq_or_of_lt (i := 8) (b := y) (by omega) x
    rw [show (2 ^ 8 : Nat) = 256 from rfl] at this
    exact this.symm
  have h1 : (BitVec.ofInt 64 ((256 * x : Nat) : Int)).toNat = 256 * x := by
    rw [BitVec.ofInt_natCast, BitVec.toNat_ofNat]; exact Nat.mod_eq_of_lt (by omega)
  have h2 : (BitVec.ofInt 64 (y : Int)).toNat = y := by
    rw [BitVec.ofInt_natCast, BitVec.toNat_ofNat]; exact Nat.mod_eq_of_lt (by omega)
  rw [e]
  show IntKind.u64.wrap ((BitVec.ofInt 64 ((256 * x : Nat) : Int) ||| BitVec.ofInt 64 (y : Int)).toNat : Int) = _
  rw [BitVec.toNat_or, h1, h2, hor]
  exact u64_wrap _ (by omega) (by omega)
theorem run_copyS {P : Program} (w : World) (dT sT ty e t : TypeId) (hu : P.underlying dT = some (.slice e)) (hs : (P.info? e).map (·.size) = some 1) (g o dl dc : Nat) (xs : List Nat)
    (hb : Blk w g (encB xs).toArray t) (ys : List Nat) (hy : Bts ys) (hfit : o + ys.length ≤ xs.length) (hdl : ys.length ≤ dl) :
    ∃ w', (Builtin.copy_ #[dT, sT] ty #[.slice (some ⟨g, o, none⟩) dl dc, .string (strN ys)]).run P w = .ok (.int .i64 ((ys.length : Nat) : Int)) w' ∧ Blk w' g (encB (xs.take o ++ ys ++ xs.drop (o + ys.length))).toArray t ∧ Kept (fun j => j = g) w w' := by
  have hz := strN_len ys
  have hrun := Lib.run_copy_row_string (P := P) w dT sT ty e g o dl dc (strN ys) (encB xs).toArray t hu hs hb (by rw [hz]; exact hdl) (by rw [hz]; simp [encB_len]; exact hfit)
  rw [hz] at hrun
  have hc : Lib.byteCells (strN ys).data.toList = encB ys := by
    have e : (strN ys).data.toList = ys.map UInt8.ofNat := by unfold strN; simp
    rw [e]
    unfold Lib.byteCells encB
    rw [List.map_map]
    apply List.map_congr_left
    intro x hx
    have := hy x hx
    simp [Nat.mod_eq_of_lt this]
  rw [hc] at hrun
  refine ⟨_, hrun, ?_, ⟨rfl, rfl, rfl, by simp [World.setRow], fun j _ hj => setRow_other w g j _ hj⟩⟩
  have := setRow_heap w g (encB xs).toArray ((encB xs).toArray.toList.take o ++ encB ys ++ (encB xs).toArray.toList.drop (o + ys.length)).toArray t (0, 0) hb
  rw [show (encB (xs.take o ++ ys ++ xs.drop (o + ys.length))).toArray = ((encB xs).toArray.toList.take o ++ encB ys ++ (encB xs).toArray.toList.drop (o + ys.length)).toArray from by simp [encB]]
  exact this
theorem enc_set (L : List Nat) (k x : Nat) : (encB L).toArray.setIfInBounds k (.int .u8 ((x : Nat) : Int)) = (encB (L.set k x)).toArray := by
  unfold encB
  simp [List.map_set]
/-- A sector's stamps, as they are laid. -/
def Zst (s : List Nat) (i : Nat) : List Nat := s.take i ++ List.replicate (8 - i) 0 ++ List.replicate 240 0 ++ s.take i ++ List.replicate (8 - i) 0
set_option maxRecDepth 100000 in
theorem Zst_set {s : List Nat} (h : s.length = 8) {i : Nat} (hi : i < 8) : ((Zst s i).set i (s.getD i 0)).set (248 + i) (s.getD i 0) = Zst s (i + 1) := by
  match s, h with
  | [s0, s1, s2, s3, s4, s5, s6, s7], _ =>
    rcases i with _ | _ | _ | _ | _ | _ | _ | _ | i
    · rfl
    · rfl
    · rfl
    · rfl
    · rfl
    · rfl
    · rfl
    · rfl
    · omega
theorem Zst_len {s : List Nat} (h : s.length = 8) {i : Nat} (hi : i ≤ 8) : (Zst s i).length = 256 := by simp only [Zst, List.length_append, List.length_take, List.length_replicate, h]; omega
/-- A sector, as its texts are laid. -/
def Zly (s : List Nat) (b : List Nat) : List Nat := s ++ [0] ++ b ++ List.replicate (239 - b.length) 0 ++ s
set_option maxRecDepth 100000 in
theorem Zst_end {s : List Nat} (h : s.length = 8) : Zst s 8 = Zly s [] := by
  match s, h with
  | [s0, s1, s2, s3, s4, s5, s6, s7], _ => rfl
theorem Zly_len {s b : List Nat} (h : s.length = 8) (hb : b.length ≤ 239) : (Zly s b).length = 256 := by simp [Zly, h]; omega
theorem Zly_step {s b x : List Nat} (h : s.length = 8) (hb : b.length + (1 + x.length) ≤ 239) :
    ((Zly s b).set (9 + b.length) x.length).take (9 + b.length + 1) ++ x ++ ((Zly s b).set (9 + b.length) x.length).drop (9 + b.length + 1 + x.length) = Zly s (b ++ x.length :: x) := by
  have e : (Zly s b).set (9 + b.length) x.length = s ++ [0] ++ b ++ [x.length] ++ (List.replicate (239 - (b.length + 1)) 0 ++ s) := by
    unfold Zly
    rw [show 239 - b.length = (239 - (b.length + 1)) + 1 from by omega, List.replicate_succ]
    simp only [List.append_assoc]
    rw [← List.append_assoc s, ← List.append_assoc (s ++ [0]), List.set_append_right _ _ (by simp [h]; omega)]
    rw [show 9 + b.length - (s ++ [0] ++ b : List Nat).length = 0 from by simp [h]; omega]
    simp
  have hl : (s ++ [0] ++ b ++ [x.length]).length = 9 + b.length + 1 := by simp [h]; omega
  rw [e, List.take_append_of_le_length (by rw [hl]; exact Nat.le_refl _), List.take_of_length_le (by rw [hl]; exact Nat.le_refl _)]
  rw [List.drop_append, List.drop_eq_nil_of_le (by rw [hl]; omega), List.nil_append, hl, show 9 + b.length + 1 + x.length - (9 + b.length + 1) = x.length from by omega]
  rw [List.drop_append_of_le_length (by simp; omega), List.drop_replicate]
  unfold Zly
  rw [show 239 - (b.length + 1) - x.length = 239 - (b ++ x.length :: x).length from by simp; omega]
  simp [List.append_assoc]
theorem Zly_done (e a : Nat) (l : List (List Nat)) : (Zly (stm e a) (bdy l)).set 8 (bdy l).length = layS e a l := by
  unfold Zly layS
  simp only [List.append_assoc]
  rw [List.set_append_right _ _ (by rw [stm_len]; exact Nat.le_refl _), stm_len]
  rfl
theorem blk_at {w : World} {g : Nat} {L : List Nat} {t : TypeId} (h : Blk w g (encB L).toArray t) (hl : L.length = 256) {i : Nat} (hi : i < 256) : w.cell? ⟨g, i, none⟩ = some (.int .u8 ((L.getD i 0 : Nat) : Int)) := by
  rw [cell_blk h]
  simp [encB, List.getD_eq_getElem?_getD, List.getElem?_eq_getElem (show i < L.length by omega)]
theorem addr_addn (b n : Nat) : (⟨b, 0, none⟩ : Addr).add n = ⟨b, n, none⟩ := by
  unfold Addr.add
  split
  · subst n; rfl
  · simp
theorem slice_page (g : Nat) {k : Nat} (hk : k < 255) (w : World) : (Instr.sliceAt 127 (.pointer (some ⟨g, 0, none⟩)) (some (.int .i64 ((k : Int) + 1))) none none).run Tryz.prog w = .ok (.slice (some ⟨g, k + 1, none⟩) (255 - k) (255 - k)) w := by
  have hl : Tryz.prog.arrayLen 127 = 256 := by kernel_rfl
  have hs : (sizeOf (Tryz.prog.elem 127)).run Tryz.prog w = .ok 1 w := by kernel_rfl
  have h1 := run_sliceAt_array_l (P := Tryz.prog) w 127 ⟨g, 0, none⟩ (by kernel_rfl) .i64 ((k : Int) + 1) (by omega) (by rw [hl]; omega)
  rw [h1, hs]
  simp only [Result.andThen_ok, slicedAt, hl]
  rw [show ((k : Int) + 1).toNat = k + 1 from by omega, if_neg (by omega), Nat.mul_one, addr_addn, show 256 - (k + 1) = 255 - k from by omega]
theorem bdy_take_succ {l : List (List Nat)} {m : Nat} {s : List Nat} (h : l[m]? = some s) : bdy (l.take (m + 1)) = bdy (l.take m) ++ s.length :: s := by
  rw [List.take_add_one, h, bdy_append]
  simp [bdy]
theorem bdy_take_le (l : List (List Nat)) (m : Nat) : (bdy (l.take m)).length ≤ (bdy l).length := by
  have := congrArg List.length (bdy_append (l.take m) (l.drop m))
  rw [List.take_append_drop, List.length_append] at this
  omega
theorem bdy_count (l : List (List Nat)) : l.length ≤ (bdy l).length := by
  induction l with
  | nil => exact Nat.le_refl _
  | cons s l ih => rw [bdy_cons]; simp; omega
section
attribute [local go_sem ↓] exec_cpy semAt_cpy
attribute [local go_sem] isCpy_lit appA appX
set_option maxRecDepth 100000 in
set_option maxHeartbeats 800000 in
theorem ws_lay (e a : Nat) (he : 1 ≤ e ∧ e ≤ 1099511627776) (ha : a < 256) (ar : Option Addr) (n c : Nat) (l : List (List Nat)) (hn : n = l.length) (hs : ∀ s ∈ l, s.length ≤ 238) (hb : (bdy l).length ≤ 239) (ht : TBts l) (w : World) (hat : TxtsAt w ar l) :
    Calls Tryz.prog 72 #[.int .i64 (e : Nat), .int .i64 (a : Nat), .slice ar n c] w fun r w' => ∃ g, r = .returned (.slice (some ⟨g, 0, none⟩) 256 256) ∧ NatsAt w' .u8 (some ⟨g, 0, none⟩) (layS e a l) ∧ w.heap.size ≤ g ∧ Same w w' := by
  have he1 : (0 : Int) ≤ (e : Int) := by omega
  have he2 : (e : Int) ≤ 1099511627776 := by omega
  have ha2 : (a : Int) < 256 := by omega
  have hor := bits_or64u e a (by omega) ha
  obtain ⟨N, hN⟩ : ∃ N, 256 * e + a = N := ⟨_, rfl⟩
  rw [hN] at hor
  obtain ⟨st, hst⟩ : ∃ st, stm e a = st := ⟨_, rfl⟩
  have hsl : st.length = 8 := by rw [← hst]; exact stm_len e a
  have hsg : ∀ i, i < 8 → st.getD i 0 = N / 256 ^ (7 - i) % 256 := by
    intro i hi
    rw [← hst, ← hN]
    unfold stm
    rw [List.getD_eq_getElem?_getD, List.getElem?_map, List.getElem?_range hi]
    rfl
  have hn239 : n ≤ 239 := by rw [hn]; exact Nat.le_trans (bdy_count l) hb
  have HSL := Lib.hid hsl
  have HSG := Lib.hid hsg
  have HST := Lib.hid hst
  have HS := Lib.hid hs
  have HB := Lib.hid hb
  have HT := Lib.hid ht
  have HAT := Lib.hid hat
  have HN := Lib.hid hn
  have B0 : Hid (Blk (w.alloc (.cells Tryz.zeroCells127 127)) w.heap.size (encB (Zst st 0)).toArray 127) := by
    show Blk _ _ _ _
    rw [show Zst st 0 = List.replicate 256 0 from rfl, ← zeroC_page]
    exact Blk.new _ _ _
  clear hN hst hsl hsg hs hb ht hat hn
  go_enter Tryz.func72, Tryz.ntmps72
  go_wp2_with fail
  clear hor he1 he2 ha2
  go_loopw [20] (fun t wr => ∃ i : Nat, t = .int .i64 i ∧ i ≤ 8 ∧ Blk wr w.heap.size (encB (Zst st i)).toArray 127 ∧ Kept (fun j => j = w.heap.size) w wr) (fun t _ => 8 - (intOf t).toNat)
  case atStart => exact ⟨0, rfl, by omega, B0.out, (Kept.refl _ _).alloc _⟩
  case round =>
    clear B0
    obtain ⟨i, rfl, hi, hbl, hk⟩ := hrel
    have BL := Lib.hid hbl
    have HK := Lib.hid hk
    have hz := hbl.lt
    have ff := fun i => hbl.free i
    clear hbl hk
    by_cases hgo : i < 8
    · have SET := Lib.hid (Zst_set HSL.out hgo)
      have c1 := blk_at BL.out (Zst_len HSL.out hi) (i := i) (by omega)
      have c2 := blk_at BL.out (Zst_len HSL.out hi) (i := 248 + i) (by omega)
      rcases i with _ | _ | _ | _ | _ | _ | _ | _ | i
      · have v : st.getD 0 0 = N / 72057594037927936 % 256 := HSG.out 0 (by decide)
        have hx : (N : Int) / 72057594037927936 % 256 = ((st.getD 0 0 : Nat) : Int) := by rw [v]; omega
        have b : Blk ((wr.setCell ⟨w.heap.size, 0, none⟩ (.int .u8 ((N : Int) / 72057594037927936 % 256))).setCell ⟨w.heap.size, 248, none⟩ (.int .u8 ((N : Int) / 72057594037927936 % 256))) w.heap.size (encB (Zst st 1)).toArray 127 := by
          have h := (BL.out.set 0 (.int .u8 ((st.getD 0 0 : Nat) : Int))).set 248 (.int .u8 ((st.getD 0 0 : Nat) : Int))
          rw [enc_set, enc_set, Zst_set HSL.out (i := 0) (by decide)] at h
          rw [hx]
          exact h
        have B := Lib.hid b
        clear b hx v
        go_wp2_with fail
        go_roundw
        case rel => exact ⟨1, by go_num, by omega, B.out, (HK.out.setCell (fun _ => rfl) _).setCell (fun _ => rfl) _⟩
        case measure => simp [intOf]
      · have v : st.getD 1 0 = N / 281474976710656 % 256 := HSG.out 1 (by decide)
        have hx : (N : Int) / 281474976710656 % 256 = ((st.getD 1 0 : Nat) : Int) := by rw [v]; omega
        have b : Blk ((wr.setCell ⟨w.heap.size, 1, none⟩ (.int .u8 ((N : Int) / 281474976710656 % 256))).setCell ⟨w.heap.size, 249, none⟩ (.int .u8 ((N : Int) / 281474976710656 % 256))) w.heap.size (encB (Zst st 2)).toArray 127 := by
          have h := (BL.out.set 1 (.int .u8 ((st.getD 1 0 : Nat) : Int))).set 249 (.int .u8 ((st.getD 1 0 : Nat) : Int))
          rw [enc_set, enc_set, Zst_set HSL.out (i := 1) (by decide)] at h
          rw [hx]
          exact h
        have B := Lib.hid b
        clear b hx v
        go_wp2_with fail
        go_roundw
        case rel => exact ⟨2, by go_num, by omega, B.out, (HK.out.setCell (fun _ => rfl) _).setCell (fun _ => rfl) _⟩
        case measure => simp [intOf]
      · have v : st.getD 2 0 = N / 1099511627776 % 256 := HSG.out 2 (by decide)
        have hx : (N : Int) / 1099511627776 % 256 = ((st.getD 2 0 : Nat) : Int) := by rw [v]; omega
        have b : Blk ((wr.setCell ⟨w.heap.size, 2, none⟩ (.int .u8 ((N : Int) / 1099511627776 % 256))).setCell ⟨w.heap.size, 250, none⟩ (.int .u8 ((N : Int) / 1099511627776 % 256))) w.heap.size (encB (Zst st 3)).toArray 127 := by
          have h := (BL.out.set 2 (.int .u8 ((st.getD 2 0 : Nat) : Int))).set 250 (.int .u8 ((st.getD 2 0 : Nat) : Int))
          rw [enc_set, enc_set, Zst_set HSL.out (i := 2) (by decide)] at h
          rw [hx]
          exact h
        have B := Lib.hid b
        clear b hx v
        go_wp2_with fail
        go_roundw
        case rel => exact ⟨3, by go_num, by omega, B.out, (HK.out.setCell (fun _ => rfl) _).setCell (fun _ => rfl) _⟩
        case measure => simp [intOf]
      · have v : st.getD 3 0 = N / 4294967296 % 256 := HSG.out 3 (by decide)
        have hx : (N : Int) / 4294967296 % 256 = ((st.getD 3 0 : Nat) : Int) := by rw [v]; omega
        have b : Blk ((wr.setCell ⟨w.heap.size, 3, none⟩ (.int .u8 ((N : Int) / 4294967296 % 256))).setCell ⟨w.heap.size, 251, none⟩ (.int .u8 ((N : Int) / 4294967296 % 256))) w.heap.size (encB (Zst st 4)).toArray 127 := by
          have h := (BL.out.set 3 (.int .u8 ((st.getD 3 0 : Nat) : Int))).set 251 (.int .u8 ((st.getD 3 0 : Nat) : Int))
          rw [enc_set, enc_set, Zst_set HSL.out (i := 3) (by decide)] at h
          rw [hx]
          exact h
        have B := Lib.hid b
        clear b hx v
        go_wp2_with fail
        go_roundw
        case rel => exact ⟨4, by go_num, by omega, B.out, (HK.out.setCell (fun _ => rfl) _).setCell (fun _ => rfl) _⟩
        case measure => simp [intOf]
      · have v : st.getD 4 0 = N / 16777216 % 256 := HSG.out 4 (by decide)
        have hx : (N : Int) / 16777216 % 256 = ((st.getD 4 0 : Nat) : Int) := by rw [v]; omega
        have b : Blk ((wr.setCell ⟨w.heap.size, 4, none⟩ (.int .u8 ((N : Int) / 16777216 % 256))).setCell ⟨w.heap.size, 252, none⟩ (.int .u8 ((N : Int) / 16777216 % 256))) w.heap.size (encB (Zst st 5)).toArray 127 := by
          have h := (BL.out.set 4 (.int .u8 ((st.getD 4 0 : Nat) : Int))).set 252 (.int .u8 ((st.getD 4 0 : Nat) : Int))
          rw [enc_set, enc_set, Zst_set HSL.out (i := 4) (by decide)] at h
          rw [hx]
          exact h
        have B := Lib.hid b
        clear b hx v
        go_wp2_with fail
        go_roundw
        case rel => exact ⟨5, by go_num, by omega, B.out, (HK.out.setCell (fun _ => rfl) _).setCell (fun _ => rfl) _⟩
        case measure => simp [intOf]
      · have v : st.getD 5 0 = N / 65536 % 256 := HSG.out 5 (by decide)
        have hx : (N : Int) / 65536 % 256 = ((st.getD 5 0 : Nat) : Int) := by rw [v]; omega
        have b : Blk ((wr.setCell ⟨w.heap.size, 5, none⟩ (.int .u8 ((N : Int) / 65536 % 256))).setCell ⟨w.heap.size, 253, none⟩ (.int .u8 ((N : Int) / 65536 % 256))) w.heap.size (encB (Zst st 6)).toArray 127 := by
          have h := (BL.out.set 5 (.int .u8 ((st.getD 5 0 : Nat) : Int))).set 253 (.int .u8 ((st.getD 5 0 : Nat) : Int))
          rw [enc_set, enc_set, Zst_set HSL.out (i := 5) (by decide)] at h
          rw [hx]
          exact h
        have B := Lib.hid b
        clear b hx v
        go_wp2_with fail
        go_roundw
        case rel => exact ⟨6, by go_num, by omega, B.out, (HK.out.setCell (fun _ => rfl) _).setCell (fun _ => rfl) _⟩
        case measure => simp [intOf]
      · have v : st.getD 6 0 = N / 256 % 256 := HSG.out 6 (by decide)
        have hx : (N : Int) / 256 % 256 = ((st.getD 6 0 : Nat) : Int) := by rw [v]; omega
        have b : Blk ((wr.setCell ⟨w.heap.size, 6, none⟩ (.int .u8 ((N : Int) / 256 % 256))).setCell ⟨w.heap.size, 254, none⟩ (.int .u8 ((N : Int) / 256 % 256))) w.heap.size (encB (Zst st 7)).toArray 127 := by
          have h := (BL.out.set 6 (.int .u8 ((st.getD 6 0 : Nat) : Int))).set 254 (.int .u8 ((st.getD 6 0 : Nat) : Int))
          rw [enc_set, enc_set, Zst_set HSL.out (i := 6) (by decide)] at h
          rw [hx]
          exact h
        have B := Lib.hid b
        clear b hx v
        go_wp2_with fail
        go_roundw
        case rel => exact ⟨7, by go_num, by omega, B.out, (HK.out.setCell (fun _ => rfl) _).setCell (fun _ => rfl) _⟩
        case measure => simp [intOf]
      · have v : st.getD 7 0 = N / 1 % 256 := HSG.out 7 (by decide)
        have hx : (N : Int) % 256 = ((st.getD 7 0 : Nat) : Int) := by rw [v]; omega
        have b : Blk ((wr.setCell ⟨w.heap.size, 7, none⟩ (.int .u8 ((N : Int) % 256))).setCell ⟨w.heap.size, 255, none⟩ (.int .u8 ((N : Int) % 256))) w.heap.size (encB (Zst st 8)).toArray 127 := by
          have h := (BL.out.set 7 (.int .u8 ((st.getD 7 0 : Nat) : Int))).set 255 (.int .u8 ((st.getD 7 0 : Nat) : Int))
          rw [enc_set, enc_set, Zst_set HSL.out (i := 7) (by decide)] at h
          rw [hx]
          exact h
        have B := Lib.hid b
        clear b hx v
        go_wp2_with fail
        go_roundw
        case rel => exact ⟨8, by go_num, by omega, B.out, (HK.out.setCell (fun _ => rfl) _).setCell (fun _ => rfl) _⟩
        case measure => simp [intOf]
      · omega
    · have e8 : i = 8 := by omega
      have g1 : ¬ (i : Int) < 8 := by omega
      have B1 : Hid (Blk wr w.heap.size (encB (Zly st (bdy (l.take 0)))).toArray 127) := by
        show Blk _ _ _ _
        rw [List.take_zero, show bdy [] = [] from rfl, ← Zst_end HSL.out, ← e8]
        exact BL.out
      clear e8
      go_wp2_with fail
      clear BL
      go_loopw [11, 39] (fun kv t wx => ∃ m : Nat, t = .int .i64 m ∧ m ≤ n ∧ kv = .int .i64 ((9 + (bdy (l.take m)).length : Nat) : Int) ∧ Blk wx w.heap.size (encB (Zly st (bdy (l.take m)))).toArray 127 ∧ Kept (fun j => j = w.heap.size) w wx) (fun _ t _ => n - (intOf t).toNat)
      case atStart => exact ⟨0, rfl, by omega, rfl, B1.out, HK.out⟩
      case round =>
        clear B1 HK ff hz
        obtain ⟨m, rfl, hm, rfl, hbl, hk⟩ := hrel
        have BL := Lib.hid hbl
        have HK := Lib.hid hk
        have hz := hbl.lt
        have ff := fun i => hbl.free i
        clear hbl hk
        have hX := bdy_take_le l m
        have HX : Hid ((bdy (l.take m)).length ≤ 239) := Nat.le_trans hX HB.out
        clear hX
        by_cases hgo : m < n
        · obtain ⟨b, off, s, rfl, hb, hs, hc0⟩ := HAT.out.at (i := m) (by have := HN.out; omega)
          have hstep := bdy_take_succ hs
          have hle := bdy_take_le l (m + 1)
          have hc := (HK.out.cell (p := ⟨b, off + m, none⟩) hb (by dsimp only; omega)).trans hc0
          have hsz := strN_len s
          have hsb := HT.out s (List.mem_of_getElem? hs)
          have hlen : (bdy (l.take m)).length + (1 + s.length) ≤ 239 := by
            have := HB.out
            rw [hstep] at hle
            simp at hle
            omega
          have ZS := Zly_step (x := s) HSL.out hlen
          rw [← hstep] at ZS
          have HSTEP : Hid ((bdy (l.take (m + 1))).length = (bdy (l.take m)).length + (1 + s.length)) := by show _ = _; rw [hstep]; simp; omega
          obtain ⟨X, hX⟩ : ∃ X, bdy (l.take m) = X := ⟨_, rfl⟩
          obtain ⟨Y, hY⟩ : ∃ Y, bdy (l.take (m + 1)) = Y := ⟨_, rfl⟩
          have hY2 := Lib.hid hY
          rw [hX] at BL hlen ZS HSTEP ⊢
          rw [hY] at ZS HSTEP
          have cK := blk_at BL.out (Zly_len HSL.out (by omega)) (i := 9 + X.length) (by omega)
          have b1 := BL.out.set (9 + X.length) (.int .u8 ((s.length : Nat) : Int))
          rw [enc_set] at b1
          obtain ⟨w3, hcp, b3, k3⟩ := run_copyS (P := Tryz.prog) _ 29 9 3 5 127 Tryz.underlying29 (by kernel_rfl) w.heap.size (9 + X.length + 1) (255 - (9 + X.length)) (255 - (9 + X.length)) _ b1 s hsb (by rw [List.length_set, Zly_len HSL.out (by omega)]; omega) (by omega)
          rw [ZS] at b3
          obtain ⟨aok, aV, aW⟩ := cpy_of hcp
          have B3 := Lib.hid b3
          have K3 := Lib.hid ((HK.out.setCell (p := ⟨w.heap.size, 9 + X.length, none⟩) (fun _ => rfl) (.int .u8 ((s.length : Nat) : Int))).trans k3)
          have hslp := slice_page w.heap.size (k := 9 + X.length) (by omega) (wr.setCell ⟨w.heap.size, 9 + X.length, none⟩ (.int .u8 ((s.length : Nat) : Int)))
          have g1 : (m : Int) < (n : Int) := by omega
          have g0 : (0 : Int) ≤ (m : Int) := by omega
          have gs8 : (s.length : Int) < 256 := by omega
          obtain ⟨kk, hkk⟩ : ∃ kk, 9 + X.length = kk := ⟨_, rfl⟩
          rw [hkk] at cK aok aV aW hslp ⊢
          have gk : (kk : Int) < 248 := by omega
          have gk0 : (0 : Int) ≤ (kk : Int) := by omega
          have HKK := Lib.hid hkk
          clear hcp b1 b3 k3 hc0 hs hstep hle hsb ZS hX hY hkk BL HK
          go_wp2_with fail
          go_roundw
          case rel =>
            refine ⟨m + 1, by go_num, by omega, ?_, (by rw [hY2.out]; exact B3.out), K3.out⟩
            rw [hY2.out]
            have h1 := HSTEP.out
            have h2 := HKK.out
            go_num
          case measure => simp [intOf]; omega
        · have em : m = n := by omega
          have hl : l.take m = l := List.take_of_length_le (by have := HN.out; omega)
          have c8 := blk_at BL.out (Zly_len HSL.out HX.out) (i := 8) (by decide)
          rw [hl] at BL c8 HX ⊢
          have b9 := BL.out.set 8 (.int .u8 (((bdy l).length : Nat) : Int))
          rw [enc_set, ← HST.out, Zly_done] at b9
          have B9 := Lib.hid b9
          have K9 := Lib.hid (HK.out.setCell (p := ⟨w.heap.size, 8, none⟩) (fun _ => rfl) (.int .u8 (((bdy l).length : Nat) : Int)))
          have LL := Lib.hid (layS_len e a HX.out)
          have hx := HX.out
          obtain ⟨X, hX⟩ : ∃ X, (bdy l).length = X := ⟨_, rfl⟩
          rw [hX] at hx B9 K9 ⊢
          have gx : (X : Int) < 256 := by omega
          have g1 : ¬ (m : Int) < (n : Int) := by omega
          have h9 : 9 + (X : Int) - 9 = X := by omega
          clear hl em b9 BL HK hX
          go_wp2_with fail
          go_ret
          refine ⟨w.heap.size, rfl, ?_, Nat.le_refl _, ?_⟩
          · refine .inr ⟨w.heap.size, 0, rfl, B9.out.lt, fun j y hj => ?_⟩
            rw [cell_blk B9.out, Nat.zero_add]
            simp [encB, hj]
          · exact (Kept.refl _ w).step K9.out (fun i hi q => by omega)
end
end Go.Proofs.YtlmpkonfclnceaaGreat
