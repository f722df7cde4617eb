/- RdCo3: ConsoleTells at what is read, where its texts lie within the form's own reach. -/
import Derived.Test.YtnjmdldhgconmaaGreatDoorRdCon
import Derived.Test.YtnjmdldhgconmaaGreatDoorCw4
import Derived.Deep.SlicePairs
namespace Go.Proofs.YtnjmdldhgconmaaGreatDoor
open Go.ChangeShapes Go.WideShapes Go.ChangeAt Go.RowKit Go.Sort

theorem encStr_ofC (s : ByteArray) : encStr s.data.toList = .string s := by simp [encStr]
theorem natsU_of (xs : List Nat) (h : ∀ y ∈ xs, (y : Int) ≤ 255) : natsU (xs.map UInt8.ofNat) = xs := by
  unfold natsU
  rw [List.map_map]
  conv => rhs; rw [← List.map_id xs]
  apply List.map_congr_left
  intro x hx
  have := h x hx
  simp
  omega
section
variable {H : Type} {enc : TypeId × Value → H} {W : World} {base : Nat} {v : Value} {d : DataW H} {p : List MemPlace}
set_option maxRecDepth 100000 in
theorem step_rd (h : DataW.Trod enc Tryz.prog W 0 (fun _ => true) true 30 v d p) (hv : Value.okWide Tryz.prog W .any base 30 v) :
    ∃ (s : Stp) (fa : Option Addr) (ca : Nat), v = .agg #[.int .u8 (s.k : Nat), .int .i64 s.txn, encStr s.key, encStr s.val, .int .i64 s.n, .bool s.d, .slice fa s.f.length ca] ∧ NatsAt W .u8 fa (natsU s.f) ∧ -9223372036854775808 ≤ s.txn ∧ s.txn ≤ 9223372036854775807 ∧ -9223372036854775808 ≤ s.n ∧ s.n ≤ 9223372036854775807 := by
  obtain ⟨cs, rfl, hsz⟩ := okWide_struct Tryz.underlying30 hv
  have h2 : cs.size = 7 := by rw [hsz]; kernel_rfl
  obtain ⟨fuel, hf⟩ := h
  obtain ⟨xs, m, rfl, e, hlen, hxs, hi⟩ := DataW.trod_struct (cs := cs.toList) Tryz.underlying30 hf
  obtain ⟨l, rfl⟩ : ∃ l : List Value, cs = l.toArray := ⟨cs.toList, by simp⟩
  simp only [List.size_toArray] at h2
  match l, h2 with
  | [c0, c1, c2, c3, c4, c5, c6], _ =>
    have q0 := hi 0 _ rfl
    have q1 := hi 1 _ rfl
    have q2 := hi 2 _ rfl
    have q3 := hi 3 _ rfl
    have q4 := hi 4 _ rfl
    have q5 := hi 5 _ rfl
    have q6 := hi 6 _ rfl
    match xs, hxs with
    | [x0, x1, x2, x3, x4, x5, x6], _ =>
      obtain ⟨k, e0, _, w0⟩ := DataW.trod_int (cs := [c0]) Tryz.underlying5 q0
      obtain ⟨y, e1, _, w1⟩ := DataW.trod_int (cs := [c1]) Tryz.underlying3 q1
      obtain ⟨s, e2, _, _⟩ := DataW.trod_string (cs := [c2]) Tryz.underlying9 q2
      obtain ⟨t, e3, _, _⟩ := DataW.trod_string (cs := [c3]) Tryz.underlying9 q3
      obtain ⟨z, e4, _, w4⟩ := DataW.trod_int (cs := [c4]) Tryz.underlying3 q4
      obtain ⟨b, e5, _⟩ := DataW.trod_bool (cs := [c5]) Tryz.underlying4 q5
      obtain ⟨fa, fc, fs, e6, hat, hB, _, _, _⟩ := nats_read 255 Tryz.underlying25 Tryz.underlying5 (by kernel_rfl) (fun n h => bounds_u8 h) (v := c6) q6
      simp at e0 e1 e2 e3 e4 e5
      subst e0 e1 e2 e3 e4 e5 e6
      have b0 := bounds_u8 w0
      have b1 := bounds_i64 w1
      have b4 := bounds_i64 w4
      refine ⟨⟨k.toNat, y, s.data.toList, t.data.toList, z, b, fs.map UInt8.ofNat⟩, fa, fc, ?_, by rw [natsU_of fs hB]; exact hat, b1.1, b1.2, b4.1, b4.2⟩
      simp only [encStr_ofC, List.length_map]
      rw [show ((k.toNat : Nat) : Int) = k from by omega]
end
theorem weigh_all {H : Type} {P : Program} {e : TypeId} {d : DataW H} {l : List (DataW H)} {n : Nat} (h : d ∈ l) (hn : n ∈ d.weights P e) : n ∈ DataW.weightsAll P e l := by
  induction l with
  | nil => cases h
  | cons x r ih =>
    simp only [DataW.weightsAll, List.mem_append]
    cases List.mem_cons.1 h with
    | inl q => subst q; exact .inl hn
    | inr q => exact .inr (ih q)
theorem weigh_mem {H : Type} {P : Program} {ts : List TypeId} : ∀ {ds : List (DataW H)} {j : Nat} {t : TypeId} {d : DataW H} {n : Nat}, ts[j]? = some t → ds[j]? = some d → n ∈ d.weights P t → n ∈ DataW.weightsEach P ts ds := by
  induction ts with
  | nil => intro ds j t d n h; simp at h
  | cons a ts ih =>
    intro ds j t d n h k hn
    cases ds with
    | nil => simp at k
    | cons b r =>
      simp only [DataW.weightsEach, List.mem_append]
      cases j with
      | zero =>
        simp at h k
        subst h k
        exact .inl hn
      | succ j =>
        simp at h k
        exact .inr (ih h k hn)
section
variable {H : Type} {enc : TypeId × Value → H} {W : World} {base : Nat} {v : Value} {d : DataW H} {p : List MemPlace}
set_option maxRecDepth 100000 in
theorem prb_rd {n : Nat} {c : Value} {x : DataW H × List MemPlace} (hf : DataW.trod enc Tryz.prog W 0 (fun _ => true) true n 37 [c] = some x) (hb : ∀ n ∈ x.1.weights Tryz.prog 37, n ≤ reachBytes) :
    ∃ (a : Option Addr) (len cap : Nat) (l : List (Tx × Tx)), c = .slice a len cap ∧ len = l.length ∧ ElsAt ptE W a l ∧ ∀ p ∈ l, p.1.length ≤ 140737488351232 ∧ p.2.length ≤ 140737488351232 := by
  rcases Deep.open_slice_pairs (e := 42) Tryz.underlying37 Tryz.underlying42 (by kernel_rfl) rfl rfl (by kernel_rfl) (by kernel_rfl) hf with ⟨hc, -⟩ | ⟨a, len, cap, m, n, V0, V1, D0, D1, P0, P1, hc, hbs, hl, hm, hmm, hx, hi⟩
  · obtain rfl : c = .slice none 0 0 := by simpa using hc
    exact ⟨none, 0, 0, [], rfl, rfl, .inl rfl, fun p hp => by cases hp⟩
  · obtain rfl : c = .slice (some a) len cap := by simpa using hc
    have hle : len ≤ m := by rw [hmm]; split <;> omega
    rw [hx] at hb
    have one : ∀ i, i < len → ∃ e : Tx × Tx, V0 i = encStr e.1 ∧ V1 i = encStr e.2 ∧ e.1.length ≤ 140737488351232 ∧ e.2.length ≤ 140737488351232 := by
      intro i hlt
      obtain ⟨_, _, h0, h1⟩ := hi i (by omega)
      obtain ⟨s, e0, d0, _⟩ := DataW.trod_string (cs := [V0 i]) Tryz.underlying9 h0
      obtain ⟨t, e1, d1, _⟩ := DataW.trod_string (cs := [V1 i]) Tryz.underlying9 h1
      have d0' : D0 i = .lit (.string s.data.toList) := congrArg Prod.fst d0
      have d1' : D1 i = .lit (.string t.data.toList) := congrArg Prod.fst d1
      have hin : ∀ k, k ∈ (DataW.agg [D0 i, D1 i]).weights Tryz.prog 42 → k ≤ reachBytes := fun k hk => hb k (by
        simp only [DataW.weights, Tryz.underlying37]
        exact List.mem_cons.2 (.inr (List.mem_append.2 (.inl (weigh_all (List.mem_map.2 ⟨i, List.mem_range.2 hlt, rfl⟩) hk)))))
      rw [d0', d1'] at hin
      have z0 : s.data.toList.length ≤ reachBytes := hin _ (by simp only [DataW.weights, Tryz.underlying42]; exact weigh_mem (j := 0) rfl rfl (by simp [DataW.weights]))
      have z1 : t.data.toList.length ≤ reachBytes := hin _ (by simp only [DataW.weights, Tryz.underlying42]; exact weigh_mem (j := 1) rfl rfl (by simp [DataW.weights]))
      unfold reachBytes at z0 z1
      have f0 : V0 i = .string s := by simpa using e0
      have f1 : V1 i = .string t := by simpa using e1
      exact ⟨(s.data.toList, t.data.toList), by rw [f0, encStr_ofC], by rw [f1, encStr_ofC], z0, z1⟩
    let f : Nat → Tx × Tx := fun i => if hi : i < len then (one i hi).choose else default
    have hfs : ∀ i, i < len → V0 i = encStr (f i).1 ∧ V1 i = encStr (f i).2 ∧ (f i).1.length ≤ 140737488351232 ∧ (f i).2.length ≤ 140737488351232 := by
      intro i hi
      have := (one i hi).choose_spec
      simp only [f, hi, dif_pos]
      exact this
    clear_value f
    have hel : ElsAt ptE W (some a) ((List.range len).map f) := by
      rcases Nat.eq_zero_or_pos len with h0 | hp
      · subst h0; exact .inl rfl
      · have h0 := (hi 0 (by omega)).1
        rw [show a.add (0 * 2) = a by simp [Addr.add]] at h0
        obtain ⟨b, off, spot⟩ := a
        have hspot : spot = none := World.cell?_spot h0
        subst hspot
        refine .inr ⟨b, off, rfl, World.block_lt_of_cell? (w := W) (a := ⟨b, off, none⟩) h0, fun j u hu => ?_⟩
        have hj : j < len * 2 := by
          have := (List.getElem?_eq_some_iff.1 hu).1
          rw [Enc.all_len, List.length_map, List.length_range] at this
          exact this
        have hq : j / 2 < len := by omega
        have hxx : ((List.range len).map f)[j / 2]? = some (f (j / 2)) := by rw [List.getElem?_map, List.getElem?_range hq]; rfl
        have h6 := Enc.all_get ptE ((List.range len).map f) (j / 2) _ hxx (j % 2) (Nat.mod_lt _ (by decide))
        rw [show j / 2 * ptE.n + j % 2 = j from by show j / 2 * 2 + j % 2 = j; omega, hu] at h6
        obtain ⟨c0, c1, _, _⟩ := hi (j / 2) (by omega)
        obtain ⟨g0, g1, _⟩ := hfs (j / 2) hq
        rw [addr_add] at c0 c1
        rcases Nat.mod_two_eq_zero_or_one j with e | e
        · rw [e] at h6
          rw [show off + j = off + j / 2 * 2 from by omega, c0, g0]
          exact h6.symm
        · rw [e] at h6
          rw [show off + j = off + (j / 2 * 2 + 1) from by omega, c1, g1]
          exact h6.symm
    refine ⟨some a, len, cap, (List.range len).map f, rfl, by simp, hel, fun p hp => ?_⟩
    obtain ⟨i, hi', rfl⟩ := List.mem_map.1 hp
    exact (hfs i (List.mem_range.1 hi')).2.2
set_option maxRecDepth 100000 in
theorem ans_rd (h : DataW.Trod enc Tryz.prog W 0 (fun _ => true) true 39 v d p) (hv : Value.okWide Tryz.prog W .any base 39 v) (hb : ∀ n ∈ d.weights Tryz.prog 39, n ≤ reachBytes) :
    ∃ (id ts : Int) (val : Tx) (is : Bool) (pa : Option Addr) (pn pc : Nat) (ps : List (Tx × Tx)), v = .agg #[.int .i64 id, .int .i64 ts, encStr val, .bool is, .slice pa pn pc] ∧ pn = ps.length ∧ ElsAt ptE W pa ps ∧ ∀ p ∈ ps, p.1.length ≤ 140737488351232 ∧ p.2.length ≤ 140737488351232 := by
  obtain ⟨cs, rfl, hsz⟩ := okWide_struct Tryz.underlying39 hv
  have h2 : cs.size = 5 := by rw [hsz]; kernel_rfl
  obtain ⟨fuel, hf⟩ := h
  obtain ⟨xs, m, rfl, e, hlen, hxs, hi⟩ := DataW.trod_struct (cs := cs.toList) Tryz.underlying39 hf
  obtain ⟨l, rfl⟩ : ∃ l : List Value, cs = l.toArray := ⟨cs.toList, by simp⟩
  simp only [List.size_toArray] at h2
  match l, h2 with
  | [c0, c1, c2, c3, c4], _ =>
    have q0 := hi 0 _ rfl
    have q1 := hi 1 _ rfl
    have q2 := hi 2 _ rfl
    have q3 := hi 3 _ rfl
    have q4 := hi 4 _ rfl
    match xs, hxs with
    | [x0, x1, x2, x3, x4], _ =>
      have hd : d = .agg [x0.1, x1.1, x2.1, x3.1, x4.1] := congrArg Prod.fst e
      rw [hd] at hb
      obtain ⟨k, e0, _, w0⟩ := DataW.trod_int (cs := [c0]) Tryz.underlying3 q0
      obtain ⟨y, e1, _, w1⟩ := DataW.trod_int (cs := [c1]) Tryz.underlying3 q1
      obtain ⟨s, e2, _, _⟩ := DataW.trod_string (cs := [c2]) Tryz.underlying9 q2
      obtain ⟨b, e3, _⟩ := DataW.trod_bool (cs := [c3]) Tryz.underlying4 q3
      obtain ⟨pa, pn, pc, ps, e4, hn, hel, hbd⟩ := prb_rd (c := c4) (x := x4) q4 (fun n hn => hb n (by simp only [DataW.weights, Tryz.underlying39]; exact weigh_mem (j := 4) rfl rfl hn))
      simp at e0 e1 e2 e3
      subst e0 e1 e2 e3 e4
      exact ⟨k, y, s.data.toList, b, pa, pn, pc, ps, by rw [encStr_ofC], hn, hel, hbd⟩
end
set_option maxRecDepth 100000 in
theorem tells27_read {H : Type} {enc : TypeId × Value → H} (W : World) (hT : TabOK W) (hM : MaxOK W) {base : Nat} {v0 v1 v2 : Value} {d0 d1 d2 : DataW H} {p0 p1 p2 : List MemPlace}
    {ts : List TypeId} {ds : List (DataW H)} (hsz : (DataW.weightsEach Tryz.prog ts ds).all (· ≤ reachBytes) = true) (ht : ts[1]? = some 39) (hd : ds[1]? = some d1)
    (h0 : DataW.Trod enc Tryz.prog W 0 (fun _ => true) true 30 v0 d0 p0) (k0 : Value.okWide Tryz.prog W .any base 30 v0)
    (h1 : DataW.Trod enc Tryz.prog W 0 (fun _ => true) true 39 v1 d1 p1) (k1 : Value.okWide Tryz.prog W .any base 39 v1)
    (h2 : DataW.Trod enc Tryz.prog W 0 (fun _ => true) true 5 v2 d2 p2) (k2 : Value.okWide Tryz.prog W .any base 5 v2) :
    Calls Tryz.prog 4 #[v0, v1, v2] W fun e W' => e = .returned (.bool true) ∧ Same W W' := by
  obtain ⟨s, fa, ca, rfl, hn, b1, b2, b3, b4⟩ := step_rd h0 k0
  obtain ⟨id, ts, val, is, pa, pn, pc, ps, rfl, hpn, hel, hsz⟩ := ans_rd h1 k1 (fun n hn => by have := List.all_eq_true.1 hsz n (weigh_mem ht hd hn); simpa using this)
  obtain ⟨e, rfl, he⟩ := u8_read h2 k2
  exact tells27_any W hT hM s b1 b2 b3 b4 fa ca hn id ts val is pa pn pc ps hpn hel hsz e (by omega)
end Go.Proofs.YtnjmdldhgconmaaGreatDoor
