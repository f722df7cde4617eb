/- The document's disk: take, Sync, Waits. -/
import Derived.Test.YtlmpkonfclnceaaRef3f
import Derived.Test.YtlmpkonfclnceaaEl
namespace Go.Proofs.Ytlmpkonfclnceaa
open Go.RowKit

/-- The fates that are left, as a value. -/
def FatesV (w : World) (v : Value) (f : List Nat) : Prop := ∃ a l c, v = .slice a l c ∧ l = f.length ∧ l ≤ c ∧ NatsAt w .u8 a f
theorem FatesV.same {w w' : World} {v : Value} {f : List Nat} (h : FatesV w v f) (k : Same w w') : FatesV w' v f := by
  obtain ⟨a, l, c, h1, h2, h3, h4⟩ := h
  exact ⟨a, l, c, h1, h2, h3, h4.same k⟩
set_option maxHeartbeats 800000 in
theorem rs_take (w : World) (v : Value) (f : List Nat) (h : FatesV w v f) (hf : Bts f) :
    Calls Try.prog 95 #[v] w fun e w' => (∃ v', e = .returned (.tuple #[.int .u8 ((take1 f).1 : Nat), v']) ∧ FatesV w' v' (take1 f).2) ∧ Same w w' := by
  obtain ⟨a, l, c, rfl, hl, hc, hat⟩ := h
  cases f with
  | nil =>
    simp at hl
    subst hl
    go_enter Try.func95, Try.ntmps95
    go_wp2_with fail
    go_ret2
    exact ⟨⟨_, rfl, none, 0, 0, rfl, rfl, Nat.le_refl _, .inl rfl⟩, Kept.refl _ _⟩
  | cons x r =>
    obtain ⟨pb, po, x', rfl, hpb, hxi, hcx⟩ := hat.at (i := 0) (by simp)
    simp at hxi
    subst hxi
    rw [Nat.add_zero] at hcx
    have hx := hf x (by simp)
    have hl0 : 0 < l := by rw [hl]; simp
    have hl1 : ¬ (l : Int) = 0 := by omega
    have hl2 : (0 : Int) < (l : Int) := by omega
    have hl3 : (1 : Int) ≤ (l : Int) := by omega
    have HL := Lib.hid hl; have AT := Lib.hid hat
    clear hl hat hf
    go_enter Try.func95, Try.ntmps95
    go_wp2_with fail
    go_region
    all_goals go_wp2_with fail
    all_goals
      go_ret2
      have hl' := HL.out
      rw [List.length_cons] at hl'
      have kk : Same w w.drew := (Kept.refl _ _).drew
      refine ⟨⟨_, rfl, _, _, _, rfl, (show l - 1 = r.length from by omega), by omega, ?_⟩, by repeat (first | exact Kept.refl _ _ | with_reducible refine Kept.drew ?_)⟩
      refine NatsAt.same (w := w) ?_ (by repeat (first | exact Kept.refl _ _ | with_reducible refine Kept.drew ?_))
      first
        | exact nats_tail AT.out
        | exact .inl (List.eq_nil_of_length_eq_zero (show r.length = 0 from by omega))

set_option maxRecDepth 100000 in
set_option maxHeartbeats 800000 in
theorem rs_sync (a : Option Addr) (n c : Nat) (D : Dsk) (hn : n = D.s.length) (hl : n ≤ 4096) (haft : -1 ≤ D.after ∧ D.after < 9223372036854775808) (w : World) (hs : SecsAt w a D.s) :
    Calls Try.prog 62 #[refV a n c D] w fun e w' => RefT w w' a e (syncD D).1 (syncD D).2 := by
  subst hn
  have HS := Lib.hid hs
  cases hoff : D.off
  · have er : syncD D = callD D (settle D.s) := by unfold syncD; rw [hoff]; rfl
    rw [er]
    have W := Lib.hid fun w' h => rs_safe a D.s.length c D rfl hl w' h
    have C := Lib.hid fun a' c' w' h1 h2 => rs_call2 a a' c c' D (settle D.s) hoff haft w' h1 h2
    obtain ⟨D', hD'⟩ : ∃ D', callD D (settle D.s) = D' := ⟨_, rfl⟩
    have hsl : (settle D.s).length = D.s.length := settle_len _
    rw [hD', hsl] at C
    rw [hD']
    obtain ⟨s, off, calls, after, done⟩ := D
    dsimp only at hoff
    subst hoff
    simp only [refV] at C W ⊢
    dsimp only at hl HS C W ⊢
    clear hs hD' hsl er
    go_enter Try.func62, Try.ntmps62
    go_wp2_with fail
    have F := Lib.hid (show Fr ((w.alloc (.cells #[.slice a s.length c, .bool false, .int .i64 calls, .int .i64 after, .bool done] 43)).alloc (.cells #[.slice none 0 0, .bool false, .int .i64 0, .int .i64 0, .bool false] 43)) [(w.heap.size, #[.slice a s.length c, .bool false, .int .i64 calls, .int .i64 after, .bool done], 43), (w.heap.size + 1, #[.slice none 0 0, .bool false, .int .i64 0, .int .i64 0, .bool false], 43)] from ⟨(Blk.new w _ _).alloc _, Blk.new' _ _ _ (by simp), trivial⟩)
    have K := Lib.hid (show Same w ((w.alloc (.cells #[.slice a s.length c, .bool false, .int .i64 calls, .int .i64 after, .bool done] 43)).alloc (.cells #[.slice none 0 0, .bool false, .int .i64 0, .int .i64 0, .bool false] 43)) from ((Kept.refl _ w).alloc _).alloc _)
    generalize hw3 : (w.alloc (.cells #[.slice a s.length c, .bool false, .int .i64 calls, .int .i64 after, .bool done] 43)).alloc (.cells #[.slice none 0 0, .bool false, .int .i64 0, .int .i64 0, .bool false] 43) = w3 at *
    clear hw3
    obtain ⟨p0, f0, p1, f1, -⟩ := F.out.rules; have z0 := F.out.1.lt; have z1 := F.out.2.1.lt
    have QQ : Hid (∀ w', Kept (fun j => j = w.heap.size + 1) w3 w' → (∀ i, w'.cell? ⟨w.heap.size, i, none⟩ = (#[.slice a s.length c, .bool false, .int .i64 calls, .int .i64 after, .bool done] : Array Value)[i]?)) := fun w' k => cell_blk (F.out.1.kept k (by omega))
    have KN := Lib.hid (Kept.refl (fun _ => False) w3)
    go_region_held3 (fun w' => (∀ i, w'.cell? ⟨w.heap.size, i, none⟩ = (#[.slice a s.length c, .bool false, .int .i64 calls, .int .i64 after, .bool done] : Array Value)[i]?))
      ((refine QQ.out _ ?_; repeat (first | with_reducible exact KN.out.mono (fun _ _ h => h.elim) | with_reducible refine Kept.drew ?_ | with_reducible refine Kept.setG ?_ _ _)))
      (first
        | (go_at_call 94; refine (W.out _ (HS.out.same (by first | exact K.out.trans KN.out | exact K.out.trans KN.out.drew))).mono ?_; rintro e w5 ⟨a5, c5, rfl, ⟨hs5, hf5⟩, k⟩; have HS5 := Lib.hid hs5; have HF5 := Lib.hid (hf5.mono (show w.heap.size ≤ _ from (K.out.trans KN.out).size)); clear hs5 hf5; have KN' := Lib.hid (Kept.trans (by first | exact KN.out | exact KN.out.drew) k); clear KN k; have KN := KN'; clear KN'; (try simp only [settle_len]))
        | (go_at_call 93; refine (C.out _ _ _ (HS.out.same (by first | exact K.out.trans KN.out | exact K.out.trans KN.out.drew)) (by first | exact HS5.out | exact HS5.out.same (Kept.refl _ _).drew)).mono ?_; rintro e w6 ⟨a6, c6, rfl, ⟨hs6, hf6⟩, k⟩; have HF6 := Lib.hid hf6; clear hf6; simp only [refV]; have HS6 := Lib.hid hs6; clear hs6; have KN' := Lib.hid (Kept.trans (by first | exact KN.out | exact KN.out.drew) k); clear KN k; have KN := KN'; clear KN'; obtain ⟨-, -, q1, e1, -⟩ := (F.out.same KN.out).rules; have y1 := (F.out.same KN.out).2.1.lt))
    all_goals
      clear QQ
      go_wp2_with fail
      refine bodyPost_ret (results_two_tmp rfl _ _ (w.heap.size + 1) 43 #[.slice a6 D'.1.s.length c6, .bool D'.1.off, .int .i64 D'.1.calls, .int .i64 D'.1.after, .bool D'.1.done] _ rfl ?_ Try.underlying43 rfl (by kernel_rfl)) rfl ?_
      · refine Blk.set5 (v0 := .slice none 0 0) (v1 := .bool false) (v2 := .int .i64 0) (v3 := .int .i64 0) (v4 := .bool false) ?_
        first | exact (F.out.same KN.out).2.1 | exact ((F.out.same KN.out).2.1).drew | exact (((F.out.same KN.out).2.1).drew).drew
      · have kk := K.out.trans KN.out
        have hw : w.heap.size + 1 ≥ w.heap.size := by omega
        refine ⟨a6, c6, rfl, ⟨?_, by rcases HF6.out with q | q; exact .inl q; exact .inr (by rw [q]; exact HF5.out)⟩, ?_⟩
        · refine SecsAt.apart HS6.out (F.out.same KN.out).2.1 ?_ (nostr5 _ _ _ _ _ _ _)
          repeat (first | with_reducible exact Kept.refl _ _ | with_reducible refine Kept.drew ?_ | with_reducible refine Kept.setG ?_ _ _)
        · repeat (first | with_reducible exact kk | with_reducible refine Kept.drew ?_ | with_reducible refine Kept.setNew ?_ (by dsimp only; omega) _)
  · have er : syncD D = (D, 8) := by unfold syncD; rw [hoff]; rfl
    rw [er]
    obtain ⟨s, off, calls, after, done⟩ := D
    dsimp only at hoff
    subst hoff
    simp only [refV]
    clear er hs
    go_enter Try.func62, Try.ntmps62
    go_wp2_with fail
    refine bodyPost_ret (results_two_tmp rfl _ _ _ _ _ _ rfl (Blk.new' _ _ _ (by simp)) Try.underlying43 rfl (by kernel_rfl)) rfl ?_
    exact RefT.of (D := ⟨s, true, calls, after, done⟩) HS.out (((Kept.refl _ w).alloc _).alloc _)

theorem waits_snoc (s : List Sec) (i : Nat) : (List.range (i + 1)).filter (waitsAt s) = (List.range i).filter (waitsAt s) ++ (if waitsAt s i then [i] else []) := by
  rw [List.range_succ, List.filter_append]
  congr 1
  cases h : waitsAt s i
  · rw [List.filter_cons_of_neg (by simp [h])]; rfl
  · rw [List.filter_cons_of_pos h]; rfl
section
attribute [local go_sem ↓] exec_app semAt_app
attribute [local go_sem] isApp_lit appA appX
set_option maxRecDepth 100000 in
set_option maxHeartbeats 800000 in
theorem rs_waits (a : Option Addr) (n c : Nat) (D : Dsk) (hn : n = D.s.length) (hl : n ≤ 4096) (w : World) (hs : SecsAt w a D.s) :
    Calls Try.prog 66 #[refV a n c D] w fun e w' => (∃ v, e = .returned v ∧ OwnN w' w.heap.size 3 .i64 v (waitsOf D.s)) ∧ Same w w' := by
  obtain ⟨s, off, calls, after, done⟩ := D
  simp only [refV]
  dsimp only at hn hs ⊢
  subst hn
  have HS := Lib.hid hs
  clear hs
  go_enter Try.func66, Try.ntmps66
  go_wp2_with fail
  go_loopw [3, 4] (fun lv iv wr => ∃ i : Nat, iv = .int .i64 i ∧ i ≤ s.length ∧ OwnN wr (w.heap.size + 1) 3 .i64 lv ((List.range i).filter (waitsAt s)) ∧ Fr wr [(w.heap.size, #[.slice a s.length c, .bool off, .int .i64 calls, .int .i64 after, .bool done], 43)] ∧ Same w wr) (fun _ iv _ => s.length - (intOf iv).toNat)
  case atStart => exact ⟨0, rfl, Nat.zero_le _, ⟨rfl, .inl ⟨rfl, rfl⟩⟩, ⟨Blk.new w _ _, trivial⟩, (Kept.refl _ w).alloc _⟩
  case round =>
    obtain ⟨i, rfl, hi, ho, hf, hk⟩ := hrel
    have hs := HS.out.same hk
    obtain ⟨p0, f0, -⟩ := hf.rules
    have z0 := hf.1.lt
    have HF := Lib.hid hf
    have HK := Lib.hid hk
    clear hf hk
    by_cases hgo : i < s.length
    · have hx := get_of hgo
      obtain ⟨x, hxx⟩ : ∃ x, s.getD i sec0 = x := ⟨_, rfl⟩
      rw [hxx] at hx
      rcases hs with h | ⟨b, o, rfl, hb, hc⟩
      · subst h; simp at hgo
      have c0 := (hc i x hx).2.2
      have ln : (i : Int) < (s.length : Int) := by omega
      have ln0 : (0 : Int) ≤ (i : Int) := by omega
      have hwt : waitsAt s i = x.waits := by unfold waitsAt; rw [hxx]
      have hsn := waits_snoc s i
      rw [hwt] at hsn
      have hlen : ((List.range i).filter (waitsAt s)).length ≤ i := by have := List.length_filter_le (waitsAt s) (List.range i); rw [List.length_range] at this; exact this
      obtain ⟨l0, hl0⟩ : ∃ l0, (List.range i).filter (waitsAt s) = l0 := ⟨_, rfl⟩
      rw [hl0] at hsn ho hlen
      have SN := Lib.hid hsn
      cases hw : x.waits
      · rw [hw] at c0
        have HO := Lib.hid ho
        clear hc ho hwt hsn hxx hx hl0
        go_wp2_with fail
        go_roundw
        case rel => exact ⟨i + 1, by go_num, by omega, by rw [SN.out, hw]; simpa using HO.out, HF.out, HK.out⟩
        case measure => simp [intOf]; omega
      · rw [hw] at c0
        have kB : Same wr (wr.alloc (.cells #[.int .i64 i] 3)) := (Kept.refl _ wr).alloc _
        obtain ⟨v5, w5, hrun, h5, g5, -⟩ := app_facts (P := Try.prog) (wr.alloc (.cells #[.int .i64 i] 3)) 38 38 (w.heap.size + 1) 3 .i64 8 Try.underlying38 (by kernel_rfl) (by decide) u3 l0 (ho.same kB) (some ⟨wr.heap.size, 0, none⟩) 1 1 [i] rfl (.inr ⟨wr.heap.size, 0, rfl, by simp, fun j u hu => by rcases j with _ | j; (· simp at hu; subst hu; exact (Blk.new wr _ _).cell 0 rfl); (· simp at hu)⟩) (fun h => by cases h) (by simp; omega) (Nat.le_trans (by omega) kB.size)
        obtain ⟨aok, aV, aW⟩ := app_of hrun
        have kg : Kept (fun j => u3.ownBlock = some j) (wr.alloc (.cells #[.int .i64 i] 3)) w5 := (Kept.refl _ _).grown g5 (fun k hk _ => hk)
        have F5 := Lib.hid ((HF.out.same kB).kept kg (fun x hx q => by have := (World.ownsRow.lt ho _ q).1; simp at hx; subst hx; simp at this; omega))
        have K5 := Lib.hid ((HK.out.trans kB).grownNew g5 (fun k hk => by have := (World.ownsRow.lt ho _ hk).1; omega))
        have H5 := Lib.hid h5
        clear hc hrun h5 g5 kg kB ho HF HK hwt hsn hxx hx hl0
        go_wp2_with fail
        go_roundw
        case rel => exact ⟨i + 1, by go_num, by omega, by rw [SN.out, hw]; exact H5.out, F5.out, K5.out⟩
        case measure => simp [intOf]; omega
    · have e : i = s.length := by omega
      subst e
      have HO := Lib.hid ho
      clear ho hs
      go_wp2_with fail
      go_ret
      exact ⟨⟨_, rfl, HO.out.base (by omega)⟩, HK.out⟩
end
end Go.Proofs.Ytlmpkonfclnceaa
