/- The document's disk: Write, Sync. -/
import Derived.Test.YtlmpkonfclnceaaRef3e
namespace Go.Proofs.Ytlmpkonfclnceaa
open Go.RowKit

/-- A document's disk that a call left, and what it told. -/
def RefT (w w' : World) (a0 : Option Addr) (e : Ending) (D : Dsk) (k : Nat) : Prop := ∃ a c, e = .returned (.tuple #[refV a D.s.length c D, .int .i64 (k : Nat)]) ∧ (SecsAt w' a D.s ∧ (a = a0 ∨ Far w a)) ∧ Same w w'
theorem RefT.of {w w' : World} {a : Option Addr} {c : Nat} {D : Dsk} {k : Nat} (h : SecsAt w a D.s) (kk : Same w w') : RefT w w' a (.returned (.tuple #[refV a D.s.length c D, .int .i64 (k : Nat)])) D k := ⟨a, c, rfl, ⟨h.same kk, .inl rfl⟩, kk⟩
theorem rs_call2 (a a' : Option Addr) (c c' : Nat) (D : Dsk) (s : List Sec) (hoff : D.off = false) (haft : -1 ≤ D.after ∧ D.after < 9223372036854775808) (w : World) (h1 : SecsAt w a D.s) (h2 : SecsAt w a' s) :
    Calls Try.prog 93 #[refV a D.s.length c D, refV a' s.length c' { D with s := s }] w fun e w' => ∃ a6 c6, e = .returned (.tuple #[refV a6 (callD D s).1.s.length c6 (callD D s).1, .int .i64 ((callD D s).2 : Nat)]) ∧ (SecsAt w' a6 (callD D s).1.s ∧ (a6 = a ∨ a6 = a')) ∧ Same w w' := by
  refine (rs_call a a' D.s.length c s.length c' D s hoff haft w).mono ?_
  rintro e w' ⟨rfl, k⟩
  by_cases q : D.after = 0 ∧ D.done = false
  · rw [if_pos q]
    have e : (callD D s).1.s = D.s := by unfold callD; exact if_pos q
    exact ⟨a, c, by rw [e], ⟨by rw [e]; exact h1.same k, .inl rfl⟩, k⟩
  · rw [if_neg q]
    have e : (callD D s).1.s = s := by unfold callD; exact if_neg q
    exact ⟨a', c', by rw [e], ⟨by rw [e]; exact h2.same k, .inr rfl⟩, k⟩

/-- Sectors lie elsewhere than in a block that has no text. -/
theorem SecsAt.apart {w w' : World} {a : Option Addr} {s : List Sec} {g : Nat} {cs : Array Value} {t : TypeId} (h : SecsAt w a s) (hb : Blk w g cs t) (hk : Kept (fun j => j = g) w w') (hne : ∀ (i : Nat) (x : ByteArray), cs[i]? ≠ some (.string x)) : SecsAt w' a s := by
  cases s with
  | nil => exact .inl rfl
  | cons x s =>
    rcases h with h | ⟨b, o, rfl, hlt, hc⟩
    · cases h
    · have hbg : b ≠ g := by
        intro q
        subst q
        have := (hc 0 x rfl).1
        rw [cell_blk hb] at this
        exact hne _ _ this
      have e : ∀ j, w'.cell? ⟨b, j, none⟩ = w.cell? ⟨b, j, none⟩ := fun j => hk.cell (p := ⟨b, j, none⟩) hlt hbg
      exact .inr ⟨b, o, rfl, Nat.lt_of_lt_of_le hlt hk.size, fun i x hx => by rw [e, e, e]; exact hc i x hx⟩
theorem nostr5 (a : Option Addr) (n c : Nat) (x : Bool) (y z : Int) (u : Bool) : ∀ (i : Nat) (v : ByteArray), (#[.slice a n c, .bool x, .int .i64 y, .int .i64 z, .bool u] : Array Value)[i]? ≠ some (.string v) := by
  intro i v
  rcases i with _ | _ | _ | _ | _ | i <;> simp
set_option maxRecDepth 100000 in
set_option maxHeartbeats 800000 in
theorem rs_write (a : Option Addr) (n c : Nat) (D : Dsk) (hn : n = D.s.length) (hl : n ≤ 4096) (haft : -1 ≤ D.after ∧ D.after < 9223372036854775808) (i : Int) (ba : Option Addr) (bl bc : Nat) (b : List Nat) (hbl : bl = b.length) (w : World) (hs : SecsAt w a D.s) (hb : NatsAt w .u8 ba b) :
    Calls Try.prog 65 #[refV a n c D, .int .i64 i, .slice ba bl bc] w fun e w' => RefT w w' a e (writeD D i b).1 (writeD D i b).2 := by
  subst hn
  have A := fun w' => rs_at a D.s.length c D rfl i w'
  obtain ⟨E, hE⟩ : ∃ E, errD D i = E := ⟨_, rfl⟩
  rw [hE] at A
  have A := Lib.hid A
  have HS := Lib.hid hs
  have HB := Lib.hid hb
  by_cases h0 : E = 0
  · subst h0
    by_cases h256 : b.length = 256
    · obtain ⟨-, hi0, hi1⟩ := errD_zero hE
      have hoff : D.off = false := by unfold errD at hE; cases q : D.off <;> simp [q] at hE ⊢
      obtain ⟨N, hN⟩ : ∃ N : Nat, i = (N : Int) := ⟨i.toNat, by omega⟩
      subst hN
      have hN : N < D.s.length := by omega
      have er : writeD D (N : Nat) b = callD D (putS D.s N b) := by unfold writeD; rw [if_pos hE, if_pos h256, Int.toNat_natCast]
      rw [er]
      have W := Lib.hid fun w' h => rs_with a D.s.length c D rfl hl N hN ⟨b, (D.s.getD N sec0).safe, true⟩ w' h
      have C := Lib.hid fun a' c' w' h1 h2 => rs_call2 a a' c c' D (putS D.s N b) hoff haft w' h1 h2
      have hx := get_of hN
      obtain ⟨x, hxx⟩ : ∃ x, D.s.getD N sec0 = x := ⟨_, rfl⟩
      rw [hxx] at hx W
      have hp : putS D.s N b = D.s.set N ⟨b, x.safe, true⟩ := by unfold putS; rw [hxx]
      rw [hp] at C ⊢
      have hN1 : (N : Int) < (D.s.length : Int) := by omega
      have hN0 : (0 : Int) ≤ (N : Int) := by omega
      have hbl' : bl = 256 := by omega
      subst hbl'
      have hs' := hs
      rcases hs with h | ⟨g, o, rfl, hgb, hc⟩
      · rw [h] at hN; simp at hN
      have c0 := (hc N x hx).2.1
      obtain ⟨D', hD'⟩ : ∃ D', callD D (D.s.set N ⟨b, x.safe, true⟩) = D' := ⟨_, rfl⟩
      have hsl : (D.s.set N ⟨b, x.safe, true⟩).length = D.s.length := List.length_set
      rw [hD', hsl] at C
      rw [hD']
      obtain ⟨s, off, calls, after, done⟩ := D
      simp only [refV] at A C W ⊢
      dsimp only at hl HS A C W hN1 ⊢
      clear hE hx hxx er hc hs' hbl hb hp hN hD' hoff hi0 hi1 hsl
      go_enter Try.func65, Try.ntmps65
      go_wp2_with fail
      refine (A.out _).mono ?_
      rintro e w3 ⟨rfl, k3⟩
      have F := Lib.hid (Fr.same (w := (w.alloc _).alloc _) (l := [(w.heap.size, #[.slice (some ⟨g, o, none⟩) s.length c, .bool off, .int .i64 calls, .int .i64 after, .bool done], 43), (w.heap.size + 1, #[.slice none 0 0, .bool false, .int .i64 0, .int .i64 0, .bool false], 43)]) ⟨(Blk.new w _ _).alloc _, Blk.new' _ _ _ (by simp), trivial⟩ k3)
      have K := Lib.hid ((((Kept.refl (fun _ => False) w).alloc _).alloc _).trans k3)
      clear k3
      obtain ⟨p0, f0, p1, f1, -⟩ := F.out.rules; have z0 := F.out.1.lt; have z1 := F.out.2.1.lt
      have c1 := (K.out.cell (p := ⟨g, o + N * 3 + 1, none⟩) hgb (fun h => h)).trans c0
      have QQ : Hid (∀ w', Kept (fun j => j = w.heap.size + 1) w3 w' → ((∀ i, w'.cell? ⟨w.heap.size, i, none⟩ = (#[.slice (some ⟨g, o, none⟩) s.length c, .bool off, .int .i64 calls, .int .i64 after, .bool done] : Array Value)[i]?) ∧ w'.cell? ⟨g, o + N * 3 + 1, none⟩ = some (.string (strN x.safe)) ∧ (convert 24 9 (.slice ba 256 bc)).run Try.prog w' = .ok (.string (strN b)) w')) := fun w' k => ⟨cell_blk (F.out.1.kept k (by omega)), (k.cell (p := ⟨g, o + N * 3 + 1, none⟩) (Nat.lt_of_lt_of_le hgb K.out.size) (by dsimp only; omega)).trans c1, conv_str ba 256 bc b w' (by omega) ((HB.out.same K.out).kept' k ((nats_lt HB.out).imp id (fun q x hx => by have := q x hx; omega)))⟩
      have KN := Lib.hid (Kept.refl (fun _ => False) w3)
      clear c0 c1
      go_wp2_with fail
      go_region_held3 (fun w' => ((∀ i, w'.cell? ⟨w.heap.size, i, none⟩ = (#[.slice (some ⟨g, o, none⟩) s.length c, .bool off, .int .i64 calls, .int .i64 after, .bool done] : Array Value)[i]?) ∧ w'.cell? ⟨g, o + N * 3 + 1, none⟩ = some (.string (strN x.safe)) ∧ (convert 24 9 (.slice ba 256 bc)).run Try.prog w' = .ok (.string (strN b)) w'))
        ((refine QQ.out _ ?_; repeat (first | with_reducible exact KN.out.mono (fun _ _ h => h.elim) | with_reducible refine Kept.drew ?_ | with_reducible refine Kept.setG ?_ _ _)))
        (first
          | (go_at_call 96; refine (W.out _ (HS.out.same (by first | exact K.out.trans KN.out | exact K.out.trans KN.out.drew))).mono ?_; rintro e w5 ⟨a5, c5, rfl, ⟨hs5, hf5⟩, k⟩; have HS5 := Lib.hid hs5; have HF5 := Lib.hid (hf5.mono (show w.heap.size ≤ _ from (K.out.trans KN.out).size)); clear hs5 hf5; have KN' := Lib.hid (Kept.trans (by first | exact KN.out | exact KN.out.drew) k); clear KN k; have KN := KN'; clear KN'; (try simp only [List.length_set]))
          | (go_at_call 93; refine (C.out _ _ _ (HS.out.same (by first | exact K.out.trans KN.out | exact K.out.trans KN.out.drew)) (by first | exact HS5.out | exact HS5.out.same (Kept.refl _ _).drew)).mono ?_; rintro e w6 ⟨a6, c6, rfl, ⟨hs6, hf6⟩, k⟩; have HF6 := Lib.hid hf6; clear hf6; simp only [refV]; have HS6 := Lib.hid hs6; clear hs6; have KN' := Lib.hid (Kept.trans (by first | exact KN.out | exact KN.out.drew) k); clear KN k; have KN := KN'; clear KN'; obtain ⟨-, -, q1, e1, -⟩ := (F.out.same KN.out).rules; have y1 := (F.out.same KN.out).2.1.lt))
      all_goals
        clear QQ
        go_wp2_with fail
        refine bodyPost_ret (results_two_tmp rfl _ _ (w.heap.size + 1) 43 #[.slice a6 D'.1.s.length c6, .bool D'.1.off, .int .i64 D'.1.calls, .int .i64 D'.1.after, .bool D'.1.done] _ rfl ?_ Try.underlying43 rfl (by kernel_rfl)) rfl ?_
        · refine Blk.set5 (v0 := .slice none 0 0) (v1 := .bool false) (v2 := .int .i64 0) (v3 := .int .i64 0) (v4 := .bool false) ?_
          first | exact (F.out.same KN.out).2.1 | exact ((F.out.same KN.out).2.1).drew | exact (((F.out.same KN.out).2.1).drew).drew
        · have kk := K.out.trans KN.out
          have hw : w.heap.size + 1 ≥ w.heap.size := by omega
          refine ⟨a6, c6, rfl, ⟨?_, by rcases HF6.out with q | q; exact .inl q; exact .inr (by rw [q]; exact HF5.out)⟩, ?_⟩
          · refine SecsAt.apart HS6.out (F.out.same KN.out).2.1 ?_ (nostr5 _ _ _ _ _ _ _)
            repeat (first | with_reducible exact Kept.refl _ _ | with_reducible refine Kept.drew ?_ | with_reducible refine Kept.setG ?_ _ _)
          · repeat (first | with_reducible exact kk | with_reducible refine Kept.drew ?_ | with_reducible refine Kept.setNew ?_ (by dsimp only; omega) _)
    · have er : writeD D i b = (D, 2) := by unfold writeD; rw [if_pos hE, if_neg h256]
      rw [er]
      have hbl' : ¬ (bl : Int) = 256 := by omega
      obtain ⟨s, off, calls, after, done⟩ := D
      clear hE er hs hb hbl
      simp only [refV] at A ⊢
      dsimp only at hl HS A ⊢
      go_enter Try.func65, Try.ntmps65
      go_wp2_with fail
      refine (A.out _).mono ?_
      rintro e w3 ⟨rfl, k3⟩
      have F := Lib.hid (Fr.same (w := (w.alloc _).alloc _) (l := [(w.heap.size, #[.slice a s.length c, .bool off, .int .i64 calls, .int .i64 after, .bool done], 43), (w.heap.size + 1, #[.slice none 0 0, .bool false, .int .i64 0, .int .i64 0, .bool false], 43)]) ⟨(Blk.new w _ _).alloc _, Blk.new' _ _ _ (by simp), trivial⟩ k3)
      have K := Lib.hid ((((Kept.refl (fun _ => False) w).alloc _).alloc _).trans k3)
      clear k3
      obtain ⟨p0, f0, p1, f1, -⟩ := F.out.rules; have z0 := F.out.1.lt; have z1 := F.out.2.1.lt
      go_wp2_with fail
      refine bodyPost_ret (results_two_tmp rfl _ _ (w.heap.size + 1) 43 #[.slice a s.length c, .bool off, .int .i64 calls, .int .i64 after, .bool done] _ rfl ?_ Try.underlying43 rfl (by kernel_rfl)) rfl ?_
      · refine Blk.set5 (v0 := .slice none 0 0) (v1 := .bool false) (v2 := .int .i64 0) (v3 := .int .i64 0) (v4 := .bool false) ?_
        exact F.out.2.1
      · refine RefT.of (D := ⟨s, off, calls, after, done⟩) HS.out ?_
        repeat (first | with_reducible exact K.out | with_reducible refine Kept.setNew ?_ (by dsimp only; omega) _)
  · have er : writeD D i b = (D, E) := by unfold writeD; rw [if_neg (by rw [hE]; exact h0), hE]
    rw [er]
    have h0' : ¬ (E : Int) = 0 := by omega
    obtain ⟨s, off, calls, after, done⟩ := D
    clear hE er hs hb hbl
    simp only [refV] at A ⊢
    dsimp only at hl HS A ⊢
    go_enter Try.func65, Try.ntmps65
    go_wp2_with fail
    refine (A.out _).mono ?_
    rintro e w3 ⟨rfl, k3⟩
    have F := Lib.hid (Fr.same (w := (w.alloc _).alloc _) (l := [(w.heap.size, #[.slice a s.length c, .bool off, .int .i64 calls, .int .i64 after, .bool done], 43), (w.heap.size + 1, #[.slice none 0 0, .bool false, .int .i64 0, .int .i64 0, .bool false], 43)]) ⟨(Blk.new w _ _).alloc _, Blk.new' _ _ _ (by simp), trivial⟩ k3)
    have K := Lib.hid ((((Kept.refl (fun _ => False) w).alloc _).alloc _).trans k3)
    clear k3
    obtain ⟨p0, f0, p1, f1, -⟩ := F.out.rules; have z0 := F.out.1.lt; have z1 := F.out.2.1.lt
    go_wp2_with fail
    refine bodyPost_ret (results_two_tmp rfl _ _ (w.heap.size + 1) 43 #[.slice a s.length c, .bool off, .int .i64 calls, .int .i64 after, .bool done] _ rfl ?_ Try.underlying43 rfl (by kernel_rfl)) rfl ?_
    · refine Blk.set5 (v0 := .slice none 0 0) (v1 := .bool false) (v2 := .int .i64 0) (v3 := .int .i64 0) (v4 := .bool false) ?_
      exact F.out.2.1
    · refine RefT.of (D := ⟨s, off, calls, after, done⟩) HS.out ?_
      repeat (first | with_reducible exact K.out | with_reducible refine Kept.setNew ?_ (by dsimp only; omega) _)
end Go.Proofs.Ytlmpkonfclnceaa
