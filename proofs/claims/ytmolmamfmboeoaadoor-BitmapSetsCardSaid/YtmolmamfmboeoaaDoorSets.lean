/- BitmapSets: a number put in, or taken out, makes the document's map; the map stays as it is. -/
import Derived.Test.YtmolmamfmboeoaaDoorAwk
import Derived.Test.YtmolmamfmboeoaaDoorBmR11
import Derived.Test.YtmolmamfmboeoaaDoorBmR2
import Derived.Test.YtmolmamfmboeoaaDoorBmR3
import Derived.Test.YtmolmamfmboeoaaDoorBm12
import Derived.Deep.RegionHeld3
namespace Go.Proofs.YtmolmamfmboeoaaDoor
open Go.RowKit

/-- A slice that an append has made: it is none of nil. -/
theorem own_some' {w : World} {base g1 g2 : Nat} {e : TypeId} {k : IntKind} {v : Value} {xs : List Nat} {l : Nat} (h : OwnN w base e k v ([] ++ xs)) (hl : xs.length = l) (hv : v.ownBlock = some g1 ∨ v.ownBlock = some g2) :
    ∃ g c, v = .slice (some ⟨g, 0, none⟩) l c ∧ base ≤ g ∧ g < w.heap.size ∧ OwnN w base e k (.slice (some ⟨g, 0, none⟩) l c) xs ∧ (g = g1 ∨ g = g2) := by
  subst hl
  rw [List.nil_append] at h
  have h' := h
  rcases h.2 with ⟨rfl, _⟩ | ⟨g, cap, cur, rfl, hb, hg, _⟩
  · simp [Value.ownBlock] at hv
  · refine ⟨g, cap, rfl, hb, lt_of_block hg, h', ?_⟩
    simpa [Value.ownBlock] using hv

/-- The new map's block, behind an append onto another row. -/
theorem map_grownP {w w' : World} {g r : Nat} {row : Option Nat} (h : Blk w g #[.int .i64 0, .slice none 0 0] 27) (hg : w.grownBy w' row) (hr : row = some r) (hne : g ≠ r) :
    w'.cell? ⟨g, 0, none⟩ = some (.int .i64 0) ∧ w'.cell? ⟨g, 1, none⟩ = some (.slice none 0 0) ∧ (∀ i, w'.frozen? ⟨g, i, none⟩ = false) ∧ Blk w' g #[.int .i64 0, .slice none 0 0] 27 := by
  subst hr
  have k := (Kept.refl (fun j => j = r) w).grown hg (fun k hk _ => by cases hk; rfl)
  have b := h.kept k hne
  exact ⟨b.cell 0 rfl, b.cell 1 rfl, b.free, b⟩

/-- New, of the program and of the document. -/
theorem new_both (n : Int) : ∃ (ns : Int) (nz : List Nat) (ne : Int), nz.length ≤ 64 ∧
    (∀ w', Calls Tryd.prog 18 #[.int .i64 n] w' fun e w'' => ∃ v c, e = .returned (.tuple #[mapV ns v nz.length c, .int .i64 ne]) ∧ NatsAt w'' .u64 v nz ∧ Same w' w'') ∧
    (∀ w', Calls Tryd.prog 19 #[.int .i64 n] w' fun e w'' => ∃ v c, e = .returned (.tuple #[mapV ns v nz.length c, .int .i64 ne]) ∧ NatsAt w'' .u64 v nz ∧ Same w' w'') := by
  by_cases h : 0 ≤ n ∧ n ≤ 4096
  · obtain ⟨N, rfl⟩ := Int.eq_ofNat_of_zero_le h.1
    refine ⟨(N : Nat), List.replicate ((N + 63) / 64) 0, 0, by simp; omega, fun w' => ?_, fun w' => ?_⟩
    · refine (bm_new_ok N w' (by omega)).mono ?_
      rintro e w'' ⟨g, rfl, ho, k⟩
      exact ⟨_, _, by rw [List.length_replicate], ho.nats, k⟩
    · refine (rb_new_ok N w' (by omega)).mono ?_
      rintro e w'' ⟨g, rfl, ho, k⟩
      exact ⟨_, _, by rw [List.length_replicate], ho.nats, k⟩
  · refine ⟨0, [], 2, by simp, fun w' => ?_, fun w' => ?_⟩
    · refine (bm_new_bad n w' (by omega)).mono ?_
      rintro e w'' ⟨rfl, k⟩
      exact ⟨none, 0, rfl, .inl rfl, k⟩
    · refine (rb_new_bad n w' (by omega)).mono ?_
      rintro e w'' ⟨rfl, k⟩
      exact ⟨none, 0, rfl, .inl rfl, k⟩


set_option maxRecDepth 100000 in
set_option maxHeartbeats 1000000 in
theorem sets_true (s : Int) (a : Option Addr) (cap : Nat) (ws : List Nat) (n : Int) (on : Bool) (w : World) (hw : Words ws) (hat : NatsAt w .u64 a ws) (hnil : a = none → cap = 0) (hT : TabOK w) :
    Calls Tryd.prog 3 #[mapV s a ws.length cap, .int .i64 n, .bool on] w fun e w' => e = .returned (.bool true) ∧ Same w w' := by
  have LI := Lib.hid fun w' => rb_light s a ws.length cap w'
  have AW := Lib.hid fun w' h => awake_true w' h
  by_cases h8 : ws.length ≤ 8
  · rw [decide_eq_true h8] at LI
    have BS := Lib.hid fun b c w' h => bm_set s b 0 c ws n on w' hw (by omega) h
    have RS := Lib.hid fun w' h => rb_set s a cap ws n on w' hw hnil h
    have SB := Lib.hid fun v v' c c' w' h1 h2 => (rb_same s s v v' c c' (setN s ws n on) (setN s ws n on) w' (by rw [setN_len]; omega) h1 h2).mono (R' := fun e w'' => e = .returned (.bool true) ∧ Same w' w'') fun _ _ h => ⟨by rw [h.1, show sameB s s (setN s ws n on) (setN s ws n on) = true from by simp [sameB]], h.2⟩
    have SA := Lib.hid fun v v' c c' w' h1 h2 => (rb_same s s v v' c c' ws ws w' (by omega) h1 h2).mono (R' := fun e w'' => e = .returned (.bool true) ∧ Same w' w'') fun _ _ h => ⟨by rw [h.1, show sameB s s ws ws = true from by simp [sameB]], h.2⟩
    have BH := Lib.hid fun v c w' h => bm_has s v c ws n w' hw h
    have RH := Lib.hid fun w' h => rb_has s a cap ws n w' hw h
    have BC := Lib.hid fun v c w' h => bm_check s v c ws w' h
    have RC := Lib.hid fun w' h => rb_check s a cap ws w' hw h
    obtain ⟨ns, nz, ne, hnz, N1, N2⟩ := new_both n
    have SN := Lib.hid fun v v' c c' w' h1 h2 => (rb_same ns ns v v' c c' nz nz w' (by omega) h1 h2).mono (R' := fun e w'' => e = .returned (.bool true) ∧ Same w' w'') fun _ _ h => ⟨by rw [h.1, show sameB ns ns nz nz = true from by simp [sameB]], h.2⟩
    have N1 := Lib.hid N1; have N2 := Lib.hid N2
    generalize nz.length = nl at *
    have hlen8 : (([] : List Nat).length + ws.length) * 8 ≤ 140737488355328 := by simp; omega
    rw [setN_len] at SB
    obtain ⟨zs, hzs⟩ : ∃ zs, setN s ws n on = zs := ⟨_, rfl⟩
    have hzl : zs.length = ws.length := by rw [← hzs, setN_len]
    rw [hzs] at BS SB
    have RS' : Hid (∀ w', NatsAt w' .u64 a ws → Calls Tryd.prog 13 #[mapV s a ws.length cap, .int .i64 n, .bool on] w' fun e w'' => ∃ v c, e = .returned (mapV s v ws.length c) ∧ NatsAt w'' .u64 v zs ∧ (v = none → c = 0) ∧ Same w' w'') := by
      intro w' h
      refine (RS.out w' h).mono ?_
      rintro e w'' ⟨v, c, rfl, h1, h2, h3⟩
      rw [hzs] at h1 ⊢
      exact ⟨v, c, by rw [hzl], h1, h2, h3⟩
    clear RS
    have RS := RS'
    clear RS'
    obtain ⟨hb, hhb⟩ : ∃ hb, hasB s ws n = hb := ⟨_, rfl⟩
    rw [hhb] at BH RH
    obtain ⟨ce, hce⟩ : ∃ ce : Int, (if mapOK s ws then 0 else 4) = ce := ⟨_, rfl⟩
    rw [hce] at BC RC
    have AT := Lib.hid hat; have TT := Lib.hid hT; have ZL := Lib.hid hzl; have NIL := Lib.hid hnil
    clear hat hT hw hzs hzl hhb hce hnil
    obtain ⟨l, hl⟩ : ∃ l, ws.length = l := ⟨_, rfl⟩
    rw [hl] at LI BS RS SB SA BH RH BC RC ZL ⊢
    have HL := Lib.hid hl
    have hl8 : l ≤ 8 := by omega
    clear hl h8
    go_enter Tryd.func3, Tryd.ntmps3
    go_wp2_with fail
    refine Calls.fr1 ?_; intro W F' K' hz'; have F := Lib.hid F'; have K := Lib.hid K'; have hz := Lib.hid hz'; clear F' K' hz'; obtain ⟨p0, f0, -⟩ := F.out.rules; have z0 := F.out.1.lt
    refine (LI.out _).mono ?_
    rintro e w3 ⟨rfl, k⟩
    have K' := Lib.hid (K.out.trans k); have F' := Lib.hid (F.out.same k); clear K F p0 f0 z0 k; have K := K'; have F := F'; clear K' F'; obtain ⟨p0, f0, -⟩ := F.out.rules; have z0 := F.out.1.lt
    have KN := Lib.hid (Kept.refl (fun _ => False) w3)
    have QQ : Hid (∀ w', Same w3 w' → ∀ i, w'.cell? ⟨w.heap.size, i, none⟩ = (#[Value.int .i64 s, .slice a l cap] : Array Value)[i]?) := fun w' k => (F.out.same k).rules.1
    have MLA := Lib.hid fun (wa w5 : World) (h : Blk wa w3.heap.size #[.int .i64 0, .slice none 0 0] 27) (hg : wa.grownBy w5 (Value.ownBlock (.slice (some ⟨w3.heap.size + 1, 0, none⟩) 0 0))) => map_grownP (r := w3.heap.size + 1) h hg rfl (by omega)
    have MLB := Lib.hid fun (wa w5 : World) (h : Blk wa (w3.heap.size + 1) #[.int .i64 0, .slice none 0 0] 27) (hg : wa.grownBy w5 (Value.ownBlock (.slice (some ⟨w3.heap.size, 0, none⟩) 0 0))) => map_grownP (r := w3.heap.size) h hg rfl (by omega)
    go_wp2_with fail
    go_region_held3 (fun w' => ∀ i, w'.cell? ⟨w.heap.size, i, none⟩ = (#[Value.int .i64 s, .slice a l cap] : Array Value)[i]?)
      (exact QQ.out _ (by repeat (first | exact KN.out | with_reducible refine Kept.drew ?_ | with_reducible refine Kept.alloc ?_ _ | refine Kept.setNew ?_ (by first | (simp; done) | (simp; omega)) _)))
      ((refine step_appendN rfl _ _ 22 rfl w3.heap.size 36 .u64 8 Tryd.underlying22 info64 (by omega) _ [] rfl (OwnN.blk (by repeat (first | exact Blk.new' _ _ _ (by simp) | with_reducible refine Blk.drew ?_ | with_reducible refine Blk.alloc ?_ _)) rfl (by simp) (by simp [maxLen])) _ _ _ ws rfl HL.out.symm (AT.out.same (K.out.trans (by repeat (first | exact KN.out | with_reducible refine Kept.drew ?_ | with_reducible refine Kept.alloc ?_ _)))) NIL.out hlen8 (by first | (simp; done) | (simp; omega)) ?_; intro v' w5 ho hg hv; obtain ⟨ga, ca, rfl, r1, r2, ho2, r3⟩ := own_some' ho HL.out hv; have KM := Lib.hid (show Same w3 w5 from Kept.grownNew (by repeat (first | exact KN.out | with_reducible refine Kept.drew ?_ | with_reducible refine Kept.alloc ?_ _)) hg (by (intro k hk; (try simp only [World.size_alloc, World.drew_size] at hk); first | (cases hk; simp; done) | (cases hk; simp; omega)))); have HO := Lib.hid ho2; clear ho2; (try (have MA := MLA.out _ _ (by first | exact ((Blk.new' _ _ _ (by simp)).alloc _).drew | exact (Blk.new' _ _ _ (by simp)).alloc _) hg; obtain ⟨MA0, MA1, MAf, MA2⟩ := MA; have MM := Lib.hid MA2; clear MA2)); (try (have MB := MLB.out _ _ (by first | exact (Blk.new' _ _ _ (by simp)).drew | exact Blk.new' _ _ _ (by simp)) hg; obtain ⟨MB0, MB1, MBf, MB2⟩ := MB; have MM := Lib.hid MB2; clear MB2)); clear KN ho; have KN := KM; clear KM))
    · have X1 := Lib.hid (HO.out.nats.same ((Kept.refl (fun _ => False) w5).alloc (.cells #[.int .i64 s, .slice (some ⟨ga, 0, none⟩) l ca] 27)))
      have F' := Lib.hid (show Fr (w5.alloc (.cells #[.int .i64 s, .slice (some ⟨ga, 0, none⟩) l ca] 27)) [(w5.heap.size, #[.int .i64 s, .slice (some ⟨ga, 0, none⟩) l ca], 27), (w.heap.size, #[.int .i64 s, .slice a l cap], 24)] from ⟨Blk.new w5 _ _, (F.out.same KN.out).same ((Kept.refl _ w5).alloc _)⟩)
      have K' := Lib.hid ((K.out.trans KN.out).alloc (.cells #[.int .i64 s, .slice (some ⟨ga, 0, none⟩) l ca] 27))
      have hwl : w.heap.size < w5.heap.size := by have := F.out.1.lt; have := KN.out.size; omega
      clear F K KN HO QQ MLA MLB p0 f0 z0
      have F := F'; have K := K'; clear F' K'
      generalize hbx : w5.heap.size = bx at *
      have HBX := Lib.hid hbx
      clear hbx
      generalize w5.alloc (.cells #[.int .i64 s, .slice (some ⟨ga, 0, none⟩) l ca] 27) = w5' at *
      obtain ⟨p0, f0, p1, f1, -⟩ := F.out.rules; have z0 := F.out.1.lt; have z1 := F.out.2.1.lt
      go_wp2_with fail
      have hq1 := z0
      have hq2 := z1
      have HA1 := Lib.hid X1.out.home
      refine ((BS.out _ _ _ X1.out).mono ?_)
      rintro e w6 ⟨gb, cb, rfl, ob, k⟩
      have hgb := ob.lt
      (try (have X1' := Lib.hid (by first | exact X1.out.same k | exact X1.out.same ((Kept.refl _ _).drew.trans k)); clear X1; have X1 := X1'; clear X1'))
      (try (have X2' := Lib.hid (by first | exact X2.out.same k | exact X2.out.same ((Kept.refl _ _).drew.trans k)); clear X2; have X2 := X2'; clear X2'))
      (try (have X3' := Lib.hid (by first | exact X3.out.same k | exact X3.out.same ((Kept.refl _ _).drew.trans k)); clear X3; have X3 := X3'; clear X3'))
      have OB := Lib.hid ob
      clear ob
      have hw6 := k.size
      have K' := Lib.hid (K.out.trans k); have F' := Lib.hid (F.out.same k); clear K F p0 f0 z0 p1 f1 z1 k; have K := K'; have F := F'; clear K' F'; obtain ⟨p0, f0, p1, f1, -⟩ := F.out.rules; have z0 := F.out.1.lt; have z1 := F.out.2.1.lt
      go_wp2_with fail
      have F' := Lib.hid (show Fr (w6.alloc (.cells #[.int .i64 s, .slice (some ⟨gb, 0, none⟩) l cb] 27)) [(w6.heap.size, #[.int .i64 s, .slice (some ⟨gb, 0, none⟩) l cb], 27), (bx, #[.int .i64 s, .slice (some ⟨ga, 0, none⟩) l ca], 27), (w.heap.size, #[.int .i64 s, .slice a l cap], 24)] from ⟨Blk.new w6 _ _, F.out.same ((Kept.refl _ w6).alloc _)⟩)
      have K' := Lib.hid (K.out.alloc (.cells #[.int .i64 s, .slice (some ⟨gb, 0, none⟩) l cb] 27))
      have KA := (Kept.refl (fun _ => False) w6).alloc (.cells #[.int .i64 s, .slice (some ⟨gb, 0, none⟩) l cb] 27)
      (try (have X1' := Lib.hid (by first | exact X1.out.same KA | exact X1.out.same ((Kept.refl _ _).drew.trans KA)); clear X1; have X1 := X1'; clear X1'))
      (try (have X2' := Lib.hid (by first | exact X2.out.same KA | exact X2.out.same ((Kept.refl _ _).drew.trans KA)); clear X2; have X2 := X2'; clear X2'))
      (try (have X3' := Lib.hid (by first | exact X3.out.same KA | exact X3.out.same ((Kept.refl _ _).drew.trans KA)); clear X3; have X3 := X3'; clear X3'))
      have OB' := Lib.hid (OB.out.same KA)
      clear F K p0 f0 z0 p1 f1 z1 OB KA; have F := F'; have K := K'; have OB := OB'; clear F' K' OB'
      have hz7 : w6.heap.size < (w6.alloc (.cells #[.int .i64 s, .slice (some ⟨gb, 0, none⟩) l cb] 27)).heap.size := by rw [World.size_alloc]; omega
      generalize w6.alloc (.cells #[.int .i64 s, .slice (some ⟨gb, 0, none⟩) l cb] 27) = w7 at *
      have X3 := Lib.hid OB.out.nats
      have QQ : Hid (∀ w', Same w7 w' → ((∀ i, w'.cell? ⟨w6.heap.size, i, none⟩ = (#[Value.int .i64 s, .slice (some ⟨gb, 0, none⟩) l cb] : Array Value)[i]?) ∧ (∀ i, w'.cell? ⟨bx, i, none⟩ = (#[Value.int .i64 s, .slice (some ⟨ga, 0, none⟩) l ca] : Array Value)[i]?) ∧ (∀ i, w'.cell? ⟨w.heap.size, i, none⟩ = (#[Value.int .i64 s, .slice a l cap] : Array Value)[i]?))) := by
        intro w' k
        obtain ⟨r0, _, r1, _, r2, _⟩ := (F.out.same k).rules
        exact ⟨r0, r1, r2⟩
      have KN := Lib.hid (Kept.refl (fun _ => False) w7)
      go_wp2_with fail
      go_region_held3 (fun w' => ((∀ i, w'.cell? ⟨w6.heap.size, i, none⟩ = (#[Value.int .i64 s, .slice (some ⟨gb, 0, none⟩) l cb] : Array Value)[i]?) ∧ (∀ i, w'.cell? ⟨bx, i, none⟩ = (#[Value.int .i64 s, .slice (some ⟨ga, 0, none⟩) l ca] : Array Value)[i]?) ∧ (∀ i, w'.cell? ⟨w.heap.size, i, none⟩ = (#[Value.int .i64 s, .slice a l cap] : Array Value)[i]?)))
        (first | exact QQ.out _ KN.out | exact QQ.out _ KN.out.drew)
        (first
          | (go_at_call 13; refine (RS.out _ (AT.out.same (by first | exact K.out.trans KN.out | exact K.out.trans KN.out.drew))).mono ?_; rintro e w9 ⟨v2, c2, rfl, hat2, _, k⟩; (try (have X1' := Lib.hid (by first | exact X1.out.same k | exact X1.out.same ((Kept.refl _ _).drew.trans k)); clear X1; have X1 := X1'; clear X1')); (try (have X2' := Lib.hid (by first | exact X2.out.same k | exact X2.out.same ((Kept.refl _ _).drew.trans k)); clear X2; have X2 := X2'; clear X2')); (try (have X3' := Lib.hid (by first | exact X3.out.same k | exact X3.out.same ((Kept.refl _ _).drew.trans k)); clear X3; have X3 := X3'; clear X3')); have KN' := Lib.hid (Kept.trans (by first | exact KN.out | exact KN.out.drew) k); clear KN k; have KN := KN'; clear KN'; have X2 := Lib.hid hat2; clear hat2)
          | (go_at_call 12; (with_reducible refine (SB.out _ _ _ _ _ X3.out X2.out).mono ?_); rintro e w9 ⟨rfl, k⟩; (try (have X1' := Lib.hid (by first | exact X1.out.same k | exact X1.out.same ((Kept.refl _ _).drew.trans k)); clear X1; have X1 := X1'; clear X1')); (try (have X2' := Lib.hid (by first | exact X2.out.same k | exact X2.out.same ((Kept.refl _ _).drew.trans k)); clear X2; have X2 := X2'; clear X2')); (try (have X3' := Lib.hid (by first | exact X3.out.same k | exact X3.out.same ((Kept.refl _ _).drew.trans k)); clear X3; have X3 := X3'; clear X3')); have KN' := Lib.hid (Kept.trans (by first | exact KN.out | exact KN.out.drew) k); clear KN k; have KN := KN'; clear KN')
          | (go_at_call 12; (with_reducible refine (SA.out _ _ _ _ _ X1.out (AT.out.same (by first | exact K.out.trans KN.out | exact K.out.trans KN.out.drew))).mono ?_); rintro e w9 ⟨rfl, k⟩; clear X2; (try (have X1' := Lib.hid (by first | exact X1.out.same k | exact X1.out.same ((Kept.refl _ _).drew.trans k)); clear X1; have X1 := X1'; clear X1')); (try (have X2' := Lib.hid (by first | exact X2.out.same k | exact X2.out.same ((Kept.refl _ _).drew.trans k)); clear X2; have X2 := X2'; clear X2')); (try (have X3' := Lib.hid (by first | exact X3.out.same k | exact X3.out.same ((Kept.refl _ _).drew.trans k)); clear X3; have X3 := X3'; clear X3')); have KN' := Lib.hid (Kept.trans (by first | exact KN.out | exact KN.out.drew) k); clear KN k; have KN := KN'; clear KN')
          | (go_at_call 14; refine (BH.out _ _ _ X1.out).mono ?_; rintro e w9 ⟨rfl, k⟩; (try (have X1' := Lib.hid (by first | exact X1.out.same k | exact X1.out.same ((Kept.refl _ _).drew.trans k)); clear X1; have X1 := X1'; clear X1')); (try (have X2' := Lib.hid (by first | exact X2.out.same k | exact X2.out.same ((Kept.refl _ _).drew.trans k)); clear X2; have X2 := X2'; clear X2')); (try (have X3' := Lib.hid (by first | exact X3.out.same k | exact X3.out.same ((Kept.refl _ _).drew.trans k)); clear X3; have X3 := X3'; clear X3')); have KN' := Lib.hid (Kept.trans (by first | exact KN.out | exact KN.out.drew) k); clear KN k; have KN := KN'; clear KN')
          | (go_at_call 15; refine (RH.out _ (AT.out.same (by first | exact K.out.trans KN.out | exact K.out.trans KN.out.drew))).mono ?_; rintro e w9 ⟨rfl, k⟩; (try (have X1' := Lib.hid (by first | exact X1.out.same k | exact X1.out.same ((Kept.refl _ _).drew.trans k)); clear X1; have X1 := X1'; clear X1')); (try (have X2' := Lib.hid (by first | exact X2.out.same k | exact X2.out.same ((Kept.refl _ _).drew.trans k)); clear X2; have X2 := X2'; clear X2')); (try (have X3' := Lib.hid (by first | exact X3.out.same k | exact X3.out.same ((Kept.refl _ _).drew.trans k)); clear X3; have X3 := X3'; clear X3')); have KN' := Lib.hid (Kept.trans (by first | exact KN.out | exact KN.out.drew) k); clear KN k; have KN := KN'; clear KN')
          | (go_at_call 16; refine (BC.out _ _ _ X1.out).mono ?_; rintro e w9 ⟨rfl, k⟩; (try (have X1' := Lib.hid (by first | exact X1.out.same k | exact X1.out.same ((Kept.refl _ _).drew.trans k)); clear X1; have X1 := X1'; clear X1')); (try (have X2' := Lib.hid (by first | exact X2.out.same k | exact X2.out.same ((Kept.refl _ _).drew.trans k)); clear X2; have X2 := X2'; clear X2')); (try (have X3' := Lib.hid (by first | exact X3.out.same k | exact X3.out.same ((Kept.refl _ _).drew.trans k)); clear X3; have X3 := X3'; clear X3')); have KN' := Lib.hid (Kept.trans (by first | exact KN.out | exact KN.out.drew) k); clear KN k; have KN := KN'; clear KN')
          | (go_at_call 17; refine (RC.out _ (AT.out.same (by first | exact K.out.trans KN.out | exact K.out.trans KN.out.drew))).mono ?_; rintro e w9 ⟨rfl, k⟩; (try (have X1' := Lib.hid (by first | exact X1.out.same k | exact X1.out.same ((Kept.refl _ _).drew.trans k)); clear X1; have X1 := X1'; clear X1')); (try (have X2' := Lib.hid (by first | exact X2.out.same k | exact X2.out.same ((Kept.refl _ _).drew.trans k)); clear X2; have X2 := X2'; clear X2')); (try (have X3' := Lib.hid (by first | exact X3.out.same k | exact X3.out.same ((Kept.refl _ _).drew.trans k)); clear X3; have X3 := X3'; clear X3')); have KN' := Lib.hid (Kept.trans (by first | exact KN.out | exact KN.out.drew) k); clear KN k; have KN := KN'; clear KN'))
      all_goals
        have K' := Lib.hid (K.out.trans KN.out)
        have F' := Lib.hid (F.out.same KN.out)
        have OB' := Lib.hid (OB.out.same KN.out)
        clear K F OB KN QQ X3
        (try clear X2)
        have K := K'; have F := F'; have OB := OB'
        clear K' F' OB'
        go_wp2_with fail
        go_loopw [10] (fun si wr => ∃ (i : Nat) (us : List Nat), si = .int .i64 (i : Nat) ∧ i ≤ l ∧ Hid (us.length = l) ∧ Hid (OwnN wr w5'.heap.size 36 .u64 (.slice (some ⟨gb, 0, none⟩) l cb) us) ∧
            Hid (Fr wr [(w6.heap.size, #[.int .i64 s, .slice (some ⟨gb, 0, none⟩) l cb], 27), (bx, #[.int .i64 s, .slice (some ⟨ga, 0, none⟩) l ca], 27), (w.heap.size, #[.int .i64 s, .slice a l cap], 24)]) ∧ Hid (NatsAt wr .u64 (some ⟨ga, 0, none⟩) ws) ∧ Hid (Same w wr)) (fun si _ => l - (intOf si).toNat)
        case atStart => exact ⟨0, zs, rfl, Nat.zero_le _, ZL.out, OB.out, F.out, X1.out, K.out⟩
        case round =>
          clear F K OB X1
          obtain ⟨i, us, rfl, hi, UL, OB, F, X1, K⟩ := hrel
          obtain ⟨p0, f0, p1, f1, p2, f2, -⟩ := F.out.rules; have z0 := F.out.1.lt; have z1 := F.out.2.1.lt; have z2 := F.out.2.2.1.lt
          by_cases hlt : i < l
          · have hlt' : (i : Int) < (l : Int) := by omega
            have hui : i < us.length := by rw [UL.out]; exact hlt
            have c1 : wr.cell? ⟨gb, i, none⟩ = some (.int .u64 ((us[i] : Nat) : Int)) := OB.out.cell UL.out (List.getElem?_eq_getElem hui)
            have c2 : ∀ j, wr.frozen? ⟨gb, j, none⟩ = false := OB.out.free UL.out
            obtain ⟨x, hx⟩ : ∃ x, us[i] = x := ⟨_, rfl⟩
            rw [hx] at c1
            obtain ⟨y, hy⟩ : ∃ y : Nat, IntKind.u64.wrap ((x : Int) + 1) = ((y : Nat) : Int) := ⟨((x + 1) % 18446744073709551616), by rw [IntKind.wrap_u64]; omega⟩
            clear hx hui
            go_wp2_with fail
            go_roundw
            case rel =>
              have KG := (Kept.refl (fun j => j = gb) wr).setG i (.int .u64 ((y : Nat) : Int))
              exact ⟨i + 1, us.set i y, by go_num, by omega, by show (us.set i y).length = l; rw [List.length_set]; exact UL.out, OB.out.set UL.out i y, F.out.kept KG (by simp; omega), X1.out.kept' KG (HA1.out.imp id fun h z hz => by have := h z hz; omega), K.out.turn KG (by omega)⟩
            case measure => simp [intOf]; omega
          · clear OB UL
            go_wp2_with fail
            refine (N1.out _).mono ?_
            rintro e w10 ⟨vx, cx, rfl, hvx, k⟩
            have X2 := Lib.hid hvx
            clear hvx
            have X1' := Lib.hid (X1.out.same k); clear X1; have X1 := X1'; clear X1'
            have K' := Lib.hid (K.out.trans k); have F' := Lib.hid (F.out.same k); clear K F p0 f0 z0 p1 f1 z1 p2 f2 z2 k; have K := K'; have F := F'; clear K' F'; obtain ⟨p0, f0, p1, f1, p2, f2, -⟩ := F.out.rules; have z0 := F.out.1.lt; have z1 := F.out.2.1.lt; have z2 := F.out.2.2.1.lt
            go_wp2_with fail
            have F' := Lib.hid (show Fr (w10.alloc (.cells #[.int .i64 ns, .slice vx nl cx] 27)) [(w10.heap.size, #[.int .i64 ns, .slice vx nl cx], 27), (w6.heap.size, #[.int .i64 s, .slice (some ⟨gb, 0, none⟩) l cb], 27), (bx, #[.int .i64 s, .slice (some ⟨ga, 0, none⟩) l ca], 27), (w.heap.size, #[.int .i64 s, .slice a l cap], 24)] from ⟨Blk.new w10 _ _, F.out.same ((Kept.refl _ w10).alloc _)⟩)
            have K' := Lib.hid (K.out.alloc (.cells #[.int .i64 ns, .slice vx nl cx] 27))
            have KA := (Kept.refl (fun _ => False) w10).alloc (.cells #[.int .i64 ns, .slice vx nl cx] 27)
            have X1' := Lib.hid (X1.out.same KA); clear X1; have X1 := X1'; clear X1'
            have X2' := Lib.hid (X2.out.same KA); clear X2; have X2 := X2'; clear X2'
            clear F K p0 f0 z0 p1 f1 z1 p2 f2 z2 KA
            have F := F'; have K := K'
            clear F' K'
            generalize w10.alloc (.cells #[.int .i64 ns, .slice vx nl cx] 27) = w11 at *
            obtain ⟨p0, f0, p1, f1, p2, f2, p3, f3, -⟩ := F.out.rules; have z0 := F.out.1.lt; have z1 := F.out.2.1.lt; have z2 := F.out.2.2.1.lt; have z3 := F.out.2.2.2.1.lt
            refine (N2.out _).mono ?_
            rintro e w12 ⟨vy, cy, rfl, hvy, k⟩
            have X3 := Lib.hid hvy
            clear hvy
            have X1' := Lib.hid (X1.out.same k); clear X1; have X1 := X1'; clear X1'
            have X2' := Lib.hid (X2.out.same k); clear X2; have X2 := X2'; clear X2'
            have K' := Lib.hid (K.out.trans k); have F' := Lib.hid (F.out.same k); clear K F p0 f0 z0 p1 f1 z1 p2 f2 z2 p3 f3 z3 k; have K := K'; have F := F'; clear K' F'; obtain ⟨p0, f0, p1, f1, p2, f2, p3, f3, -⟩ := F.out.rules; have z0 := F.out.1.lt; have z1 := F.out.2.1.lt; have z2 := F.out.2.2.1.lt; have z3 := F.out.2.2.2.1.lt
            go_wp2_with fail
            have F' := Lib.hid (show Fr (w12.alloc (.cells #[.int .i64 ns, .slice vy nl cy] 24)) [(w12.heap.size, #[.int .i64 ns, .slice vy nl cy], 24), (w10.heap.size, #[.int .i64 ns, .slice vx nl cx], 27), (w6.heap.size, #[.int .i64 s, .slice (some ⟨gb, 0, none⟩) l cb], 27), (bx, #[.int .i64 s, .slice (some ⟨ga, 0, none⟩) l ca], 27), (w.heap.size, #[.int .i64 s, .slice a l cap], 24)] from ⟨Blk.new w12 _ _, F.out.same ((Kept.refl _ w12).alloc _)⟩)
            have K' := Lib.hid (K.out.alloc (.cells #[.int .i64 ns, .slice vy nl cy] 24))
            have KA := (Kept.refl (fun _ => False) w12).alloc (.cells #[.int .i64 ns, .slice vy nl cy] 24)
            have X1' := Lib.hid (X1.out.same KA); clear X1; have X1 := X1'; clear X1'
            have X2' := Lib.hid (X2.out.same KA); clear X2; have X2 := X2'; clear X2'
            have X3' := Lib.hid (X3.out.same KA); clear X3; have X3 := X3'; clear X3'
            clear F K p0 f0 z0 p1 f1 z1 p2 f2 z2 p3 f3 z3 KA
            have F := F'; have K := K'
            clear F' K'
            generalize w12.alloc (.cells #[.int .i64 ns, .slice vy nl cy] 24) = w13 at *
            obtain ⟨p0, f0, p1, f1, p2, f2, p3, f3, p4, f4, -⟩ := F.out.rules; have z0 := F.out.1.lt; have z1 := F.out.2.1.lt; have z2 := F.out.2.2.1.lt; have z3 := F.out.2.2.2.1.lt; have z4 := F.out.2.2.2.2.1.lt
            go_wp2_with fail
            refine (SA.out _ _ _ _ _ X1.out (AT.out.same K.out)).mono ?_
            rintro e w14 ⟨rfl, k⟩
            have X2' := Lib.hid (X2.out.same k); clear X2; have X2 := X2'; clear X2'
            have X3' := Lib.hid (X3.out.same k); clear X3; have X3 := X3'; clear X3'
            have K' := Lib.hid (K.out.trans k); have F' := Lib.hid (F.out.same k); clear K F p0 f0 z0 p1 f1 z1 p2 f2 z2 p3 f3 z3 p4 f4 z4 k; have K := K'; have F := F'; clear K' F'; obtain ⟨p0, f0, p1, f1, p2, f2, p3, f3, p4, f4, -⟩ := F.out.rules; have z0 := F.out.1.lt; have z1 := F.out.2.1.lt; have z2 := F.out.2.2.1.lt; have z3 := F.out.2.2.2.1.lt; have z4 := F.out.2.2.2.2.1.lt
            go_wp2_with fail
            refine (SN.out _ _ _ _ _ X2.out X3.out).mono ?_
            rintro e w15 ⟨rfl, k⟩
            have K' := Lib.hid (K.out.trans k); have F' := Lib.hid (F.out.same k); clear K F p0 f0 z0 p1 f1 z1 p2 f2 z2 p3 f3 z3 p4 f4 z4 k; have K := K'; have F := F'; clear K' F'; obtain ⟨p0, f0, p1, f1, p2, f2, p3, f3, p4, f4, -⟩ := F.out.rules; have z0 := F.out.1.lt; have z1 := F.out.2.1.lt; have z2 := F.out.2.2.1.lt; have z3 := F.out.2.2.2.1.lt; have z4 := F.out.2.2.2.2.1.lt
            go_wp2_with fail
            refine (AW.out _ (TT.out.same K.out)).mono ?_
            rintro e w16 ⟨rfl, k⟩
            have K' := Lib.hid (K.out.trans k); have F' := Lib.hid (F.out.same k); clear K F p0 f0 z0 p1 f1 z1 p2 f2 z2 p3 f3 z3 p4 f4 z4 k; have K := K'; have F := F'; clear K' F'; obtain ⟨p0, f0, p1, f1, p2, f2, p3, f3, p4, f4, -⟩ := F.out.rules; have z0 := F.out.1.lt; have z1 := F.out.2.1.lt; have z2 := F.out.2.2.1.lt; have z3 := F.out.2.2.2.1.lt; have z4 := F.out.2.2.2.2.1.lt
            go_wp2_with fail
            go_ret
            exact ⟨rfl, K.out⟩
    · have KG := (Kept.refl (fun j => j = w3.heap.size + 1) w5).setG 0 (.int .i64 s) |>.setG 1 (.slice (some ⟨ga, 0, none⟩) l ca)
      have X1 := Lib.hid (HO.out.nats.apart MM.out KG (map_none _ _ (by simp)))
      have hw35 := KN.out.size
      have hw03 := F.out.1.lt
      have F' := Lib.hid (show Fr ((w5.setCell ⟨w3.heap.size + 1, 0, none⟩ (.int .i64 s)).setCell ⟨w3.heap.size + 1, 1, none⟩ (.slice (some ⟨ga, 0, none⟩) l ca)) [(w3.heap.size + 1, #[.int .i64 s, .slice (some ⟨ga, 0, none⟩) l ca], 27), (w.heap.size, #[.int .i64 s, .slice a l cap], 24)] from ⟨(MM.out.set 0 _).set 1 _, (F.out.same KN.out).kept KG (by simp; omega)⟩)
      have K' := Lib.hid ((K.out.trans KN.out).turn KG (by omega))
      clear F K KN HO QQ MLA MLB MM MB0 MB1 MBf p0 f0 z0 KG
      have F := F'; have K := K'; clear F' K'
      generalize hbx : w3.heap.size + 1 = bx at *
      have HBX := Lib.hid hbx
      clear hbx
      generalize (w5.setCell ⟨bx, 0, none⟩ (.int .i64 s)).setCell ⟨bx, 1, none⟩ (.slice (some ⟨ga, 0, none⟩) l ca) = w5' at *
      obtain ⟨p0, f0, p1, f1, -⟩ := F.out.rules; have z0 := F.out.1.lt; have z1 := F.out.2.1.lt
      go_wp2_with fail
      have hq1 := z0
      have hq2 := z1
      have HA1 := Lib.hid X1.out.home
      refine ((BS.out _ _ _ X1.out).mono ?_)
      rintro e w6 ⟨gb, cb, rfl, ob, k⟩
      have hgb := ob.lt
      (try (have X1' := Lib.hid (by first | exact X1.out.same k | exact X1.out.same ((Kept.refl _ _).drew.trans k)); clear X1; have X1 := X1'; clear X1'))
      (try (have X2' := Lib.hid (by first | exact X2.out.same k | exact X2.out.same ((Kept.refl _ _).drew.trans k)); clear X2; have X2 := X2'; clear X2'))
      (try (have X3' := Lib.hid (by first | exact X3.out.same k | exact X3.out.same ((Kept.refl _ _).drew.trans k)); clear X3; have X3 := X3'; clear X3'))
      have OB := Lib.hid ob
      clear ob
      have hw6 := k.size
      have K' := Lib.hid (K.out.trans k); have F' := Lib.hid (F.out.same k); clear K F p0 f0 z0 p1 f1 z1 k; have K := K'; have F := F'; clear K' F'; obtain ⟨p0, f0, p1, f1, -⟩ := F.out.rules; have z0 := F.out.1.lt; have z1 := F.out.2.1.lt
      go_wp2_with fail
      have F' := Lib.hid (show Fr (w6.alloc (.cells #[.int .i64 s, .slice (some ⟨gb, 0, none⟩) l cb] 27)) [(w6.heap.size, #[.int .i64 s, .slice (some ⟨gb, 0, none⟩) l cb], 27), (bx, #[.int .i64 s, .slice (some ⟨ga, 0, none⟩) l ca], 27), (w.heap.size, #[.int .i64 s, .slice a l cap], 24)] from ⟨Blk.new w6 _ _, F.out.same ((Kept.refl _ w6).alloc _)⟩)
      have K' := Lib.hid (K.out.alloc (.cells #[.int .i64 s, .slice (some ⟨gb, 0, none⟩) l cb] 27))
      have KA := (Kept.refl (fun _ => False) w6).alloc (.cells #[.int .i64 s, .slice (some ⟨gb, 0, none⟩) l cb] 27)
      (try (have X1' := Lib.hid (by first | exact X1.out.same KA | exact X1.out.same ((Kept.refl _ _).drew.trans KA)); clear X1; have X1 := X1'; clear X1'))
      (try (have X2' := Lib.hid (by first | exact X2.out.same KA | exact X2.out.same ((Kept.refl _ _).drew.trans KA)); clear X2; have X2 := X2'; clear X2'))
      (try (have X3' := Lib.hid (by first | exact X3.out.same KA | exact X3.out.same ((Kept.refl _ _).drew.trans KA)); clear X3; have X3 := X3'; clear X3'))
      have OB' := Lib.hid (OB.out.same KA)
      clear F K p0 f0 z0 p1 f1 z1 OB KA; have F := F'; have K := K'; have OB := OB'; clear F' K' OB'
      have hz7 : w6.heap.size < (w6.alloc (.cells #[.int .i64 s, .slice (some ⟨gb, 0, none⟩) l cb] 27)).heap.size := by rw [World.size_alloc]; omega
      generalize w6.alloc (.cells #[.int .i64 s, .slice (some ⟨gb, 0, none⟩) l cb] 27) = w7 at *
      have X3 := Lib.hid OB.out.nats
      have QQ : Hid (∀ w', Same w7 w' → ((∀ i, w'.cell? ⟨w6.heap.size, i, none⟩ = (#[Value.int .i64 s, .slice (some ⟨gb, 0, none⟩) l cb] : Array Value)[i]?) ∧ (∀ i, w'.cell? ⟨bx, i, none⟩ = (#[Value.int .i64 s, .slice (some ⟨ga, 0, none⟩) l ca] : Array Value)[i]?) ∧ (∀ i, w'.cell? ⟨w.heap.size, i, none⟩ = (#[Value.int .i64 s, .slice a l cap] : Array Value)[i]?))) := by
        intro w' k
        obtain ⟨r0, _, r1, _, r2, _⟩ := (F.out.same k).rules
        exact ⟨r0, r1, r2⟩
      have KN := Lib.hid (Kept.refl (fun _ => False) w7)
      go_wp2_with fail
      go_region_held3 (fun w' => ((∀ i, w'.cell? ⟨w6.heap.size, i, none⟩ = (#[Value.int .i64 s, .slice (some ⟨gb, 0, none⟩) l cb] : Array Value)[i]?) ∧ (∀ i, w'.cell? ⟨bx, i, none⟩ = (#[Value.int .i64 s, .slice (some ⟨ga, 0, none⟩) l ca] : Array Value)[i]?) ∧ (∀ i, w'.cell? ⟨w.heap.size, i, none⟩ = (#[Value.int .i64 s, .slice a l cap] : Array Value)[i]?)))
        (first | exact QQ.out _ KN.out | exact QQ.out _ KN.out.drew)
        (first
          | (go_at_call 13; refine (RS.out _ (AT.out.same (by first | exact K.out.trans KN.out | exact K.out.trans KN.out.drew))).mono ?_; rintro e w9 ⟨v2, c2, rfl, hat2, _, k⟩; (try (have X1' := Lib.hid (by first | exact X1.out.same k | exact X1.out.same ((Kept.refl _ _).drew.trans k)); clear X1; have X1 := X1'; clear X1')); (try (have X2' := Lib.hid (by first | exact X2.out.same k | exact X2.out.same ((Kept.refl _ _).drew.trans k)); clear X2; have X2 := X2'; clear X2')); (try (have X3' := Lib.hid (by first | exact X3.out.same k | exact X3.out.same ((Kept.refl _ _).drew.trans k)); clear X3; have X3 := X3'; clear X3')); have KN' := Lib.hid (Kept.trans (by first | exact KN.out | exact KN.out.drew) k); clear KN k; have KN := KN'; clear KN'; have X2 := Lib.hid hat2; clear hat2)
          | (go_at_call 12; (with_reducible refine (SB.out _ _ _ _ _ X3.out X2.out).mono ?_); rintro e w9 ⟨rfl, k⟩; (try (have X1' := Lib.hid (by first | exact X1.out.same k | exact X1.out.same ((Kept.refl _ _).drew.trans k)); clear X1; have X1 := X1'; clear X1')); (try (have X2' := Lib.hid (by first | exact X2.out.same k | exact X2.out.same ((Kept.refl _ _).drew.trans k)); clear X2; have X2 := X2'; clear X2')); (try (have X3' := Lib.hid (by first | exact X3.out.same k | exact X3.out.same ((Kept.refl _ _).drew.trans k)); clear X3; have X3 := X3'; clear X3')); have KN' := Lib.hid (Kept.trans (by first | exact KN.out | exact KN.out.drew) k); clear KN k; have KN := KN'; clear KN')
          | (go_at_call 12; (with_reducible refine (SA.out _ _ _ _ _ X1.out (AT.out.same (by first | exact K.out.trans KN.out | exact K.out.trans KN.out.drew))).mono ?_); rintro e w9 ⟨rfl, k⟩; clear X2; (try (have X1' := Lib.hid (by first | exact X1.out.same k | exact X1.out.same ((Kept.refl _ _).drew.trans k)); clear X1; have X1 := X1'; clear X1')); (try (have X2' := Lib.hid (by first | exact X2.out.same k | exact X2.out.same ((Kept.refl _ _).drew.trans k)); clear X2; have X2 := X2'; clear X2')); (try (have X3' := Lib.hid (by first | exact X3.out.same k | exact X3.out.same ((Kept.refl _ _).drew.trans k)); clear X3; have X3 := X3'; clear X3')); have KN' := Lib.hid (Kept.trans (by first | exact KN.out | exact KN.out.drew) k); clear KN k; have KN := KN'; clear KN')
          | (go_at_call 14; refine (BH.out _ _ _ X1.out).mono ?_; rintro e w9 ⟨rfl, k⟩; (try (have X1' := Lib.hid (by first | exact X1.out.same k | exact X1.out.same ((Kept.refl _ _).drew.trans k)); clear X1; have X1 := X1'; clear X1')); (try (have X2' := Lib.hid (by first | exact X2.out.same k | exact X2.out.same ((Kept.refl _ _).drew.trans k)); clear X2; have X2 := X2'; clear X2')); (try (have X3' := Lib.hid (by first | exact X3.out.same k | exact X3.out.same ((Kept.refl _ _).drew.trans k)); clear X3; have X3 := X3'; clear X3')); have KN' := Lib.hid (Kept.trans (by first | exact KN.out | exact KN.out.drew) k); clear KN k; have KN := KN'; clear KN')
          | (go_at_call 15; refine (RH.out _ (AT.out.same (by first | exact K.out.trans KN.out | exact K.out.trans KN.out.drew))).mono ?_; rintro e w9 ⟨rfl, k⟩; (try (have X1' := Lib.hid (by first | exact X1.out.same k | exact X1.out.same ((Kept.refl _ _).drew.trans k)); clear X1; have X1 := X1'; clear X1')); (try (have X2' := Lib.hid (by first | exact X2.out.same k | exact X2.out.same ((Kept.refl _ _).drew.trans k)); clear X2; have X2 := X2'; clear X2')); (try (have X3' := Lib.hid (by first | exact X3.out.same k | exact X3.out.same ((Kept.refl _ _).drew.trans k)); clear X3; have X3 := X3'; clear X3')); have KN' := Lib.hid (Kept.trans (by first | exact KN.out | exact KN.out.drew) k); clear KN k; have KN := KN'; clear KN')
          | (go_at_call 16; refine (BC.out _ _ _ X1.out).mono ?_; rintro e w9 ⟨rfl, k⟩; (try (have X1' := Lib.hid (by first | exact X1.out.same k | exact X1.out.same ((Kept.refl _ _).drew.trans k)); clear X1; have X1 := X1'; clear X1')); (try (have X2' := Lib.hid (by first | exact X2.out.same k | exact X2.out.same ((Kept.refl _ _).drew.trans k)); clear X2; have X2 := X2'; clear X2')); (try (have X3' := Lib.hid (by first | exact X3.out.same k | exact X3.out.same ((Kept.refl _ _).drew.trans k)); clear X3; have X3 := X3'; clear X3')); have KN' := Lib.hid (Kept.trans (by first | exact KN.out | exact KN.out.drew) k); clear KN k; have KN := KN'; clear KN')
          | (go_at_call 17; refine (RC.out _ (AT.out.same (by first | exact K.out.trans KN.out | exact K.out.trans KN.out.drew))).mono ?_; rintro e w9 ⟨rfl, k⟩; (try (have X1' := Lib.hid (by first | exact X1.out.same k | exact X1.out.same ((Kept.refl _ _).drew.trans k)); clear X1; have X1 := X1'; clear X1')); (try (have X2' := Lib.hid (by first | exact X2.out.same k | exact X2.out.same ((Kept.refl _ _).drew.trans k)); clear X2; have X2 := X2'; clear X2')); (try (have X3' := Lib.hid (by first | exact X3.out.same k | exact X3.out.same ((Kept.refl _ _).drew.trans k)); clear X3; have X3 := X3'; clear X3')); have KN' := Lib.hid (Kept.trans (by first | exact KN.out | exact KN.out.drew) k); clear KN k; have KN := KN'; clear KN'))
      all_goals
        have K' := Lib.hid (K.out.trans KN.out)
        have F' := Lib.hid (F.out.same KN.out)
        have OB' := Lib.hid (OB.out.same KN.out)
        clear K F OB KN QQ X3
        (try clear X2)
        have K := K'; have F := F'; have OB := OB'
        clear K' F' OB'
        go_wp2_with fail
        go_loopw [10] (fun si wr => ∃ (i : Nat) (us : List Nat), si = .int .i64 (i : Nat) ∧ i ≤ l ∧ Hid (us.length = l) ∧ Hid (OwnN wr w5'.heap.size 36 .u64 (.slice (some ⟨gb, 0, none⟩) l cb) us) ∧
            Hid (Fr wr [(w6.heap.size, #[.int .i64 s, .slice (some ⟨gb, 0, none⟩) l cb], 27), (bx, #[.int .i64 s, .slice (some ⟨ga, 0, none⟩) l ca], 27), (w.heap.size, #[.int .i64 s, .slice a l cap], 24)]) ∧ Hid (NatsAt wr .u64 (some ⟨ga, 0, none⟩) ws) ∧ Hid (Same w wr)) (fun si _ => l - (intOf si).toNat)
        case atStart => exact ⟨0, zs, rfl, Nat.zero_le _, ZL.out, OB.out, F.out, X1.out, K.out⟩
        case round =>
          clear F K OB X1
          obtain ⟨i, us, rfl, hi, UL, OB, F, X1, K⟩ := hrel
          obtain ⟨p0, f0, p1, f1, p2, f2, -⟩ := F.out.rules; have z0 := F.out.1.lt; have z1 := F.out.2.1.lt; have z2 := F.out.2.2.1.lt
          by_cases hlt : i < l
          · have hlt' : (i : Int) < (l : Int) := by omega
            have hui : i < us.length := by rw [UL.out]; exact hlt
            have c1 : wr.cell? ⟨gb, i, none⟩ = some (.int .u64 ((us[i] : Nat) : Int)) := OB.out.cell UL.out (List.getElem?_eq_getElem hui)
            have c2 : ∀ j, wr.frozen? ⟨gb, j, none⟩ = false := OB.out.free UL.out
            obtain ⟨x, hx⟩ : ∃ x, us[i] = x := ⟨_, rfl⟩
            rw [hx] at c1
            obtain ⟨y, hy⟩ : ∃ y : Nat, IntKind.u64.wrap ((x : Int) + 1) = ((y : Nat) : Int) := ⟨((x + 1) % 18446744073709551616), by rw [IntKind.wrap_u64]; omega⟩
            clear hx hui
            go_wp2_with fail
            go_roundw
            case rel =>
              have KG := (Kept.refl (fun j => j = gb) wr).setG i (.int .u64 ((y : Nat) : Int))
              exact ⟨i + 1, us.set i y, by go_num, by omega, by show (us.set i y).length = l; rw [List.length_set]; exact UL.out, OB.out.set UL.out i y, F.out.kept KG (by simp; omega), X1.out.kept' KG (HA1.out.imp id fun h z hz => by have := h z hz; omega), K.out.turn KG (by omega)⟩
            case measure => simp [intOf]; omega
          · clear OB UL
            go_wp2_with fail
            refine (N1.out _).mono ?_
            rintro e w10 ⟨vx, cx, rfl, hvx, k⟩
            have X2 := Lib.hid hvx
            clear hvx
            have X1' := Lib.hid (X1.out.same k); clear X1; have X1 := X1'; clear X1'
            have K' := Lib.hid (K.out.trans k); have F' := Lib.hid (F.out.same k); clear K F p0 f0 z0 p1 f1 z1 p2 f2 z2 k; have K := K'; have F := F'; clear K' F'; obtain ⟨p0, f0, p1, f1, p2, f2, -⟩ := F.out.rules; have z0 := F.out.1.lt; have z1 := F.out.2.1.lt; have z2 := F.out.2.2.1.lt
            go_wp2_with fail
            have F' := Lib.hid (show Fr (w10.alloc (.cells #[.int .i64 ns, .slice vx nl cx] 27)) [(w10.heap.size, #[.int .i64 ns, .slice vx nl cx], 27), (w6.heap.size, #[.int .i64 s, .slice (some ⟨gb, 0, none⟩) l cb], 27), (bx, #[.int .i64 s, .slice (some ⟨ga, 0, none⟩) l ca], 27), (w.heap.size, #[.int .i64 s, .slice a l cap], 24)] from ⟨Blk.new w10 _ _, F.out.same ((Kept.refl _ w10).alloc _)⟩)
            have K' := Lib.hid (K.out.alloc (.cells #[.int .i64 ns, .slice vx nl cx] 27))
            have KA := (Kept.refl (fun _ => False) w10).alloc (.cells #[.int .i64 ns, .slice vx nl cx] 27)
            have X1' := Lib.hid (X1.out.same KA); clear X1; have X1 := X1'; clear X1'
            have X2' := Lib.hid (X2.out.same KA); clear X2; have X2 := X2'; clear X2'
            clear F K p0 f0 z0 p1 f1 z1 p2 f2 z2 KA
            have F := F'; have K := K'
            clear F' K'
            generalize w10.alloc (.cells #[.int .i64 ns, .slice vx nl cx] 27) = w11 at *
            obtain ⟨p0, f0, p1, f1, p2, f2, p3, f3, -⟩ := F.out.rules; have z0 := F.out.1.lt; have z1 := F.out.2.1.lt; have z2 := F.out.2.2.1.lt; have z3 := F.out.2.2.2.1.lt
            refine (N2.out _).mono ?_
            rintro e w12 ⟨vy, cy, rfl, hvy, k⟩
            have X3 := Lib.hid hvy
            clear hvy
            have X1' := Lib.hid (X1.out.same k); clear X1; have X1 := X1'; clear X1'
            have X2' := Lib.hid (X2.out.same k); clear X2; have X2 := X2'; clear X2'
            have K' := Lib.hid (K.out.trans k); have F' := Lib.hid (F.out.same k); clear K F p0 f0 z0 p1 f1 z1 p2 f2 z2 p3 f3 z3 k; have K := K'; have F := F'; clear K' F'; obtain ⟨p0, f0, p1, f1, p2, f2, p3, f3, -⟩ := F.out.rules; have z0 := F.out.1.lt; have z1 := F.out.2.1.lt; have z2 := F.out.2.2.1.lt; have z3 := F.out.2.2.2.1.lt
            go_wp2_with fail
            have F' := Lib.hid (show Fr (w12.alloc (.cells #[.int .i64 ns, .slice vy nl cy] 24)) [(w12.heap.size, #[.int .i64 ns, .slice vy nl cy], 24), (w10.heap.size, #[.int .i64 ns, .slice vx nl cx], 27), (w6.heap.size, #[.int .i64 s, .slice (some ⟨gb, 0, none⟩) l cb], 27), (bx, #[.int .i64 s, .slice (some ⟨ga, 0, none⟩) l ca], 27), (w.heap.size, #[.int .i64 s, .slice a l cap], 24)] from ⟨Blk.new w12 _ _, F.out.same ((Kept.refl _ w12).alloc _)⟩)
            have K' := Lib.hid (K.out.alloc (.cells #[.int .i64 ns, .slice vy nl cy] 24))
            have KA := (Kept.refl (fun _ => False) w12).alloc (.cells #[.int .i64 ns, .slice vy nl cy] 24)
            have X1' := Lib.hid (X1.out.same KA); clear X1; have X1 := X1'; clear X1'
            have X2' := Lib.hid (X2.out.same KA); clear X2; have X2 := X2'; clear X2'
            have X3' := Lib.hid (X3.out.same KA); clear X3; have X3 := X3'; clear X3'
            clear F K p0 f0 z0 p1 f1 z1 p2 f2 z2 p3 f3 z3 KA
            have F := F'; have K := K'
            clear F' K'
            generalize w12.alloc (.cells #[.int .i64 ns, .slice vy nl cy] 24) = w13 at *
            obtain ⟨p0, f0, p1, f1, p2, f2, p3, f3, p4, f4, -⟩ := F.out.rules; have z0 := F.out.1.lt; have z1 := F.out.2.1.lt; have z2 := F.out.2.2.1.lt; have z3 := F.out.2.2.2.1.lt; have z4 := F.out.2.2.2.2.1.lt
            go_wp2_with fail
            refine (SA.out _ _ _ _ _ X1.out (AT.out.same K.out)).mono ?_
            rintro e w14 ⟨rfl, k⟩
            have X2' := Lib.hid (X2.out.same k); clear X2; have X2 := X2'; clear X2'
            have X3' := Lib.hid (X3.out.same k); clear X3; have X3 := X3'; clear X3'
            have K' := Lib.hid (K.out.trans k); have F' := Lib.hid (F.out.same k); clear K F p0 f0 z0 p1 f1 z1 p2 f2 z2 p3 f3 z3 p4 f4 z4 k; have K := K'; have F := F'; clear K' F'; obtain ⟨p0, f0, p1, f1, p2, f2, p3, f3, p4, f4, -⟩ := F.out.rules; have z0 := F.out.1.lt; have z1 := F.out.2.1.lt; have z2 := F.out.2.2.1.lt; have z3 := F.out.2.2.2.1.lt; have z4 := F.out.2.2.2.2.1.lt
            go_wp2_with fail
            refine (SN.out _ _ _ _ _ X2.out X3.out).mono ?_
            rintro e w15 ⟨rfl, k⟩
            have K' := Lib.hid (K.out.trans k); have F' := Lib.hid (F.out.same k); clear K F p0 f0 z0 p1 f1 z1 p2 f2 z2 p3 f3 z3 p4 f4 z4 k; have K := K'; have F := F'; clear K' F'; obtain ⟨p0, f0, p1, f1, p2, f2, p3, f3, p4, f4, -⟩ := F.out.rules; have z0 := F.out.1.lt; have z1 := F.out.2.1.lt; have z2 := F.out.2.2.1.lt; have z3 := F.out.2.2.2.1.lt; have z4 := F.out.2.2.2.2.1.lt
            go_wp2_with fail
            refine (AW.out _ (TT.out.same K.out)).mono ?_
            rintro e w16 ⟨rfl, k⟩
            have K' := Lib.hid (K.out.trans k); have F' := Lib.hid (F.out.same k); clear K F p0 f0 z0 p1 f1 z1 p2 f2 z2 p3 f3 z3 p4 f4 z4 k; have K := K'; have F := F'; clear K' F'; obtain ⟨p0, f0, p1, f1, p2, f2, p3, f3, p4, f4, -⟩ := F.out.rules; have z0 := F.out.1.lt; have z1 := F.out.2.1.lt; have z2 := F.out.2.2.1.lt; have z3 := F.out.2.2.2.1.lt; have z4 := F.out.2.2.2.2.1.lt
            go_wp2_with fail
            go_ret
            exact ⟨rfl, K.out⟩
    · have KG := (Kept.refl (fun j => j = w3.heap.size) w5).setG 0 (.int .i64 s) |>.setG 1 (.slice (some ⟨ga, 0, none⟩) l ca)
      have X1 := Lib.hid (HO.out.nats.apart MM.out KG (map_none _ _ (by simp)))
      have hw35 := KN.out.size
      have hw03 := F.out.1.lt
      have F' := Lib.hid (show Fr ((w5.setCell ⟨w3.heap.size, 0, none⟩ (.int .i64 s)).setCell ⟨w3.heap.size, 1, none⟩ (.slice (some ⟨ga, 0, none⟩) l ca)) [(w3.heap.size, #[.int .i64 s, .slice (some ⟨ga, 0, none⟩) l ca], 27), (w.heap.size, #[.int .i64 s, .slice a l cap], 24)] from ⟨(MM.out.set 0 _).set 1 _, (F.out.same KN.out).kept KG (by simp; omega)⟩)
      have K' := Lib.hid ((K.out.trans KN.out).turn KG (by omega))
      clear F K KN HO QQ MLA MLB MM MA0 MA1 MAf p0 f0 z0 KG
      have F := F'; have K := K'; clear F' K'
      generalize hbx : w3.heap.size = bx at *
      have HBX := Lib.hid hbx
      clear hbx
      generalize (w5.setCell ⟨bx, 0, none⟩ (.int .i64 s)).setCell ⟨bx, 1, none⟩ (.slice (some ⟨ga, 0, none⟩) l ca) = w5' at *
      obtain ⟨p0, f0, p1, f1, -⟩ := F.out.rules; have z0 := F.out.1.lt; have z1 := F.out.2.1.lt
      go_wp2_with fail
      have hq1 := z0
      have hq2 := z1
      have HA1 := Lib.hid X1.out.home
      refine ((BS.out _ _ _ X1.out).mono ?_)
      rintro e w6 ⟨gb, cb, rfl, ob, k⟩
      have hgb := ob.lt
      (try (have X1' := Lib.hid (by first | exact X1.out.same k | exact X1.out.same ((Kept.refl _ _).drew.trans k)); clear X1; have X1 := X1'; clear X1'))
      (try (have X2' := Lib.hid (by first | exact X2.out.same k | exact X2.out.same ((Kept.refl _ _).drew.trans k)); clear X2; have X2 := X2'; clear X2'))
      (try (have X3' := Lib.hid (by first | exact X3.out.same k | exact X3.out.same ((Kept.refl _ _).drew.trans k)); clear X3; have X3 := X3'; clear X3'))
      have OB := Lib.hid ob
      clear ob
      have hw6 := k.size
      have K' := Lib.hid (K.out.trans k); have F' := Lib.hid (F.out.same k); clear K F p0 f0 z0 p1 f1 z1 k; have K := K'; have F := F'; clear K' F'; obtain ⟨p0, f0, p1, f1, -⟩ := F.out.rules; have z0 := F.out.1.lt; have z1 := F.out.2.1.lt
      go_wp2_with fail
      have F' := Lib.hid (show Fr (w6.alloc (.cells #[.int .i64 s, .slice (some ⟨gb, 0, none⟩) l cb] 27)) [(w6.heap.size, #[.int .i64 s, .slice (some ⟨gb, 0, none⟩) l cb], 27), (bx, #[.int .i64 s, .slice (some ⟨ga, 0, none⟩) l ca], 27), (w.heap.size, #[.int .i64 s, .slice a l cap], 24)] from ⟨Blk.new w6 _ _, F.out.same ((Kept.refl _ w6).alloc _)⟩)
      have K' := Lib.hid (K.out.alloc (.cells #[.int .i64 s, .slice (some ⟨gb, 0, none⟩) l cb] 27))
      have KA := (Kept.refl (fun _ => False) w6).alloc (.cells #[.int .i64 s, .slice (some ⟨gb, 0, none⟩) l cb] 27)
      (try (have X1' := Lib.hid (by first | exact X1.out.same KA | exact X1.out.same ((Kept.refl _ _).drew.trans KA)); clear X1; have X1 := X1'; clear X1'))
      (try (have X2' := Lib.hid (by first | exact X2.out.same KA | exact X2.out.same ((Kept.refl _ _).drew.trans KA)); clear X2; have X2 := X2'; clear X2'))
      (try (have X3' := Lib.hid (by first | exact X3.out.same KA | exact X3.out.same ((Kept.refl _ _).drew.trans KA)); clear X3; have X3 := X3'; clear X3'))
      have OB' := Lib.hid (OB.out.same KA)
      clear F K p0 f0 z0 p1 f1 z1 OB KA; have F := F'; have K := K'; have OB := OB'; clear F' K' OB'
      have hz7 : w6.heap.size < (w6.alloc (.cells #[.int .i64 s, .slice (some ⟨gb, 0, none⟩) l cb] 27)).heap.size := by rw [World.size_alloc]; omega
      generalize w6.alloc (.cells #[.int .i64 s, .slice (some ⟨gb, 0, none⟩) l cb] 27) = w7 at *
      have X3 := Lib.hid OB.out.nats
      have QQ : Hid (∀ w', Same w7 w' → ((∀ i, w'.cell? ⟨w6.heap.size, i, none⟩ = (#[Value.int .i64 s, .slice (some ⟨gb, 0, none⟩) l cb] : Array Value)[i]?) ∧ (∀ i, w'.cell? ⟨bx, i, none⟩ = (#[Value.int .i64 s, .slice (some ⟨ga, 0, none⟩) l ca] : Array Value)[i]?) ∧ (∀ i, w'.cell? ⟨w.heap.size, i, none⟩ = (#[Value.int .i64 s, .slice a l cap] : Array Value)[i]?))) := by
        intro w' k
        obtain ⟨r0, _, r1, _, r2, _⟩ := (F.out.same k).rules
        exact ⟨r0, r1, r2⟩
      have KN := Lib.hid (Kept.refl (fun _ => False) w7)
      go_wp2_with fail
      go_region_held3 (fun w' => ((∀ i, w'.cell? ⟨w6.heap.size, i, none⟩ = (#[Value.int .i64 s, .slice (some ⟨gb, 0, none⟩) l cb] : Array Value)[i]?) ∧ (∀ i, w'.cell? ⟨bx, i, none⟩ = (#[Value.int .i64 s, .slice (some ⟨ga, 0, none⟩) l ca] : Array Value)[i]?) ∧ (∀ i, w'.cell? ⟨w.heap.size, i, none⟩ = (#[Value.int .i64 s, .slice a l cap] : Array Value)[i]?)))
        (first | exact QQ.out _ KN.out | exact QQ.out _ KN.out.drew)
        (first
          | (go_at_call 13; refine (RS.out _ (AT.out.same (by first | exact K.out.trans KN.out | exact K.out.trans KN.out.drew))).mono ?_; rintro e w9 ⟨v2, c2, rfl, hat2, _, k⟩; (try (have X1' := Lib.hid (by first | exact X1.out.same k | exact X1.out.same ((Kept.refl _ _).drew.trans k)); clear X1; have X1 := X1'; clear X1')); (try (have X2' := Lib.hid (by first | exact X2.out.same k | exact X2.out.same ((Kept.refl _ _).drew.trans k)); clear X2; have X2 := X2'; clear X2')); (try (have X3' := Lib.hid (by first | exact X3.out.same k | exact X3.out.same ((Kept.refl _ _).drew.trans k)); clear X3; have X3 := X3'; clear X3')); have KN' := Lib.hid (Kept.trans (by first | exact KN.out | exact KN.out.drew) k); clear KN k; have KN := KN'; clear KN'; have X2 := Lib.hid hat2; clear hat2)
          | (go_at_call 12; (with_reducible refine (SB.out _ _ _ _ _ X3.out X2.out).mono ?_); rintro e w9 ⟨rfl, k⟩; (try (have X1' := Lib.hid (by first | exact X1.out.same k | exact X1.out.same ((Kept.refl _ _).drew.trans k)); clear X1; have X1 := X1'; clear X1')); (try (have X2' := Lib.hid (by first | exact X2.out.same k | exact X2.out.same ((Kept.refl _ _).drew.trans k)); clear X2; have X2 := X2'; clear X2')); (try (have X3' := Lib.hid (by first | exact X3.out.same k | exact X3.out.same ((Kept.refl _ _).drew.trans k)); clear X3; have X3 := X3'; clear X3')); have KN' := Lib.hid (Kept.trans (by first | exact KN.out | exact KN.out.drew) k); clear KN k; have KN := KN'; clear KN')
          | (go_at_call 12; (with_reducible refine (SA.out _ _ _ _ _ X1.out (AT.out.same (by first | exact K.out.trans KN.out | exact K.out.trans KN.out.drew))).mono ?_); rintro e w9 ⟨rfl, k⟩; clear X2; (try (have X1' := Lib.hid (by first | exact X1.out.same k | exact X1.out.same ((Kept.refl _ _).drew.trans k)); clear X1; have X1 := X1'; clear X1')); (try (have X2' := Lib.hid (by first | exact X2.out.same k | exact X2.out.same ((Kept.refl _ _).drew.trans k)); clear X2; have X2 := X2'; clear X2')); (try (have X3' := Lib.hid (by first | exact X3.out.same k | exact X3.out.same ((Kept.refl _ _).drew.trans k)); clear X3; have X3 := X3'; clear X3')); have KN' := Lib.hid (Kept.trans (by first | exact KN.out | exact KN.out.drew) k); clear KN k; have KN := KN'; clear KN')
          | (go_at_call 14; refine (BH.out _ _ _ X1.out).mono ?_; rintro e w9 ⟨rfl, k⟩; (try (have X1' := Lib.hid (by first | exact X1.out.same k | exact X1.out.same ((Kept.refl _ _).drew.trans k)); clear X1; have X1 := X1'; clear X1')); (try (have X2' := Lib.hid (by first | exact X2.out.same k | exact X2.out.same ((Kept.refl _ _).drew.trans k)); clear X2; have X2 := X2'; clear X2')); (try (have X3' := Lib.hid (by first | exact X3.out.same k | exact X3.out.same ((Kept.refl _ _).drew.trans k)); clear X3; have X3 := X3'; clear X3')); have KN' := Lib.hid (Kept.trans (by first | exact KN.out | exact KN.out.drew) k); clear KN k; have KN := KN'; clear KN')
          | (go_at_call 15; refine (RH.out _ (AT.out.same (by first | exact K.out.trans KN.out | exact K.out.trans KN.out.drew))).mono ?_; rintro e w9 ⟨rfl, k⟩; (try (have X1' := Lib.hid (by first | exact X1.out.same k | exact X1.out.same ((Kept.refl _ _).drew.trans k)); clear X1; have X1 := X1'; clear X1')); (try (have X2' := Lib.hid (by first | exact X2.out.same k | exact X2.out.same ((Kept.refl _ _).drew.trans k)); clear X2; have X2 := X2'; clear X2')); (try (have X3' := Lib.hid (by first | exact X3.out.same k | exact X3.out.same ((Kept.refl _ _).drew.trans k)); clear X3; have X3 := X3'; clear X3')); have KN' := Lib.hid (Kept.trans (by first | exact KN.out | exact KN.out.drew) k); clear KN k; have KN := KN'; clear KN')
          | (go_at_call 16; refine (BC.out _ _ _ X1.out).mono ?_; rintro e w9 ⟨rfl, k⟩; (try (have X1' := Lib.hid (by first | exact X1.out.same k | exact X1.out.same ((Kept.refl _ _).drew.trans k)); clear X1; have X1 := X1'; clear X1')); (try (have X2' := Lib.hid (by first | exact X2.out.same k | exact X2.out.same ((Kept.refl _ _).drew.trans k)); clear X2; have X2 := X2'; clear X2')); (try (have X3' := Lib.hid (by first | exact X3.out.same k | exact X3.out.same ((Kept.refl _ _).drew.trans k)); clear X3; have X3 := X3'; clear X3')); have KN' := Lib.hid (Kept.trans (by first | exact KN.out | exact KN.out.drew) k); clear KN k; have KN := KN'; clear KN')
          | (go_at_call 17; refine (RC.out _ (AT.out.same (by first | exact K.out.trans KN.out | exact K.out.trans KN.out.drew))).mono ?_; rintro e w9 ⟨rfl, k⟩; (try (have X1' := Lib.hid (by first | exact X1.out.same k | exact X1.out.same ((Kept.refl _ _).drew.trans k)); clear X1; have X1 := X1'; clear X1')); (try (have X2' := Lib.hid (by first | exact X2.out.same k | exact X2.out.same ((Kept.refl _ _).drew.trans k)); clear X2; have X2 := X2'; clear X2')); (try (have X3' := Lib.hid (by first | exact X3.out.same k | exact X3.out.same ((Kept.refl _ _).drew.trans k)); clear X3; have X3 := X3'; clear X3')); have KN' := Lib.hid (Kept.trans (by first | exact KN.out | exact KN.out.drew) k); clear KN k; have KN := KN'; clear KN'))
      all_goals
        have K' := Lib.hid (K.out.trans KN.out)
        have F' := Lib.hid (F.out.same KN.out)
        have OB' := Lib.hid (OB.out.same KN.out)
        clear K F OB KN QQ X3
        (try clear X2)
        have K := K'; have F := F'; have OB := OB'
        clear K' F' OB'
        go_wp2_with fail
        go_loopw [10] (fun si wr => ∃ (i : Nat) (us : List Nat), si = .int .i64 (i : Nat) ∧ i ≤ l ∧ Hid (us.length = l) ∧ Hid (OwnN wr w5'.heap.size 36 .u64 (.slice (some ⟨gb, 0, none⟩) l cb) us) ∧
            Hid (Fr wr [(w6.heap.size, #[.int .i64 s, .slice (some ⟨gb, 0, none⟩) l cb], 27), (bx, #[.int .i64 s, .slice (some ⟨ga, 0, none⟩) l ca], 27), (w.heap.size, #[.int .i64 s, .slice a l cap], 24)]) ∧ Hid (NatsAt wr .u64 (some ⟨ga, 0, none⟩) ws) ∧ Hid (Same w wr)) (fun si _ => l - (intOf si).toNat)
        case atStart => exact ⟨0, zs, rfl, Nat.zero_le _, ZL.out, OB.out, F.out, X1.out, K.out⟩
        case round =>
          clear F K OB X1
          obtain ⟨i, us, rfl, hi, UL, OB, F, X1, K⟩ := hrel
          obtain ⟨p0, f0, p1, f1, p2, f2, -⟩ := F.out.rules; have z0 := F.out.1.lt; have z1 := F.out.2.1.lt; have z2 := F.out.2.2.1.lt
          by_cases hlt : i < l
          · have hlt' : (i : Int) < (l : Int) := by omega
            have hui : i < us.length := by rw [UL.out]; exact hlt
            have c1 : wr.cell? ⟨gb, i, none⟩ = some (.int .u64 ((us[i] : Nat) : Int)) := OB.out.cell UL.out (List.getElem?_eq_getElem hui)
            have c2 : ∀ j, wr.frozen? ⟨gb, j, none⟩ = false := OB.out.free UL.out
            obtain ⟨x, hx⟩ : ∃ x, us[i] = x := ⟨_, rfl⟩
            rw [hx] at c1
            obtain ⟨y, hy⟩ : ∃ y : Nat, IntKind.u64.wrap ((x : Int) + 1) = ((y : Nat) : Int) := ⟨((x + 1) % 18446744073709551616), by rw [IntKind.wrap_u64]; omega⟩
            clear hx hui
            go_wp2_with fail
            go_roundw
            case rel =>
              have KG := (Kept.refl (fun j => j = gb) wr).setG i (.int .u64 ((y : Nat) : Int))
              exact ⟨i + 1, us.set i y, by go_num, by omega, by show (us.set i y).length = l; rw [List.length_set]; exact UL.out, OB.out.set UL.out i y, F.out.kept KG (by simp; omega), X1.out.kept' KG (HA1.out.imp id fun h z hz => by have := h z hz; omega), K.out.turn KG (by omega)⟩
            case measure => simp [intOf]; omega
          · clear OB UL
            go_wp2_with fail
            refine (N1.out _).mono ?_
            rintro e w10 ⟨vx, cx, rfl, hvx, k⟩
            have X2 := Lib.hid hvx
            clear hvx
            have X1' := Lib.hid (X1.out.same k); clear X1; have X1 := X1'; clear X1'
            have K' := Lib.hid (K.out.trans k); have F' := Lib.hid (F.out.same k); clear K F p0 f0 z0 p1 f1 z1 p2 f2 z2 k; have K := K'; have F := F'; clear K' F'; obtain ⟨p0, f0, p1, f1, p2, f2, -⟩ := F.out.rules; have z0 := F.out.1.lt; have z1 := F.out.2.1.lt; have z2 := F.out.2.2.1.lt
            go_wp2_with fail
            have F' := Lib.hid (show Fr (w10.alloc (.cells #[.int .i64 ns, .slice vx nl cx] 27)) [(w10.heap.size, #[.int .i64 ns, .slice vx nl cx], 27), (w6.heap.size, #[.int .i64 s, .slice (some ⟨gb, 0, none⟩) l cb], 27), (bx, #[.int .i64 s, .slice (some ⟨ga, 0, none⟩) l ca], 27), (w.heap.size, #[.int .i64 s, .slice a l cap], 24)] from ⟨Blk.new w10 _ _, F.out.same ((Kept.refl _ w10).alloc _)⟩)
            have K' := Lib.hid (K.out.alloc (.cells #[.int .i64 ns, .slice vx nl cx] 27))
            have KA := (Kept.refl (fun _ => False) w10).alloc (.cells #[.int .i64 ns, .slice vx nl cx] 27)
            have X1' := Lib.hid (X1.out.same KA); clear X1; have X1 := X1'; clear X1'
            have X2' := Lib.hid (X2.out.same KA); clear X2; have X2 := X2'; clear X2'
            clear F K p0 f0 z0 p1 f1 z1 p2 f2 z2 KA
            have F := F'; have K := K'
            clear F' K'
            generalize w10.alloc (.cells #[.int .i64 ns, .slice vx nl cx] 27) = w11 at *
            obtain ⟨p0, f0, p1, f1, p2, f2, p3, f3, -⟩ := F.out.rules; have z0 := F.out.1.lt; have z1 := F.out.2.1.lt; have z2 := F.out.2.2.1.lt; have z3 := F.out.2.2.2.1.lt
            refine (N2.out _).mono ?_
            rintro e w12 ⟨vy, cy, rfl, hvy, k⟩
            have X3 := Lib.hid hvy
            clear hvy
            have X1' := Lib.hid (X1.out.same k); clear X1; have X1 := X1'; clear X1'
            have X2' := Lib.hid (X2.out.same k); clear X2; have X2 := X2'; clear X2'
            have K' := Lib.hid (K.out.trans k); have F' := Lib.hid (F.out.same k); clear K F p0 f0 z0 p1 f1 z1 p2 f2 z2 p3 f3 z3 k; have K := K'; have F := F'; clear K' F'; obtain ⟨p0, f0, p1, f1, p2, f2, p3, f3, -⟩ := F.out.rules; have z0 := F.out.1.lt; have z1 := F.out.2.1.lt; have z2 := F.out.2.2.1.lt; have z3 := F.out.2.2.2.1.lt
            go_wp2_with fail
            have F' := Lib.hid (show Fr (w12.alloc (.cells #[.int .i64 ns, .slice vy nl cy] 24)) [(w12.heap.size, #[.int .i64 ns, .slice vy nl cy], 24), (w10.heap.size, #[.int .i64 ns, .slice vx nl cx], 27), (w6.heap.size, #[.int .i64 s, .slice (some ⟨gb, 0, none⟩) l cb], 27), (bx, #[.int .i64 s, .slice (some ⟨ga, 0, none⟩) l ca], 27), (w.heap.size, #[.int .i64 s, .slice a l cap], 24)] from ⟨Blk.new w12 _ _, F.out.same ((Kept.refl _ w12).alloc _)⟩)
            have K' := Lib.hid (K.out.alloc (.cells #[.int .i64 ns, .slice vy nl cy] 24))
            have KA := (Kept.refl (fun _ => False) w12).alloc (.cells #[.int .i64 ns, .slice vy nl cy] 24)
            have X1' := Lib.hid (X1.out.same KA); clear X1; have X1 := X1'; clear X1'
            have X2' := Lib.hid (X2.out.same KA); clear X2; have X2 := X2'; clear X2'
            have X3' := Lib.hid (X3.out.same KA); clear X3; have X3 := X3'; clear X3'
            clear F K p0 f0 z0 p1 f1 z1 p2 f2 z2 p3 f3 z3 KA
            have F := F'; have K := K'
            clear F' K'
            generalize w12.alloc (.cells #[.int .i64 ns, .slice vy nl cy] 24) = w13 at *
            obtain ⟨p0, f0, p1, f1, p2, f2, p3, f3, p4, f4, -⟩ := F.out.rules; have z0 := F.out.1.lt; have z1 := F.out.2.1.lt; have z2 := F.out.2.2.1.lt; have z3 := F.out.2.2.2.1.lt; have z4 := F.out.2.2.2.2.1.lt
            go_wp2_with fail
            refine (SA.out _ _ _ _ _ X1.out (AT.out.same K.out)).mono ?_
            rintro e w14 ⟨rfl, k⟩
            have X2' := Lib.hid (X2.out.same k); clear X2; have X2 := X2'; clear X2'
            have X3' := Lib.hid (X3.out.same k); clear X3; have X3 := X3'; clear X3'
            have K' := Lib.hid (K.out.trans k); have F' := Lib.hid (F.out.same k); clear K F p0 f0 z0 p1 f1 z1 p2 f2 z2 p3 f3 z3 p4 f4 z4 k; have K := K'; have F := F'; clear K' F'; obtain ⟨p0, f0, p1, f1, p2, f2, p3, f3, p4, f4, -⟩ := F.out.rules; have z0 := F.out.1.lt; have z1 := F.out.2.1.lt; have z2 := F.out.2.2.1.lt; have z3 := F.out.2.2.2.1.lt; have z4 := F.out.2.2.2.2.1.lt
            go_wp2_with fail
            refine (SN.out _ _ _ _ _ X2.out X3.out).mono ?_
            rintro e w15 ⟨rfl, k⟩
            have K' := Lib.hid (K.out.trans k); have F' := Lib.hid (F.out.same k); clear K F p0 f0 z0 p1 f1 z1 p2 f2 z2 p3 f3 z3 p4 f4 z4 k; have K := K'; have F := F'; clear K' F'; obtain ⟨p0, f0, p1, f1, p2, f2, p3, f3, p4, f4, -⟩ := F.out.rules; have z0 := F.out.1.lt; have z1 := F.out.2.1.lt; have z2 := F.out.2.2.1.lt; have z3 := F.out.2.2.2.1.lt; have z4 := F.out.2.2.2.2.1.lt
            go_wp2_with fail
            refine (AW.out _ (TT.out.same K.out)).mono ?_
            rintro e w16 ⟨rfl, k⟩
            have K' := Lib.hid (K.out.trans k); have F' := Lib.hid (F.out.same k); clear K F p0 f0 z0 p1 f1 z1 p2 f2 z2 p3 f3 z3 p4 f4 z4 k; have K := K'; have F := F'; clear K' F'; obtain ⟨p0, f0, p1, f1, p2, f2, p3, f3, p4, f4, -⟩ := F.out.rules; have z0 := F.out.1.lt; have z1 := F.out.2.1.lt; have z2 := F.out.2.2.1.lt; have z3 := F.out.2.2.2.1.lt; have z4 := F.out.2.2.2.2.1.lt
            go_wp2_with fail
            go_ret
            exact ⟨rfl, K.out⟩
  · rw [decide_eq_false h8] at LI
    have AT := Lib.hid hat; have TT := Lib.hid hT
    clear hat hT h8
    generalize ws.length = l at *
    go_enter Tryd.func3, Tryd.ntmps3
    go_wp2_with fail
    refine Calls.fr1 ?_; intro W F' K' hz'; have F := Lib.hid F'; have K := Lib.hid K'; have hz := Lib.hid hz'; clear F' K' hz'; obtain ⟨p0, f0, -⟩ := F.out.rules; have z0 := F.out.1.lt
    refine (LI.out _).mono ?_
    rintro e w2 ⟨rfl, k⟩
    have K' := Lib.hid (K.out.trans k); have F' := Lib.hid (F.out.same k); clear K F p0 f0 z0 k; have K := K'; have F := F'; clear K' F'; obtain ⟨p0, f0, -⟩ := F.out.rules; have z0 := F.out.1.lt
    go_wp2_with fail
    refine (AW.out _ (TT.out.same K.out)).mono ?_
    rintro e w3 ⟨rfl, k⟩
    have K' := Lib.hid (K.out.trans k); have F' := Lib.hid (F.out.same k); clear K F p0 f0 z0 k; have K := K'; have F := F'; clear K' F'; obtain ⟨p0, f0, -⟩ := F.out.rules; have z0 := F.out.1.lt
    go_wp2_with fail
    go_ret
    exact ⟨rfl, K.out⟩

end Go.Proofs.YtmolmamfmboeoaaDoor
