/- A map's pairs, by their keys. -/
import Derived.Test.YtaeiajodbpgbbaaHv3
import Derived.Test.YtaeiajodbpgbbaaShelf
namespace Go.Proofs.Ytaeiajodbpgbbaa
open Go.RowKit Go.Maps Go.Sort Go.Shelf

theorem sorts_s (m : Nat) : AnyZ.SortsIn Try.prog Try.sortedA_ren Fence.wide m :=
  ⟨fun blk off cap ss W hH hblk hsz => callsIn_wide.2 (AnyM.slices_Sort_string Try.sortA blk off cap ss W hH hblk hsz),
   fun p cap W => callsIn_wide.2 (AnyM.slices_Sort_string_none Try.sortA p cap W)⟩
/-- Texts, one cell each. -/
def stE : Enc (List UInt8) := ⟨1, fun x => [encStr x], fun _ => rfl, by decide, fun e v hv => by simp at hv; rw [hv]; rfl⟩
theorem stE_all (l : List (List UInt8)) : stE.all l = l.map encStr := by
  induction l with
  | nil => rfl
  | cons x l ih => rw [Enc.all_cons, ih]; rfl
/-- A map's pairs, by rising keys. -/
structure PrsOf (g : SMap) (L : List HPr) : Prop where
  srt : L.Pairwise fun p q => p.1 < q.1
  mem : ∀ k v, (k, v) ∈ L ↔ g k = some v
theorem PrsOf.one {g : SMap} {L M : List HPr} (h : PrsOf g L) (h' : PrsOf g M) : L = M := by
  refine List.Perm.eq_of_pairwise (le := fun p q : HPr => p.1 < q.1) (fun p q _ _ h1 h2 => absurd (List.lt_trans h1 h2) (List.lt_irrefl _)) h.srt h'.srt ?_
  have nd : ∀ {g : SMap} {L : List HPr}, PrsOf g L → L.Nodup := fun h => h.srt.imp (fun {p q} hpq e => by subst e; exact List.lt_irrefl _ hpq)
  refine (List.perm_ext_iff_of_nodup (nd h) (nd h')).2 fun x => ?_
  obtain ⟨k, v⟩ := x
  rw [h.mem, h'.mem]
theorem srt_keys {ks : List (List UInt8)} (h : ks.Nodup) : (ks.mergeSort leB).Pairwise (· < ·) := by
  have tr : ∀ a b c : List UInt8, leB a b = true → leB b c = true → leB a c = true := fun a b c h1 h2 => by simp only [leB, decide_eq_true_eq] at *; exact List.le_trans h1 h2
  have to : ∀ a b : List UInt8, (leB a b || leB b a) = true := fun a b => by simp only [leB, Bool.or_eq_true, decide_eq_true_eq]; exact List.le_total a b
  have h1 := List.pairwise_mergeSort tr to ks
  have h2 : (ks.mergeSort leB).Nodup := (List.mergeSort_perm ks leB).nodup_iff.2 h
  refine (h1.and h2).imp (fun {a b} q => ?_)
  obtain ⟨q1, q2⟩ := q
  simp only [leB, decide_eq_true_eq] at q1
  rcases Classical.em (a < b) with z | z
  · exact z
  · exact absurd (List.le_antisymm q1 z) q2
/-- The pairs at sorted keys. -/
def prsAt (g : SMap) (ks : List (List UInt8)) : List HPr := ks.map fun k => (k, (g k).getD [])
theorem prsAt_of {g : SMap} {ks : List (List UInt8)} (hs : ks.Pairwise (· < ·)) (hm : ∀ k, k ∈ ks ↔ (g k).isSome = true) : PrsOf g (prsAt g ks) := by
  refine ⟨List.pairwise_map.2 hs, fun k v => ?_⟩
  unfold prsAt
  rw [List.mem_map]
  constructor
  · rintro ⟨k', hk, e⟩
    injection e with e1 e2
    subst e1
    obtain ⟨u, hu⟩ := Option.isSome_iff_exists.1 ((hm _).1 hk)
    rw [hu] at e2 ⊢
    simpa using e2
  · intro h
    exact ⟨k, (hm k).2 (by rw [h]; rfl), by rw [h]; rfl⟩
theorem prInfo : (Try.prog.info? 46).map (fun i => (i.zero, i.size, i.bytes)) = some (some (.agg #[.string ByteArray.empty, .string ByteArray.empty]), 2, 32) := by kernel_rfl
theorem pr_push {w : World} {base : Nat} {v : Value} {xs : List HPr} (h : OwnE prE w base 46 v xs) (hb : base ≤ w.heap.size) (hl : xs.length ≤ 100000) (x : HPr) :
    ∃ v' w', (Builtin.append_ #[32, 32] 32 #[v, .slice (some ⟨w.heap.size, 0, none⟩) 1 1]).run Try.prog (w.alloc (.cells #[encStr x.1, encStr x.2] 46)) = .ok v' w' ∧ OwnE prE w' base 46 v' (xs ++ [x]) ∧ Kept (fun j => base ≤ j) w w' :=
  el_push prE _ _ Try.underlying32 prInfo rfl (by decide) h hb hl x _ rfl
theorem zero_str (w : World) : (zeroValue 9).run Try.prog w = .ok (.string ByteArray.empty) w := Try.zeroValue9 w
/-- What pairs tells. -/
def PrsPost (w : World) (g : SMap) (e : Ending) (w' : World) : Prop := (∃ v L, e = .returned v ∧ PrsOf g L ∧ L.length ≤ 1000 ∧ OwnE prE w' w.heap.size 46 v L) ∧ Same w w'
section
attribute [local go_sem ↓] exec_app semAt_app
attribute [local go_sem] isApp_lit appA appX
set_option maxRecDepth 100000 in
set_option maxHeartbeats 800000 in
theorem hv_pairs (m : Nat) (g : SMap) (w : World) (hm : MapT w m g) (ks : List (List UInt8)) (hks : ∀ k, (g k).isSome = true → k ∈ ks) (hkl : ks.length ≤ 1000) (hkb : ∀ k, (g k).isSome = true → k.length ≤ maxLen) :
    Calls Try.prog 18 #[.map (some m)] w (PrsPost w g) := by
  have hsome : ∀ k, ((g k).map encStr).isSome = (g k).isSome := fun k => by simp
  obtain ⟨D0, hown, hnd, hmem⟩ := MapK.ownsS (P := Try.prog) hm Try.underlying9 ks (by unfold maxLen; omega) (fun k hk => hks k (by rw [← hsome]; exact hk)) (fun k hk => hkb k (by rw [← hsome]; exact hk))
  have hbl := hm.lt
  have hsz : Maps.size D0 ≤ ks.length := by
    obtain ⟨es, clock, hb, F, hs, rfl⟩ := hown
    simp only [Maps.size, length_sorted]
    simpa using hs
  have hseq : SeqGives Fence.wide 2 Try.prog 42 #[.pointer (some ⟨w.heap.size, 0, none⟩)] encStr (fun ss => ss.Perm (strKeys D0)) (Maps.size D0) (w.alloc (.cells #[.map (some m)] 48)) :=
    AnyZ.keys_gives (ρ := Try.keysA_ren) { Try.keysA with } Fence.wide _ trivial rfl (by omega) w.heap.size m ks.length D0 _ (by simp) (by simp) (by
      obtain ⟨es, clock, hb, Ft, hs, hD⟩ := hown
      exact ⟨es, clock, (Below.heap_alloc _ _ m hbl).trans hb, Ft, hs, hD⟩)
  have cK : ∀ mb W, CallsIn Fence.wide 5 Try.prog 28 #[.map mb] W fun e w' => e = .returned (.func (.func 42) #[] #[.pointer (some ⟨W.heap.size, 0, none⟩)]) ∧ w' = W.alloc (.cells #[.map mb] 48) := fun mb W => AnyZ.keys_in Try.keysA Fence.wide 5 trivial rfl mb W
  have cS := AnyZ.sorted_in Try.sortedA Fence.wide 5 trivial trivial trivial trivial rfl (by omega) (sorts_s _) (enters_of Try.func41 (by kernel_rfl) rfl) 42 #[.pointer (some ⟨w.heap.size, 0, none⟩)] trivial (enters_of Try.func42 (by kernel_rfl) rfl) _ _ (Nat.le_trans hsz (by unfold maxLen; omega)) (by omega) _ hseq
  change CallsIn _ _ Try.prog 27 _ _ _ at cS
  have CK := Lib.hid (callsIn_wide.1 (cK (some m) w))
  have CS := Lib.hid (callsIn_wide.1 cS)
  have HM := Lib.hid hm
  have HP := Lib.hid (show ∀ ss : List (List UInt8), ss.Perm (strKeys D0) → (ss.mergeSort leB).Pairwise (· < ·) ∧ (∀ k, k ∈ ss.mergeSort leB ↔ (g k).isSome = true) ∧ ss.length ≤ 1000 from fun ss hp => by
    have nd : ss.Nodup := hp.nodup_iff.2 hnd
    refine ⟨srt_keys nd, fun k => ?_, ?_⟩
    · rw [List.mem_mergeSort, hp.mem_iff, hmem, hsome]
    · have := nodup_len ss ks nd (fun x hx => hks x (by rw [← hsome, ← hmem]; exact hp.mem_iff.1 hx))
      omega)
  clear hm hown hnd hmem hsz hseq cK cS hks hkb hsome
  go_enter Try.func18, Try.ntmps18
  go_wp2_with fail
  with_reducible refine CK.out.mono ?_
  rintro e w1 ⟨rfl, rfl⟩
  go_wp2_with fail
  with_reducible refine CS.out.mono ?_
  rintro e w2 ⟨v, ss, rfl, hS, hrow, -, hb⟩
  obtain ⟨h1, h2, h3⟩ := HP.out ss hS
  obtain ⟨ss', hss⟩ : ∃ ss', ss.mergeSort leB = ss' := ⟨_, rfl⟩
  have hl' : ss'.length = ss.length := by rw [← hss, List.length_mergeSort]
  have hown : OwnE stE w2 w.heap.size 9 v ss' := by
    unfold OwnE
    rw [stE_all, hl', ← hss]
    exact ownsRow_base hrow (by simp)
  rw [hss] at h1 h2
  have K2 := Lib.hid (((Kept.refl (fun _ => False) w).alloc (.cells #[.map (some m)] 48)).trans (Kept.of_below hb))
  obtain ⟨a2, n, c2, rfl, hn, -, hat, -⟩ := hown.rd
  have PO := Lib.hid (prsAt_of h1 h2)
  have HN := Lib.hid (show n = ss'.length from hn.out)
  have HM2 := Lib.hid (HM.out.same K2.out)
  have hn1000 : n ≤ 1000 := by have := hn.out; omega
  have HAT := hat
  clear hrow hb hown hat hn hss h1 h2 h3 hl' HP CK CS HM hS
  go_wp2_with fail
  go_loopw [3, 10] (fun v t wr => ∃ (i : Nat), t = .int .i64 i ∧ i ≤ n ∧ OwnE prE wr w2.heap.size 46 v (prsAt g (ss'.take i)) ∧ Same w2 wr) (fun _ t _ => n - (intOf t).toNat)
  case atStart => exact ⟨0, rfl, by omega, OwnE.nil _ _ _, Kept.refl _ _⟩
  case round =>
    obtain ⟨i, rfl, hi, hg, hk⟩ := hrel
    have K := Lib.hid hk; have HG := Lib.hid hg
    clear hk hg
    by_cases hgo : i < n
    · have hil : i < ss'.length := by have := HN.out; omega
      obtain ⟨b, off, rfl, hbl2⟩ := HAT.out.there (fun e => by rw [e] at hil; simp at hil)
      obtain ⟨x, hx⟩ : ∃ x, ss'[i] = x := ⟨_, rfl⟩
      have c0 : wr.cell? ⟨b, off + i, none⟩ = some (encStr x) := by
        have := (HAT.out.same K.out).get (x := x) (by rw [← hx]; exact List.getElem?_eq_getElem hil) 0 (u := encStr x) rfl
        rw [show i * stE.n + 0 = i by show i * 1 + 0 = i; omega] at this
        exact this
      have TK := Lib.hid (show prsAt g (ss'.take (i + 1)) = prsAt g (ss'.take i) ++ [(x, (g x).getD [])] by unfold prsAt; rw [← List.take_append_getElem hil, List.map_append, hx]; rfl)
      have g1 : (i : Int) < (n : Int) := by omega
      have g0 : (0 : Int) ≤ (i : Int) := by omega
      have hlk := MapK.look (P := Try.prog) (HM2.out.same K.out) Try.underlying48 Try.underlying9 x (zero_str wr) false
      have hv : (((g x).map encStr).getD (.string ByteArray.empty)) = encStr ((g x).getD []) := by cases g x <;> rfl
      rw [if_neg (by decide), hv] at hlk
      obtain ⟨v', w', hrun, ho, k5⟩ := pr_push HG.out K.out.size (by simp [prsAt]; omega) (x, (g x).getD [])
      have K5 := Lib.hid (K.out.step k5 (fun j hj q => by omega))
      have HO := Lib.hid ho
      obtain ⟨aok, aV, aW⟩ := app_of hrun
      clear hrun ho k5 hx
      generalize (g x).getD [] = y at *
      go_wp2_with fail
      exact ⟨⟨i + 1, by go_num, by omega, by rw [TK.out]; exact HO.out, K5.out⟩, by simp [intOf]; omega⟩
    · have hin : i = n := by omega
      have g1 : ¬ (i : Int) < (n : Int) := by omega
      have e1 : ss'.take i = ss' := List.take_of_length_le (by have := HN.out; omega)
      rw [e1] at HG
      go_wp2_with fail
      go_ret
      exact ⟨⟨_, _, rfl, PO.out, by have := HN.out; unfold prsAt; rw [List.length_map]; omega, HG.out.rebase K2.out.size⟩, K2.out.trans K.out⟩
end
end Go.Proofs.Ytaeiajodbpgbbaa
