/- As many texts are taken as there is room for: in plain words. -/
import Derived.Test.YtlmpkonfclnceaaGreatAw10
namespace Go.Proofs.YtlmpkonfclnceaaGreat

/-- What is taken, when a text more is offered. -/
def tk (n : Nat) (t : List (List Nat)) (s : List Nat) : List (List Nat) := if prt (t ++ [s]) ≤ n then t ++ [s] else t
def tks (n : Nat) (l : List (List Nat)) : List (List Nat) := l.foldl (tk n) []
theorem tks_snoc (n : Nat) (l : List (List Nat)) (s : List Nat) : tks n (l ++ [s]) = tk n (tks n l) s := by
  unfold tks
  rw [List.foldl_append]
  rfl
def roomL (n : Nat) (t : List (List Nat)) : Lg := ⟨0, n, 5, 0, [], t, false, false⟩
theorem roomL_new (n : Nat) : newL 0 (n : Nat) 5 = roomL n [] := by
  unfold newL roomL
  rfl
theorem roomL_add (n : Nat) (t : List (List Nat)) (s : List Nat) (hs : s.length ≤ 238) : addE (roomL n t) s = (if prt (t ++ [s]) ≤ n then 0 else 7) ∧ addL (roomL n t) s = roomL n (tk n t s) := by
  have e1 : addE (roomL n t) s = (if prt (t ++ [s]) ≤ n then 0 else 7) := by
    unfold addE
    rw [if_neg (by simp [aliveE, roomL]), if_neg (by omega)]
    show (if n - 0 < prt (t ++ [s]) then 7 else 0) = _
    by_cases h : prt (t ++ [s]) ≤ n
    · rw [if_pos h, if_neg (by omega)]
    · rw [if_neg h, if_pos (by omega)]
  refine ⟨e1, ?_⟩
  unfold addL tk
  rw [e1]
  by_cases h : prt (t ++ [s]) ≤ n
  · rw [if_pos h, if_pos h, if_pos rfl]; rfl
  · rw [if_neg h, if_neg h, if_neg (by decide)]
theorem prt_tk {n : Nat} {t : List (List Nat)} (h : prt t ≤ n) (s : List Nat) : prt (tk n t s) ≤ n := by
  unfold tk
  split
  · assumption
  · exact h
theorem tks_le (n : Nat) (l : List (List Nat)) : prt (tks n l) ≤ n ∧ (tks n l).length ≤ l.length ∧ ∀ s ∈ tks n l, s ∈ l := by
  suffices h : ∀ (l t m : List (List Nat)), prt t ≤ n → t.length ≤ m.length → (∀ s ∈ t, s ∈ m) → prt (l.foldl (tk n) t) ≤ n ∧ (l.foldl (tk n) t).length ≤ (m ++ l).length ∧ ∀ s ∈ l.foldl (tk n) t, s ∈ m ++ l from by
    have := h l [] [] (by rw [prt_nil]; exact Nat.zero_le _) (Nat.le_refl _) (fun s hs => hs)
    simpa [tks] using this
  intro l
  induction l with
  | nil => intro t m h1 h2 h3; exact ⟨h1, by simpa using h2, by simpa using h3⟩
  | cons s l ih =>
    intro t m h1 h2 h3
    have := ih (tk n t s) (m ++ [s]) (prt_tk h1 s) (by unfold tk; split <;> simp <;> omega) (by
      intro x hx
      unfold tk at hx
      split at hx
      · rcases List.mem_append.1 hx with hx | hx
        · exact List.mem_append_left _ (h3 x hx)
        · exact List.mem_append_right _ hx
      · exact List.mem_append_left _ (h3 x hx))
    simpa using this
theorem wrW_live (cs : List (List Nat)) : ∀ {D : Dsk} (_ : Live D) (F : Nat) (_ : ∀ c ∈ cs, c.length = 256) (_ : F + cs.length ≤ D.s.length), (wrW D F cs).2 = 0 ∧ Live (wrW D F cs).1 := by
  induction cs with
  | nil => intro D h F _ _; exact ⟨rfl, h⟩
  | cons c cs ih =>
    intro D h F hc hF
    have hw := write_live h (n := F) (by simp at hF; omega) (hc c (by simp))
    have hL : Live (writeD D (F : Nat) c).1 := by rw [hw]; exact ⟨rfl, rfl⟩
    have hs : (writeD D (F : Nat) c).1.s.length = D.s.length := writeD_l _ _ _
    have h0 : (writeD D (F : Nat) c).2 = 0 := by rw [hw]
    simp only [wrW]
    rw [if_pos h0]
    exact ih hL (F + 1) (fun x hx => hc x (by simp [hx])) (by rw [hs]; simp at hF; omega)
theorem wrSync_live {cs : List (List Nat)} {D : Dsk} (h : Live D) (F : Nat) (hc : ∀ c ∈ cs, c.length = 256) (hF : F + cs.length ≤ D.s.length) : (wrSync D F cs).2 = 0 := by
  obtain ⟨h1, h2⟩ := wrW_live cs h F hc hF
  unfold wrSync
  rw [if_pos h1, sync_live h2]
theorem packL_256 {e : Nat} {G : List (List (List Nat))} (h : ∀ g ∈ G, (bdy g).length ≤ 239) : ∀ (f : Nat) (x : List Nat), x ∈ packL e f G → x.length = 256 := by
  induction G with
  | nil => intro f x hx; cases hx
  | cons g G ih =>
    intro f x hx
    rcases List.mem_cons.1 hx with rfl | hx
    · exact layS_len _ _ (h g (by simp))
    · exact ih (fun y hy => h y (by simp [hy])) (f + 1) x hx
/-- Behind a Sync. -/
theorem roomL_sync {n : Nat} {t : List (List Nat)} {D : Dsk} (hD : Live D) (hn : n ≤ D.s.length) (hp : prt t ≤ n) (hs : ∀ s ∈ t, s.length ≤ 238) (hb : TBts t) :
    (syncL (roomL n t) D).2.2 = 0 ∧ (syncL (roomL n t) D).1 = ⟨0, n, 5, prt t, t, [], false, false⟩ := by
  unfold syncL
  rw [if_neg (by simp [aliveE, roomL])]
  by_cases h1 : t = []
  · subst h1
    rw [if_pos (show (roomL n []).wait = [] from rfl)]
    exact ⟨rfl, rfl⟩
  · rw [if_neg (show ¬ (roomL n t).wait = [] from h1)]
    have hw : (wrSync D ((roomL n t).first + (roomL n t).at_) (packS (roomL n t).epoch (roomL n t).at_ (roomL n t).wait)).2 = 0 := by
      refine wrSync_live hD _ (fun c hc => ?_) ?_
      · exact packL_256 (fun g hg => (gs_ok hs hb g hg).2) _ c hc
      · rw [packS_len]
        show 0 + 0 + prt t ≤ _
        omega
    rw [if_pos hw]
    refine ⟨rfl, ?_⟩
    show (⟨0, n, 5, 0 + prt t, [] ++ t, [], false, false⟩ : Lg) = _
    rw [Nat.zero_add, List.nil_append]
theorem newD_live (n : Int) : Live (newD n) := ⟨rfl, rfl⟩
end Go.Proofs.YtlmpkonfclnceaaGreat
