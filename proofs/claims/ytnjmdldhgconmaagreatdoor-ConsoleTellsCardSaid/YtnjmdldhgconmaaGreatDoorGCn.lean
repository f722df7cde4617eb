/- GCn: Cn0, Cn1, Cn2, Cn3, Cn4. -/
import Derived.WalkKit
import Derived.Lib.Split
import Derived.Lib.Join
import Derived.Lib.Strings
import Derived.Lib.Bytealg
namespace Go.Proofs.YtnjmdldhgconmaaGreatDoor

abbrev Tx := List UInt8
/-- A byte that stands as it is. -/
def okC (c : UInt8) : Bool := decide (33 ≤ c.toNat) && decide (c.toNat ≤ 126)
/-- Does a text begin with x:? -/
def preX : Tx → Bool
  | c :: d :: _ => c == 120 && d == 58
  | _ => false
def plainT (s : Tx) : Bool := s.all okC && !(s == []) && !(s.head? == some 45) && !(preX s)
def hexD (n : Nat) : UInt8 := if n < 10 then UInt8.ofNat (48 + n) else UInt8.ofNat (87 + n)
def hexT (s : Tx) : Tx := s.flatMap fun c => [hexD (c.toNat / 16), hexD (c.toNat % 16)]
/-- A text's word. -/
def wordT (s : Tx) : Tx := if s = [] then [45] else if plainT s = true then s else 120 :: 58 :: hexT s
def halfN (c : UInt8) : Nat := if 48 ≤ c.toNat ∧ c.toNat ≤ 57 then c.toNat - 48 else if 97 ≤ c.toNat ∧ c.toNat ≤ 102 then c.toNat - 87 else 16
def unhexT : Tx → Option Tx
  | [] => some []
  | [_] => none
  | a :: b :: r => if halfN a ≤ 15 ∧ halfN b ≤ 15 then (unhexT r).map (UInt8.ofNat (16 * halfN a + halfN b) :: ·) else none
/-- A word's text. -/
def unwordT (w : Tx) : Option Tx :=
  if w = [45] then some [] else if preX w = true then (match unhexT (w.drop 2) with | some s => if s ≠ [] ∧ wordT s = w then some s else none | none => none) else if plainT w = true then some w else none
theorem hexT_len (s : Tx) : (hexT s).length = 2 * s.length := by
  induction s with
  | nil => rfl
  | cons c s ih =>
    have e : hexT (c :: s) = hexD (c.toNat / 16) :: hexD (c.toNat % 16) :: hexT s := rfl
    rw [e, List.length_cons, List.length_cons, ih, List.length_cons]
    omega
theorem plain_facts {s : Tx} (h : plainT s = true) : s.all okC = true ∧ s ≠ [] ∧ s.head? ≠ some 45 ∧ preX s = false := by
  unfold plainT at h
  simp only [Bool.and_eq_true, Bool.not_eq_true', beq_eq_false_iff_ne] at h
  exact ⟨h.1.1.1, h.1.1.2, h.1.2, h.2⟩
theorem word_len (s : Tx) : (wordT s).length ≤ 2 * s.length + 2 := by
  unfold wordT
  split
  · rename_i h; subst h; simp
  · split
    · omega
    · simp only [List.length_cons, hexT_len]; omega
theorem word_hex {s : Tx} (h0 : s ≠ []) (h : plainT s = false) : wordT s = 120 :: 58 :: hexT s := by
  unfold wordT
  rw [if_neg h0, if_neg (by rw [h]; decide)]
theorem word_plain {s : Tx} (h : plainT s = true) : wordT s = s := by
  unfold wordT
  rw [if_neg (plain_facts h).2.1, if_pos h]
theorem half_hex {n : Nat} (h : n < 16) : halfN (hexD n) = n := by
  have : ∀ n, n < 16 → halfN (hexD n) = n := by decide
  exact this n h
theorem unhex_hex (s : Tx) : unhexT (hexT s) = some s := by
  induction s with
  | nil => rfl
  | cons c s ih =>
    have e : hexT (c :: s) = hexD (c.toNat / 16) :: hexD (c.toNat % 16) :: hexT s := rfl
    have hc := c.toNat_lt
    rw [e, unhexT, half_hex (by omega), half_hex (by omega), if_pos ⟨by omega, by omega⟩, ih]
    have e2 : 16 * (c.toNat / 16) + c.toNat % 16 = c.toNat := by omega
    rw [e2]
    simp
theorem unhex_len : ∀ {w s : Tx}, unhexT w = some s → w.length = 2 * s.length
  | [], s, h => by cases h; rfl
  | [_], s, h => by cases h
  | a :: b :: r, s, h => by
    rw [unhexT] at h
    split at h
    · cases hr : unhexT r with
      | none => rw [hr] at h; cases h
      | some t =>
        rw [hr] at h
        cases h
        have := unhex_len hr
        simp only [List.length_cons]
        omega
    · cases h
theorem unhex_odd {w : Tx} (h : w.length % 2 = 1) : unhexT w = none := by
  cases e : unhexT w with
  | none => rfl
  | some s => have := unhex_len e; omega
/-- A text comes back from its word. -/
theorem unword_word (s : Tx) : unwordT (wordT s) = some s := by
  by_cases h0 : s = []
  · subst h0; rfl
  · cases hp : plainT s with
    | true =>
      obtain ⟨h1, h2, h3, h4⟩ := plain_facts hp
      rw [word_plain hp]
      unfold unwordT
      rw [if_neg (fun e => by subst e; exact h3 rfl), if_neg (by rw [h4]; decide), if_pos hp]
    | false =>
      rw [word_hex h0 hp]
      unfold unwordT
      rw [if_neg (by simp), if_pos (by rfl)]
      show (match unhexT (hexT s) with | some t => if t ≠ [] ∧ wordT t = 120 :: 58 :: hexT s then some t else none | none => none) = some s
      rw [unhex_hex]
      simp only
      rw [if_pos ⟨h0, word_hex h0 hp⟩]
/-- A word that has a text is that text's word. -/
theorem word_unword {w s : Tx} (h : unwordT w = some s) : wordT s = w := by
  unfold unwordT at h
  split at h
  · rename_i e; cases h; subst e; rfl
  · split at h
    · split at h
      · split at h
        · rename_i q; cases h; exact q.2
        · cases h
      · cases h
    · split at h
      · rename_i q; cases h; exact word_plain q
      · cases h
/-- The document's reading of a word: what is read is told again. -/
def refU (w : Tx) : Option Tx :=
  if 2 < w.length ∧ preX w = true ∧ w.length % 2 = 0 then (match unhexT (w.drop 2) with | some s => if wordT s = w then some s else none | none => none)
  else if wordT (if w = [45] then [] else w) = w then some (if w = [45] then [] else w) else none
theorem word_ne {w : Tx} (h0 : w ≠ []) (hp : plainT w = false) : wordT w ≠ w := by
  rw [word_hex h0 hp]
  intro e
  have := congrArg List.length e
  simp only [List.length_cons, hexT_len] at this
  omega
theorem refU_eq (w : Tx) : refU w = unwordT w := by
  unfold refU unwordT
  by_cases h45 : w = [45]
  · subst h45; rfl
  · rw [if_neg h45, if_neg h45]
    cases hx : preX w with
    | true =>
      have hnp : plainT w = false := by
        cases hp : plainT w with
        | false => rfl
        | true => have := (plain_facts hp).2.2.2; rw [hx] at this; cases this
      have hne : w ≠ [] := fun e => by subst e; cases hx
      rw [if_pos rfl]
      by_cases hc : 2 < w.length ∧ True ∧ w.length % 2 = 0
      · rw [if_pos ⟨hc.1, rfl, hc.2.2⟩]
        cases hu : unhexT (w.drop 2) with
        | none => rfl
        | some s =>
          have hl := unhex_len hu
          rw [List.length_drop] at hl
          have hs : s ≠ [] := fun e => by subst e; simp at hl; omega
          simp only
          by_cases hq : wordT s = w
          · rw [if_pos hq, if_pos ⟨hs, hq⟩]
          · rw [if_neg hq, if_neg (fun q => hq q.2)]
      · rw [if_neg (fun q => hc ⟨q.1, trivial, q.2.2⟩), if_neg (word_ne hne hnp)]
        have hl2 : 2 ≤ w.length := by
          match w, hx with
          | _ :: _ :: _, _ => simp
        by_cases h2 : w.length = 2
        · have e : w.drop 2 = [] := List.drop_eq_nil_of_le (by omega)
          rw [e]
          rfl
        · have : (w.drop 2).length % 2 = 1 := by
            rw [List.length_drop]
            have : ¬ w.length % 2 = 0 := fun q => hc ⟨by omega, trivial, q⟩
            omega
          rw [unhex_odd this]
    | false =>
      rw [if_neg (by rintro ⟨-, h, -⟩; cases h)]
      simp only [Bool.false_eq_true, if_false]
      cases hp : plainT w with
      | true => rw [if_pos (word_plain hp), if_pos rfl]
      | false =>
        by_cases h0 : w = []
        · subst h0; rfl
        · rw [if_neg (word_ne h0 hp)]; simp
/-- A word's bytes can be seen, and there are some. -/
theorem word_seen (s : Tx) : (wordT s).all okC = true ∧ wordT s ≠ [] := by
  unfold wordT
  split
  · exact ⟨by decide, by simp⟩
  · split
    · rename_i h; exact ⟨(plain_facts h).1, (plain_facts h).2.1⟩
    · refine ⟨?_, by simp⟩
      simp only [List.all_cons, show okC 120 = true by decide, show okC 58 = true by decide, Bool.true_and]
      rw [List.all_eq_true]
      intro x hx
      unfold hexT at hx
      rw [List.mem_flatMap] at hx
      obtain ⟨c, -, hx⟩ := hx
      have hc := c.toNat_lt
      have hd : ∀ n, n < 16 → okC (hexD n) = true := by decide
      simp only [List.mem_cons, List.not_mem_nil, or_false] at hx
      rcases hx with rfl | rfl
      · exact hd _ (by omega)
      · exact hd _ (by omega)

/-- A number's digits. -/
def digT (n : Nat) : Tx := if h : n < 10 then [UInt8.ofNat (48 + n)] else digT (n / 10) ++ [UInt8.ofNat (48 + n % 10)]
termination_by n
decreasing_by omega
def numT (n : Int) : Tx := if n < 0 then 45 :: digT (-n).toNat else digT n.toNat
def isDig (c : UInt8) : Bool := decide (48 ≤ c.toNat) && decide (c.toNat ≤ 57)
def valT (w : Tx) : Nat := w.foldl (fun n c => 10 * n + (c.toNat - 48)) 0
/-- A word's number. -/
def numOf (w : Tx) : Option Nat := if w ≠ [] ∧ w.length ≤ 12 ∧ w.all isDig = true ∧ digT (valT w) = w then some (valT w) else none
theorem dig_small {n : Nat} (h : n < 10) : digT n = [UInt8.ofNat (48 + n)] := by rw [digT, dif_pos h]
theorem dig_more {n : Nat} (h : ¬ n < 10) : digT n = digT (n / 10) ++ [UInt8.ofNat (48 + n % 10)] := by
  conv => lhs; rw [digT]
  rw [dif_neg h]
theorem dig_ne (n : Nat) : digT n ≠ [] := by
  by_cases h : n < 10
  · rw [dig_small h]; simp
  · rw [dig_more h]; simp
theorem val_snoc (w : Tx) (c : UInt8) : valT (w ++ [c]) = 10 * valT w + (c.toNat - 48) := by simp [valT]
theorem ofNat_dig {n : Nat} (h : n < 10) : (UInt8.ofNat (48 + n)).toNat = 48 + n := by
  rw [UInt8.toNat_ofNat']
  omega
theorem dig_val (n : Nat) : valT (digT n) = n := by
  induction n using Nat.strongRecOn with
  | ind n ih =>
    by_cases h : n < 10
    · rw [dig_small h]
      show 10 * 0 + ((UInt8.ofNat (48 + n)).toNat - 48) = n
      rw [ofNat_dig h]; omega
    · rw [dig_more h, val_snoc, ih (n / 10) (by omega), ofNat_dig (by omega)]
      omega
theorem dig_all (n : Nat) : (digT n).all isDig = true := by
  induction n using Nat.strongRecOn with
  | ind n ih =>
    have hd : ∀ k, k < 10 → isDig (UInt8.ofNat (48 + k)) = true := by decide
    by_cases h : n < 10
    · rw [dig_small h]; simpa using hd n h
    · rw [dig_more h, List.all_append, ih (n / 10) (by omega)]
      simpa using hd (n % 10) (by omega)
/-- A number that is small enough comes back from its word. -/
theorem num_dig {n : Nat} (h : (digT n).length ≤ 12) : numOf (digT n) = some n := by
  unfold numOf
  rw [if_pos ⟨dig_ne n, h, dig_all n, by rw [dig_val]⟩, dig_val]
theorem dig_num {w : Tx} {n : Nat} (h : numOf w = some n) : digT n = w := by
  unfold numOf at h
  split at h
  · rename_i q; cases h; exact q.2.2.2
  · cases h
theorem num_neg {n : Int} (h : n < 0) : numOf (numT n) = none := by
  unfold numOf
  rw [if_neg]
  rintro ⟨-, -, h3, -⟩
  unfold numT at h3
  rw [if_pos h] at h3
  simp only [List.all_cons, show isDig 45 = false by decide, Bool.false_and] at h3
  cases h3
end Go.Proofs.YtnjmdldhgconmaaGreatDoor

namespace Go.Proofs.YtnjmdldhgconmaaGreatDoor

/-- A line's words. -/
def splitT : Tx → List Tx
  | [] => [[]]
  | c :: r => if c = 32 then [] :: splitT r else match splitT r with
    | h :: t => (c :: h) :: t
    | [] => [[c]]
theorem split_ne (l : Tx) : splitT l ≠ [] := by
  cases l with
  | nil => simp [splitT]
  | cons c r =>
    unfold splitT
    split
    · simp
    · split <;> simp
/-- One byte more. -/
def addC (ws : List Tx) (c : UInt8) : List Tx := if c = 32 then ws ++ [[]] else ws.dropLast ++ [(ws.getLast?.getD []) ++ [c]]
theorem addC_cons (w : Tx) {ws : List Tx} (h : ws ≠ []) (c : UInt8) : addC (w :: ws) c = w :: addC ws c := by
  unfold addC
  split
  · rfl
  · match ws, h with
    | x :: xs, _ => simp [List.dropLast, List.getLast?_cons_cons]
theorem addC_head (x : UInt8) (h : Tx) (t : List Tx) (c : UInt8) : addC ((x :: h) :: t) c = match addC (h :: t) c with | a :: b => (x :: a) :: b | [] => [] := by
  unfold addC
  split
  · rfl
  · match t with
    | [] => rfl
    | y :: ys => simp [List.dropLast, List.getLast?_cons_cons]
theorem split_snoc (l : Tx) (c : UInt8) : splitT (l ++ [c]) = addC (splitT l) c := by
  induction l with
  | nil =>
    by_cases h : c = 32
    · subst h; rfl
    · simp [splitT, addC, h]
  | cons x l ih =>
    rw [List.cons_append]
    have hne := split_ne l
    by_cases hx : x = 32
    · have e1 : splitT (x :: (l ++ [c])) = [] :: splitT (l ++ [c]) := by rw [splitT, if_pos hx]
      have e2 : splitT (x :: l) = [] :: splitT l := by rw [splitT, if_pos hx]
      rw [e1, e2, ih, addC_cons _ hne]
    · cases hs : splitT l with
      | nil => exact absurd hs hne
      | cons h t =>
        have e2 : splitT (x :: l) = (x :: h) :: t := by rw [splitT, if_neg hx, hs]
        have e1 : splitT (x :: (l ++ [c])) = match splitT (l ++ [c]) with | a :: b => (x :: a) :: b | [] => [[x]] := by rw [splitT, if_neg hx]
        rw [e1, e2, ih, hs, addC_head]
        cases hq : addC (h :: t) c with
        | nil =>
          have : addC (h :: t) c ≠ [] := by unfold addC; split <;> simp
          exact absurd hq this
        | cons a b => rfl
theorem split_len (l : Tx) : (splitT l).length ≤ l.length + 1 := by
  induction l with
  | nil => simp [splitT]
  | cons c r ih =>
    unfold splitT
    split
    · simp only [List.length_cons]; omega
    · split
      · rename_i h; rw [h] at ih; simp only [List.length_cons] at ih ⊢; omega
      · simp
/-- Words, a blank between them. -/
def joinW : List Tx → Tx
  | [] => []
  | [w] => w
  | w :: v :: ws => w ++ 32 :: joinW (v :: ws)
theorem split_free {w : Tx} (h : (32 : UInt8) ∉ w) : splitT w = [w] := by
  induction w with
  | nil => rfl
  | cons c r ih =>
    have hc : c ≠ 32 := fun e => h (by simp [e])
    rw [splitT, if_neg hc, ih (fun e => h (by simp [e]))]
theorem split_app {w : Tx} (h : (32 : UInt8) ∉ w) (l : Tx) : splitT (w ++ 32 :: l) = w :: splitT l := by
  induction w with
  | nil => simp [splitT]
  | cons c r ih =>
    have hc : c ≠ 32 := fun e => h (by simp [e])
    rw [List.cons_append, splitT, if_neg hc, ih (fun e => h (by simp [e]))]
/-- Words without blanks come back from their line. -/
theorem split_join : ∀ {ws : List Tx}, ws ≠ [] → (∀ w ∈ ws, (32 : UInt8) ∉ w) → splitT (joinW ws) = ws
  | [], h, _ => absurd rfl h
  | [w], _, h => split_free (h w (by simp))
  | w :: v :: ws, _, h => by
    rw [joinW, split_app (h w (by simp)), split_join (by simp) (fun x hx => h x (by simp at hx ⊢; exact .inr hx))]
theorem join_split (l : Tx) : joinW (splitT l) = l := by
  induction l with
  | nil => rfl
  | cons c r ih =>
    have hne := split_ne r
    cases hs : splitT r with
    | nil => exact absurd hs hne
    | cons h t =>
      rw [hs] at ih
      by_cases hc : c = 32
      · rw [splitT, if_pos hc, hs, joinW, ih, hc]; rfl
      · rw [splitT, if_neg hc, hs]
        simp only
        cases t with
        | nil => simp only [joinW] at ih ⊢; rw [ih]
        | cons v t => simp only [joinW, List.cons_append] at ih ⊢; rw [ih]
theorem split_nosp (l : Tx) : ∀ w ∈ splitT l, (32 : UInt8) ∉ w := by
  induction l with
  | nil => intro w hw; simp [splitT] at hw; subst hw; simp
  | cons c r ih =>
    intro w hw
    by_cases hc : c = 32
    · rw [splitT, if_pos hc] at hw
      rcases List.mem_cons.1 hw with rfl | hw
      · simp
      · exact ih w hw
    · cases hs : splitT r with
      | nil => exact absurd hs (split_ne r)
      | cons h t =>
        rw [splitT, if_neg hc, hs] at hw
        rw [hs] at ih
        rcases List.mem_cons.1 hw with rfl | hw
        · intro q
          rcases List.mem_cons.1 q with q | q
          · exact hc q.symm
          · exact ih h (by simp) q
        · exact ih w (by simp [hw])

/-- A step. -/
structure Stp where
  k : Nat
  txn : Int
  key : Tx
  val : Tx
  n : Int
  d : Bool
  f : Tx
  deriving DecidableEq
def stp0 (k : Nat) : Stp := ⟨k, 0, [], [], 0, false, []⟩
inductive Fld where
  | t | k | v | n | d | fl
  deriving DecidableEq
/-- A kind's first word, and its fields. -/
def shapeT : Nat → Option (Tx × List Fld)
  | 0 => some ([98, 101, 103, 105, 110], [])
  | 1 => some ([103, 101, 116], [.t, .k])
  | 2 => some ([112, 117, 116], [.t, .k, .v])
  | 3 => some ([100, 101, 108], [.t, .k])
  | 4 => some ([115, 99, 97, 110], [.t, .k, .v, .n])
  | 5 => some ([99, 111, 109, 109, 105, 116], [.t])
  | 6 => some ([97, 98, 111, 114, 116], [.t])
  | 7 => some ([102, 108, 117, 115, 104], [])
  | 8 => some ([99, 104, 101, 99, 107, 112, 111, 105, 110, 116], [])
  | 9 => some ([103, 99], [])
  | 10 => some ([98, 114, 101, 97, 107], [.n, .d])
  | 11 => some ([112, 111, 119, 101, 114], [.fl])
  | 12 => some ([111, 112, 101, 110], [])
  | _ => none
/-- A word read into a step. -/
def putF (s : Stp) (f : Fld) (w : Tx) : Option Stp := match f with
  | .t => (numOf w).map fun n => { s with txn := (n : Nat) }
  | .n => (numOf w).map fun n => { s with n := (n : Nat) }
  | .d => match numOf w with
    | some n => if n ≤ 1 then some { s with d := decide (n = 1) } else none
    | none => none
  | .k => (unwordT w).map fun x => { s with key := x }
  | .v => (unwordT w).map fun x => { s with val := x }
  | .fl => (unwordT w).map fun x => { s with f := x }
def putFs (s : Stp) : List Fld → List Tx → Option Stp
  | [], [] => some s
  | f :: fs, w :: ws => match putF s f w with
    | some s' => putFs s' fs ws
    | none => none
  | _, _ => none
/-- A step out of words. -/
def parseK (k : Nat) (ws : List Tx) : Option Stp := match shapeT k, ws with
  | some (nm, fs), w :: r => if nm = w then putFs (stp0 k) fs r else none
  | _, _ => none
def parseW (ws : List Tx) : Option Stp := (List.range 13).findSome? fun k => parseK k ws
def parseT (line : Tx) : Option Stp := parseW (splitT line)
/-- A field's word. -/
def getF (s : Stp) : Fld → Tx
  | .t => numT s.txn
  | .n => numT s.n
  | .d => if s.d then [49] else [48]
  | .k => wordT s.key
  | .v => wordT s.val
  | .fl => wordT s.f
/-- A step's words. -/
def wordsS (s : Stp) : List Tx := match shapeT s.k with
  | some (nm, fs) => nm :: fs.map (getF s)
  | none => []
/-- A step's line. -/
def lineT (s : Stp) : Option Tx := if parseT (joinW (wordsS s)) = some s then some (joinW (wordsS s)) else none
end Go.Proofs.YtnjmdldhgconmaaGreatDoor

namespace Go.Proofs.YtnjmdldhgconmaaGreatDoor

theorem num_nat (n : Nat) : numT (n : Int) = digT n := by
  unfold numT
  rw [if_neg (by omega)]
  congr 1
theorem putF_get {s s' : Stp} {f : Fld} {w : Tx} (h : putF s f w = some s') : getF s' f = w ∧ s'.k = s.k ∧ ∀ g, g ≠ f → getF s' g = getF s g := by
  cases f with
  | t =>
    simp only [putF, Option.map_eq_some_iff] at h
    obtain ⟨n, hn, rfl⟩ := h
    refine ⟨by show numT _ = w; rw [num_nat]; exact dig_num hn, rfl, fun g hg => ?_⟩
    cases g <;> first | rfl | exact absurd rfl hg
  | n =>
    simp only [putF, Option.map_eq_some_iff] at h
    obtain ⟨n, hn, rfl⟩ := h
    refine ⟨by show numT _ = w; rw [num_nat]; exact dig_num hn, rfl, fun g hg => ?_⟩
    cases g <;> first | rfl | exact absurd rfl hg
  | d =>
    simp only [putF] at h
    cases hn : numOf w with
    | none => rw [hn] at h; cases h
    | some n =>
      rw [hn] at h
      simp only at h
      split at h
      · rename_i h1
        cases h
        have hw := dig_num hn
        refine ⟨?_, rfl, fun g hg => ?_⟩
        · show (if decide (n = 1) then [49] else [48]) = w
          by_cases e : n = 1
          · subst e; rw [← hw, dig_small (by omega)]; rfl
          · obtain rfl : n = 0 := by omega
            rw [← hw, dig_small (by omega)]; rfl
        · cases g <;> first | rfl | exact absurd rfl hg
      · cases h
  | k =>
    simp only [putF, Option.map_eq_some_iff] at h
    obtain ⟨x, hx, rfl⟩ := h
    refine ⟨word_unword hx, rfl, fun g hg => ?_⟩
    cases g <;> first | rfl | exact absurd rfl hg
  | v =>
    simp only [putF, Option.map_eq_some_iff] at h
    obtain ⟨x, hx, rfl⟩ := h
    refine ⟨word_unword hx, rfl, fun g hg => ?_⟩
    cases g <;> first | rfl | exact absurd rfl hg
  | fl =>
    simp only [putF, Option.map_eq_some_iff] at h
    obtain ⟨x, hx, rfl⟩ := h
    refine ⟨word_unword hx, rfl, fun g hg => ?_⟩
    cases g <;> first | rfl | exact absurd rfl hg
theorem putFs_get : ∀ {fs : List Fld} {ws : List Tx} {s s' : Stp}, putFs s fs ws = some s' → fs.Nodup → fs.map (getF s') = ws ∧ s'.k = s.k ∧ ∀ g, g ∉ fs → getF s' g = getF s g
  | [], [], s, s', h, _ => by cases h; exact ⟨rfl, rfl, fun _ _ => rfl⟩
  | [], _ :: _, _, _, h, _ => by cases h
  | _ :: _, [], _, _, h, _ => by cases h
  | f :: fs, w :: ws, s, s', h, hd => by
    rw [putFs] at h
    cases hp : putF s f w with
    | none => rw [hp] at h; cases h
    | some s1 =>
      rw [hp] at h
      obtain ⟨g1, g2, g3⟩ := putF_get hp
      obtain ⟨hnf, hnd⟩ := List.nodup_cons.1 hd
      obtain ⟨q1, q2, q3⟩ := putFs_get h hnd
      refine ⟨by rw [List.map_cons, q1, q3 f hnf, g1], q2.trans g2, fun g hg => ?_⟩
      rw [q3 g (fun e => hg (by simp [e])), g3 g (fun e => hg (by simp [e]))]
theorem shape_nodup {k : Nat} {nm : Tx} {fs : List Fld} (h : shapeT k = some (nm, fs)) : fs.Nodup := by
  unfold shapeT at h
  split at h <;> first | (cases h; decide) | cases h
theorem parse_words {ws : List Tx} {s : Stp} (h : parseW ws = some s) : wordsS s = ws := by
  unfold parseW at h
  obtain ⟨k, -, hk⟩ := List.exists_of_findSome?_eq_some h
  unfold parseK at hk
  split at hk
  · rename_i nm fs w r hs
    split at hk
    · rename_i e
      subst e
      obtain ⟨q1, q2, -⟩ := putFs_get hk (shape_nodup hs)
      have hk' : s.k = k := q2
      unfold wordsS
      rw [hk', hs]
      simp only
      rw [q1]
    · cases hk
  · cases hk
/-- A line that is read is that of its step. -/
theorem line_parse {l : Tx} {s : Stp} (h : parseT l = some s) : lineT s = some l := by
  have e : joinW (wordsS s) = l := by rw [parse_words h, join_split]
  unfold lineT
  rw [e, if_pos h]
theorem parse_line {l : Tx} {s : Stp} (h : lineT s = some l) : parseT l = some s := by
  unfold lineT at h
  split at h
  · rename_i q; cases h; exact q
  · cases h
/-- What is read of a line has no numbers below 0. -/
theorem putFs_pos : ∀ {fs : List Fld} {ws : List Tx} {s s' : Stp}, putFs s fs ws = some s' → 0 ≤ s.txn → 0 ≤ s.n → 0 ≤ s'.txn ∧ 0 ≤ s'.n
  | [], [], s, s', h, h1, h2 => by cases h; exact ⟨h1, h2⟩
  | [], _ :: _, _, _, h, _, _ => by cases h
  | _ :: _, [], _, _, h, _, _ => by cases h
  | f :: fs, w :: ws, s, s', h, h1, h2 => by
    rw [putFs] at h
    cases hp : putF s f w with
    | none => rw [hp] at h; cases h
    | some s1 =>
      rw [hp] at h
      refine putFs_pos h ?_ ?_
      · cases f <;> simp only [putF, Option.map_eq_some_iff] at hp
        · obtain ⟨n, -, rfl⟩ := hp; exact Int.natCast_nonneg n
        · obtain ⟨n, -, rfl⟩ := hp; exact h1
        · obtain ⟨n, -, rfl⟩ := hp; exact h1
        · obtain ⟨n, -, rfl⟩ := hp; exact h1
        · split at hp
          · split at hp
            · cases hp; exact h1
            · cases hp
          · cases hp
        · obtain ⟨n, -, rfl⟩ := hp; exact h1
      · cases f <;> simp only [putF, Option.map_eq_some_iff] at hp
        · obtain ⟨n, -, rfl⟩ := hp; exact h2
        · obtain ⟨n, -, rfl⟩ := hp; exact h2
        · obtain ⟨n, -, rfl⟩ := hp; exact h2
        · obtain ⟨n, -, rfl⟩ := hp; exact Int.natCast_nonneg n
        · split at hp
          · split at hp
            · cases hp; exact h2
            · cases hp
          · cases hp
        · obtain ⟨n, -, rfl⟩ := hp; exact h2
theorem parseW_pos {ws : List Tx} {s : Stp} (h : parseW ws = some s) : 0 ≤ s.txn ∧ 0 ≤ s.n := by
  unfold parseW at h
  obtain ⟨k, -, hk⟩ := List.exists_of_findSome?_eq_some h
  unfold parseK at hk
  split at hk
  · split at hk
    · exact putFs_pos hk (Int.le_refl _) (Int.le_refl _)
    · cases hk
  · cases hk
theorem line_neg {s : Stp} (h : s.txn < 0 ∨ s.n < 0) : lineT s = none := by
  unfold lineT
  rw [if_neg]
  intro q
  have := parseW_pos q
  omega

/-- What the program's reader takes of a word for a number. -/
def numP (w : Tx) : Nat × Bool := if w.all isDig = true ∧ w.length ≤ 12 then (valT w, decide (digT (valT w) = w)) else (0, false)
theorem numP_of (w : Tx) : numOf w = if (numP w).2 = true then some (numP w).1 else none := by
  unfold numOf numP
  by_cases h : w.all isDig = true ∧ w.length ≤ 12
  · rw [if_pos h]
    simp only [decide_eq_true_eq]
    by_cases q : digT (valT w) = w
    · rw [if_pos q, if_pos ⟨fun e => dig_ne (valT w) (q.trans e), h.2, h.1, q⟩]
    · rw [if_neg q, if_neg (fun e => q e.2.2.2)]
  · rw [if_neg h, if_neg (fun e => h ⟨e.2.2.1, e.2.1⟩)]
    rfl
/-- The program's reader: words, whether all was well, and the step so far. -/
abbrev RdSt := List Tx × Bool × Stp
def rdF (r : RdSt) : Fld → RdSt
  | .t => (r.1.tail, (r.2.1 && !(r.1 == [])) && (numP (r.1.headD [])).2, { r.2.2 with txn := (numP (r.1.headD [])).1 })
  | .n => (r.1.tail, (r.2.1 && !(r.1 == [])) && (numP (r.1.headD [])).2, { r.2.2 with n := (numP (r.1.headD [])).1 })
  | .d => (r.1.tail, ((r.2.1 && !(r.1 == [])) && (numP (r.1.headD [])).2) && decide ((numP (r.1.headD [])).1 ≤ 1), { r.2.2 with d := decide ((numP (r.1.headD [])).1 = 1) })
  | .k => (r.1.tail, (r.2.1 && !(r.1 == [])) && (unwordT (r.1.headD [])).isSome, { r.2.2 with key := (unwordT (r.1.headD [])).getD [] })
  | .v => (r.1.tail, (r.2.1 && !(r.1 == [])) && (unwordT (r.1.headD [])).isSome, { r.2.2 with val := (unwordT (r.1.headD [])).getD [] })
  | .fl => (r.1.tail, (r.2.1 && !(r.1 == [])) && (unwordT (r.1.headD [])).isSome, { r.2.2 with f := (unwordT (r.1.headD [])).getD [] })
def rdFs (r : RdSt) (fs : List Fld) : RdSt := fs.foldl rdF r
theorem rd_bad (r : RdSt) (fs : List Fld) (h : r.2.1 = false) : (rdFs r fs).2.1 = false := by
  induction fs generalizing r with
  | nil => exact h
  | cons f fs ih =>
    refine ih (rdF r f) ?_
    cases f <;> simp [rdF, h]
theorem rd_put (ws : List Tx) (s : Stp) (fs : List Fld) : putFs s fs ws = if (rdFs (ws, true, s) fs).2.1 = true ∧ (rdFs (ws, true, s) fs).1 = [] then some (rdFs (ws, true, s) fs).2.2 else none := by
  induction fs generalizing ws s with
  | nil => cases ws <;> simp [putFs, rdFs]
  | cons f fs ih =>
    have e : rdFs (ws, true, s) (f :: fs) = rdFs (rdF (ws, true, s) f) fs := rfl
    rw [e]
    cases ws with
    | nil =>
      have hb : (rdF ([], true, s) f).2.1 = false := by cases f <;> simp [rdF]
      rw [rd_bad _ fs hb]
      simp [putFs]
    | cons w ws =>
      rw [putFs]
      have key : ∀ (o : Option Stp) (b : Bool) (s' : Stp), rdF (w :: ws, true, s) f = (ws, b, s') → putF s f w = (if b = true then some s' else none) → (match putF s f w with | some s1 => putFs s1 fs ws | none => none) = if (rdFs (rdF (w :: ws, true, s) f) fs).2.1 = true ∧ (rdFs (rdF (w :: ws, true, s) f) fs).1 = [] then some (rdFs (rdF (w :: ws, true, s) f) fs).2.2 else none := by
        intro _ b s' h1 h2
        rw [h1, h2]
        cases b with
        | true => simp only [if_pos]; exact ih ws s'
        | false => rw [rd_bad (ws, false, s') fs rfl]; simp
      cases f with
      | t => exact key none (numP w).2 { s with txn := (numP w).1 } (by simp [rdF]) (by simp only [putF, numP_of]; split <;> rfl)
      | n => exact key none (numP w).2 { s with n := (numP w).1 } (by simp [rdF]) (by simp only [putF, numP_of]; split <;> rfl)
      | d =>
        refine key none ((numP w).2 && decide ((numP w).1 ≤ 1)) { s with d := decide ((numP w).1 = 1) } (by simp [rdF]) ?_
        simp only [putF, numP_of]
        cases (numP w).2 with
        | false => rfl
        | true => simp only [if_pos, Bool.true_and, decide_eq_true_eq]
      | k => exact key none (unwordT w).isSome { s with key := (unwordT w).getD [] } (by simp [rdF]) (by simp only [putF]; cases unwordT w <;> rfl)
      | v => exact key none (unwordT w).isSome { s with val := (unwordT w).getD [] } (by simp [rdF]) (by simp only [putF]; cases unwordT w <;> rfl)
      | fl => exact key none (unwordT w).isSome { s with f := (unwordT w).getD [] } (by simp [rdF]) (by simp only [putF]; cases unwordT w <;> rfl)
theorem shape_inj {i k : Nat} {nm : Tx} {fs gs : List Fld} (hi : shapeT i = some (nm, gs)) (hk : shapeT k = some (nm, fs)) : i = k := by
  have key : ∀ i, i < 13 → ∀ k, k < 13 → (shapeT i).map (·.1) = (shapeT k).map (·.1) → i = k := by decide
  have lt : ∀ {i nm fs}, shapeT i = some (nm, fs) → i < 13 := by
    intro i nm fs h
    unfold shapeT at h
    split at h <;> first | omega | cases h
  exact key i (lt hi) k (lt hk) (by rw [hi, hk]; rfl)
theorem shape_lt {i : Nat} {nm : Tx} {fs : List Fld} (h : shapeT i = some (nm, fs)) : i < 13 := by
  unfold shapeT at h
  split at h <;> first | omega | cases h
/-- Words behind a known name. -/
theorem parse_at {k : Nat} {nm : Tx} {fs : List Fld} (hs : shapeT k = some (nm, fs)) (r : List Tx) : parseW (nm :: r) = putFs (stp0 k) fs r := by
  have h1 : parseK k (nm :: r) = putFs (stp0 k) fs r := by unfold parseK; rw [hs]; simp only; rw [if_pos trivial]
  have h2 : ∀ i, i ≠ k → parseK i (nm :: r) = none := by
    intro i hi
    unfold parseK
    cases e : shapeT i with
    | none => rfl
    | some p =>
      obtain ⟨nm', gs⟩ := p
      simp only
      rw [if_neg]
      intro q
      subst q
      exact hi (shape_inj e hs)
  unfold parseW
  cases hp : putFs (stp0 k) fs r with
  | none =>
    rw [List.findSome?_eq_none_iff]
    intro i _
    by_cases e : i = k
    · subst e; rw [h1, hp]
    · exact h2 i e
  | some s =>
    have hin : k ∈ List.range 13 := List.mem_range.2 (shape_lt hs)
    cases hf : (List.range 13).findSome? (fun i => parseK i (nm :: r)) with
    | none =>
      rw [List.findSome?_eq_none_iff] at hf
      have := hf k hin
      rw [h1, hp] at this
      cases this
    | some t =>
      obtain ⟨i, -, hi⟩ := List.exists_of_findSome?_eq_some hf
      by_cases e : i = k
      · subst e; rw [h1, hp] at hi; exact hi.symm ▸ rfl
      · rw [h2 i e] at hi; cases hi
theorem parse_none {nm : Tx} (h : ∀ k fs, shapeT k ≠ some (nm, fs)) (r : List Tx) : parseW (nm :: r) = none := by
  unfold parseW
  rw [List.findSome?_eq_none_iff]
  intro i _
  unfold parseK
  cases e : shapeT i with
  | none => rfl
  | some p =>
    obtain ⟨nm', gs⟩ := p
    simp only
    rw [if_neg]
    intro q
    subst q
    exact h i gs e
end Go.Proofs.YtnjmdldhgconmaaGreatDoor

namespace Go.Proofs.YtnjmdldhgconmaaGreatDoor

theorem beq_sw (a x : UInt8) : (a == x) = (x == a) := by rw [Bool.eq_iff_iff, beq_iff_eq, beq_iff_eq]; exact eq_comm
theorem occ32 (l : Tx) (j : Nat) : Lib.occAt l [32] j = decide (l[j]? = some 32) := by
  unfold Lib.occAt
  rw [← List.head?_drop]
  cases l.drop j with
  | nil => rfl
  | cons x r =>
    show ((32 == x) && List.isPrefixOf [] r) = decide (some x = some 32)
    rw [beq_sw, Bool.eq_iff_iff]
    simp [List.isPrefixOf]
theorem lib_split : ∀ (n : Nat) (l : Tx), l.length ≤ n → Lib.split l [32] = splitT l
  | 0, l, h => by
    obtain rfl : l = [] := List.eq_nil_of_length_eq_zero (by omega)
    rfl
  | n + 1, l, h => by
    rcases Lib.index_spec l [32] with ⟨h1, h2⟩ | ⟨i, h1, h2, h3, h4⟩
    · have hn : (32 : UInt8) ∉ l := by
        intro hm
        obtain ⟨j, hj, e⟩ := List.mem_iff_getElem.1 hm
        have := h2 j (by omega)
        rw [occ32] at this
        have := of_decide_eq_false this
        exact this (by rw [List.getElem?_eq_getElem hj, e])
      rw [split_free hn]
      unfold Lib.split
      rw [Lib.count_miss h1]
      rfl
    · rw [occ32] at h3
      have h3 := of_decide_eq_true h3
      have hil : i < l.length := by
        rcases Nat.lt_or_ge i l.length with q | q
        · exact q
        · rw [List.getElem?_eq_none q] at h3; cases h3
      have he : l = l.take i ++ 32 :: l.drop (i + 1) := by
        conv => lhs; rw [← List.take_append_drop i l]
        rw [List.drop_eq_getElem_cons hil]
        rw [List.getElem?_eq_getElem hil] at h3
        rw [Option.some.inj h3]
      have hnot : (32 : UInt8) ∉ l.take i := by
        intro hm
        obtain ⟨j, hj, e⟩ := List.mem_iff_getElem.1 hm
        rw [List.length_take] at hj
        rw [List.getElem_take] at e
        have := h4 j (by omega)
        rw [occ32] at this
        exact of_decide_eq_false this (by rw [List.getElem?_eq_getElem (by omega), e])
      have ih := lib_split n (l.drop (i + 1)) (by rw [List.length_drop]; omega)
      conv => rhs; rw [he]
      rw [split_app hnot, ← ih]
      unfold Lib.split
      rw [Lib.count_hit (by simp) h1, Nat.add_comm 1]
      show (if Lib.index l [32] == -1 then [l] else l.take ((Lib.index l [32]).toNat + 0) :: Lib.splitK [32] 0 _ (l.drop ((Lib.index l [32]).toNat + 1))) = _
      rw [h1, if_neg (by simp)]
      rfl
theorem lib_join (ws : List Tx) : Lib.join ws [32] = joinW ws := by
  cases ws with
  | nil => rfl
  | cons w ws =>
    rw [Lib.join_cons]
    induction ws generalizing w with
    | nil => simp [Lib.joinTail, joinW]
    | cons v ws ih =>
      rw [joinW, ← ih v]
      simp [Lib.joinTail]
theorem pre45 (l : Tx) : Lib.hasPrefix l [45] = (l.head? == some 45) := by
  cases l with
  | nil => rfl
  | cons x r =>
    show ((45 == x) && List.isPrefixOf [] r) = (some x == some 45)
    rw [beq_sw, Bool.eq_iff_iff]
    simp [List.isPrefixOf]
theorem preX_eq (l : Tx) : Lib.hasPrefix l [120, 58] = preX l := by
  match l with
  | [] => rfl
  | [x] => simp [Lib.hasPrefix, List.isPrefixOf, preX]
  | x :: y :: r =>
    show ((120 == x) && ((58 == y) && List.isPrefixOf [] r)) = (x == 120 && y == 58)
    rw [beq_sw 120, beq_sw 58]
    simp [List.isPrefixOf]
/-- The hex digits. -/
def hexS : Tx := [48, 49, 50, 51, 52, 53, 54, 55, 56, 57, 97, 98, 99, 100, 101, 102]
theorem hex_index (c : UInt8) : Lib.indexByte hexS c = if halfN c ≤ 15 then (halfN c : Int) else -1 := by
  have key : ∀ n : Fin 256, Lib.indexByte hexS (UInt8.ofNat n.val) = if halfN (UInt8.ofNat n.val) ≤ 15 then (halfN (UInt8.ofNat n.val) : Int) else -1 := by decide +kernel
  have := key ⟨c.toNat, c.toNat_lt⟩
  simpa using this
theorem hex_at {n : Nat} (h : n < 16) : hexS[n]? = some (hexD n) := by
  have : ∀ n, n < 16 → hexS[n]? = some (hexD n) := by decide
  exact this n h
end Go.Proofs.YtnjmdldhgconmaaGreatDoor

namespace Go.Proofs.YtnjmdldhgconmaaGreatDoor

def errorW : Tx := [101, 114, 114, 111, 114, 32]
/-- What is told of a step's answer. -/
def toldT (k : Nat) (id ts : Int) (val : Tx) (is : Bool) (ps : List (Tx × Tx)) (e : Int) : List Tx :=
  if e ≠ 0 then [errorW ++ numT e] else match k with
  | 0 => [[116, 120, 110, 32] ++ numT id ++ [32, 97, 116, 32] ++ numT ts]
  | 1 => if is then [[105, 115, 32] ++ wordT val] else [[110, 111, 110, 101]]
  | 4 => ps.map (fun p => wordT p.1 ++ [32] ++ wordT p.2) ++ [[112, 97, 105, 114, 115, 32] ++ numT ps.length]
  | 5 => [[97, 116, 32] ++ numT ts]
  | _ => [[111, 107]]
end Go.Proofs.YtnjmdldhgconmaaGreatDoor
