/- What events tell: the book; no memory in sight. -/
import Derived.Test.YtaeiajodbpgbbaaCf4
namespace Go.Proofs.Ytaeiajodbpgbbaa
open Go.RowKit Go.Sort Go.Shelf

/-- What is known of a transaction. -/
structure HTx where
  start : Int
  live : Bool
  keys : List (List UInt8)
  wrote : List UInt8 → Option (List UInt8 × Bool)
def tx0 : HTx := ⟨0, false, [], fun _ => none⟩
/-- A book. -/
structure HBk where
  top : Int
  txns : Int → Option HTx
  log : List (Int × List (List UInt8))
  by_ : List Int
def bk0 : HBk := ⟨0, fun _ => none, [], []⟩
def HBk.of (b : HBk) (id : Int) : HTx := (b.txns id).getD tx0
def mtK (start : Int) (ms : List (List UInt8)) (x : Int × List (List UInt8)) : Bool := decide (start < x.1) && meetB x.2 ms
def HBk.meets (b : HBk) (t : HTx) : Bool := b.log.any (mtK t.start t.keys)
/-- Has an event just the fields of its kind? -/
def ownB (e : HEv) : Bool := (decide (e.k = 0 ∨ e.k = 3) || decide (e.t = 0)) && ((decide (e.k = 1 ∨ e.k = 2)) || (decide (e.key ++ e.val = []) && !e.is)) && (e.is || decide (e.val = []))
/-- Does an entry of the log tell of a key? -/
def seeP (log : List (Int × List (List UInt8))) (start : Int) (key : List UInt8) (i : Nat) : Bool := decide ((log.getD i (0, [])).1 ≤ start) && decide (key ∈ (log.getD i (0, [])).2)
def HBk.seeL (b : HBk) (t : HTx) (key : List UInt8) : List UInt8 × Bool :=
  match (List.range b.log.length).reverse.find? (seeP b.log t.start key) with
  | some i => ((b.of (b.by_.getD i 0)).wrote key).getD ([], false)
  | none => ([], false)
def HBk.see (b : HBk) (t : HTx) (key : List UInt8) : List UInt8 × Bool := (t.wrote key).getD (b.seeL t key)
/-- Why an event may not be; 0: it may. -/
def HBk.may (b : HBk) (e : HEv) : Nat :=
  if 5 < e.k then 13
  else if ownB e = false then 4
  else if e.k = 0 ∧ ((b.txns e.x).isSome = true ∨ e.t ≤ b.top) then 12
  else if e.k ≠ 0 ∧ (b.of e.x).live = false then 15
  else if e.k = 3 ∧ e.t ≤ b.top then 12
  else if e.k = 1 ∧ b.see (b.of e.x) e.key ≠ (e.val, e.is) then 10
  else if e.k = 3 ∧ b.meets (b.of e.x) = true then 17
  else if e.k = 4 ∧ b.meets (b.of e.x) = false then 11
  else 0
/-- A transaction behind an event of its own. -/
def HTx.note (t : HTx) (e : HEv) : HTx :=
  if e.k = 0 then { t with start := e.t, live := true }
  else if e.k = 2 then { t with keys := addK t.keys e.key, wrote := fun k => if k = e.key then some (e.val, e.is) else t.wrote k }
  else if e.k = 3 ∨ e.k = 4 ∨ e.k = 5 then { t with live := false }
  else t
/-- A book behind an event. -/
def HBk.note (b : HBk) (e : HEv) : HBk :=
  { top := max b.top e.t
    txns := fun id => if id = e.x then some ((b.of e.x).note e) else b.txns id
    log := if e.k = 3 ∧ (b.of e.x).keys ≠ [] then b.log ++ [(e.t, (b.of e.x).keys)] else b.log
    by_ := if e.k = 3 ∧ (b.of e.x).keys ≠ [] then b.by_ ++ [e.x] else b.by_ }
/-- Which event is the first that may not be, and why. -/
def chkB : HBk → Nat → List HEv → Nat × Nat
  | _, i, [] => (i, 0)
  | b, i, e :: l => if b.may e = 0 then chkB (b.note e) (i + 1) l else (i, b.may e)
end Go.Proofs.Ytaeiajodbpgbbaa
