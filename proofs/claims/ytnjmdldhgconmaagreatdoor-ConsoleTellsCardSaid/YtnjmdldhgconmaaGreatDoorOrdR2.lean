/- Walks over the document's readers of numbers (fascicleref01). -/
import Derived.Test.YtnjmdldhgconmaaGreatDoorOrdR1
import Derived.Deep.QuietTactic
import Derived.BigQuiet
namespace Go.Proofs.YtnjmdldhgconmaaGreatDoor
open Go.RowKit

/-- The document's reader, as a value. -/
abbrev rdrV (a : Option Addr) (n cap : Nat) (er : Nat) : Value := .agg #[.slice a n cap, .int .i64 (er : Nat)]

end Go.Proofs.YtnjmdldhgconmaaGreatDoor
