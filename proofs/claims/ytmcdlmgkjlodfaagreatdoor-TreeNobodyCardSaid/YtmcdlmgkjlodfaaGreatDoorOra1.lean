/- Walks over the atomic words, the lock and the once that package oracle uses. -/
import Derived.Test.YtmcdlmgkjlodfaaGreatDoorRows
import Derived.Test.YtmcdlmgkjlodfaaGreatDoorBase
namespace Go.Proofs.YtmcdlmgkjlodfaaGreatDoor
open Go.RowKit

end Go.Proofs.YtmcdlmgkjlodfaaGreatDoor
