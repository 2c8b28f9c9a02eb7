/- The document's key of an entry. -/
import Derived.Test.YtckhefkedkipeaaRef
namespace Go.Proofs.Ytckhefkedkipeaa
open Go.RowKit

theorem flagN_false : flagN false = 1 := rfl
theorem flagN_true : flagN true = 0 := rfl
end Go.Proofs.Ytckhefkedkipeaa
