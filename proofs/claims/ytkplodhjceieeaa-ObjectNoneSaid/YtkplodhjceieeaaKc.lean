/-
  The ideal runs of the statement on nil ones: whatever the call, true.
-/
import Derived.Test.YtkplodhjceieeaaRows
import Derived.Test.YtkplodhjceieeaaIx
namespace Go.Proofs.Ytkplodhjceieeaa
open Go Go.Ideal

set_option maxRecDepth 100000 in
theorem ran7 : ((run Try.prog 100).enter 7 #[.agg #[.chan (some 0), .chan (some 1), .chan (some 2), .chan (some 3), .chan (some 4)]] (tokens 5)).allB isTrue = true := by kernel_rfl

end Go.Proofs.Ytkplodhjceieeaa
