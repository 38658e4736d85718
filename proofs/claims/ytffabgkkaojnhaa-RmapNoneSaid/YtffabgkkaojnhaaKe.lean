/-
  The ideal runs of the statement on nil ones: whatever the call, true.
-/
import Derived.Test.YtffabgkkaojnhaaRows
import Derived.Test.YtffabgkkaojnhaaJa
namespace Go.Proofs.Ytffabgkkaojnhaa
open Go Go.Ideal

set_option maxRecDepth 100000 in
theorem ran17 : ((run Try.prog 100).enter 17 #[.agg #[.chan (some 0), .chan (some 1), .chan (some 2), .chan (some 3), .chan (some 4)]] (tokens 5)).allB isTrue = true := by kernel_rfl

end Go.Proofs.Ytffabgkkaojnhaa
