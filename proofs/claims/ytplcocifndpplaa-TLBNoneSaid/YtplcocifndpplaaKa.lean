/-
  The ideal runs of the statement on a nil buffer: whatever the call, true.
-/
import Derived.Test.YtplcocifndpplaaRows
import Derived.Test.YtplcocifndpplaaJa
namespace Go.Proofs.Ytplcocifndpplaa
open Go Go.Ideal

set_option maxRecDepth 100000 in
theorem ran7t : ((run Try.prog 100).enter 7 #[.agg #[.chan (some 0), .chan (some 1), .chan (some 2), .chan (some 3), .chan (some 4), .chan (some 5), .chan (some 6), .chan (some 7), .bool true]] (tokens 8)).allB isTrue = true := by kernel_rfl
set_option maxRecDepth 100000 in
theorem ran7f : ((run Try.prog 100).enter 7 #[.agg #[.chan (some 0), .chan (some 1), .chan (some 2), .chan (some 3), .chan (some 4), .chan (some 5), .chan (some 6), .chan (some 7), .bool false]] (tokens 8)).allB isTrue = true := by kernel_rfl

end Go.Proofs.Ytplcocifndpplaa
