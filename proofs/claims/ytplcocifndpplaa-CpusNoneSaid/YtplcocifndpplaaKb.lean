/-
  The ideal runs of the statement on nil processors: whatever the call, true.
-/
import Derived.Test.YtplcocifndpplaaRows
import Derived.Test.YtplcocifndpplaaJa
namespace Go.Proofs.Ytplcocifndpplaa
open Go Go.Ideal

set_option maxRecDepth 100000 in
theorem ran13t : ((run Try.prog 100).enter 13 #[.agg #[.chan (some 0), .chan (some 1), .chan (some 2), .chan (some 3), .chan (some 4), .chan (some 5), .chan (some 6), .chan (some 7), .chan (some 8), .bool true]] (tokens 9)).allB isTrue = true := by kernel_rfl
set_option maxRecDepth 100000 in
theorem ran13f : ((run Try.prog 100).enter 13 #[.agg #[.chan (some 0), .chan (some 1), .chan (some 2), .chan (some 3), .chan (some 4), .chan (some 5), .chan (some 6), .chan (some 7), .chan (some 8), .bool false]] (tokens 9)).allB isTrue = true := by kernel_rfl
end Go.Proofs.Ytplcocifndpplaa
