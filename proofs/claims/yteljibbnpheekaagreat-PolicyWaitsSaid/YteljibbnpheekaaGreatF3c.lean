/-
  policyWaits's number.
-/
import Derived.Test.YteljibbnpheekaaGreatRows
import Derived.JoinedOf
import Derived.KernelRfl
namespace Go.Proofs.YteljibbnpheekaaGreat
open Go Go.Proofs
set_option maxRecDepth 100000
theorem named3 : Tryz.prog.funcNamed Rows.policyWaitsRow.func = some 3 := by kernel_rfl
end Go.Proofs.YteljibbnpheekaaGreat
