/-
  policyNone's number.
-/
import Derived.Test.YteljibbnpheekaaGreatRows
import Derived.JoinedOf
import Derived.KernelRfl
namespace Go.Proofs.YteljibbnpheekaaGreat
open Go Go.Proofs
set_option maxRecDepth 100000
theorem named5 : Tryz.prog.funcNamed Rows.policyNoneRow.func = some 5 := by kernel_rfl
end Go.Proofs.YteljibbnpheekaaGreat
