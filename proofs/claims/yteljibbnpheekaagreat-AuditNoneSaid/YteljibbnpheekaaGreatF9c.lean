/-
  auditNone's number.
-/
import Derived.Test.YteljibbnpheekaaGreatRows
import Derived.JoinedOf
import Derived.KernelRfl
namespace Go.Proofs.YteljibbnpheekaaGreat
open Go Go.Proofs
set_option maxRecDepth 100000
theorem named9 : Tryz.prog.funcNamed Rows.auditNoneRow.func = some 9 := by kernel_rfl
end Go.Proofs.YteljibbnpheekaaGreat
