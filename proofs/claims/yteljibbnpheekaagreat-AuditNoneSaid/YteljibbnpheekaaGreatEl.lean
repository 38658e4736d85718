/-
  The program's facts that every row asks.
-/
import Derived.Test.YteljibbnpheekaaGreatRows
import Derived.KernelRfl
namespace Go.Proofs.YteljibbnpheekaaGreat
open Go Go.Proofs
theorem laidOut : laidOutB Tryz.prog = true := by kernel_rfl
end Go.Proofs.YteljibbnpheekaaGreat
