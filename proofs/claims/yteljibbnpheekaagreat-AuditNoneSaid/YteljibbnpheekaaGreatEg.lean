/-
  The program's facts that every row asks.
-/
import Derived.Test.YteljibbnpheekaaGreatRows
import Derived.JoinedOf
import Derived.KernelRfl
namespace Go.Proofs.YteljibbnpheekaaGreat
open Go Go.Proofs
set_option maxRecDepth 100000
theorem rowed : mapsRowed Tryz.prog = true := by kernel_rfl
theorem heard : Tryz.prog.stopsHeard = true := by kernel_rfl
end Go.Proofs.YteljibbnpheekaaGreat
