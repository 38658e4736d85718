/-
  Calls that are answered once: they were run.
-/
import Derived.Test.YteljibbnpheekaaGreatMx28d
import Derived.KernelRfl
namespace Go.Proofs.YteljibbnpheekaaGreat
open Go Go.Ideal Go.Ideal.W Go.Proofs
theorem mx28_3_ran : mx28_3.ran (fnext Tryz.prog gtabx28 (insFH 510) 600 kx28_600) := (by kernel_rfl : (_ : Bool) = true)
theorem mx28_2_ran : mx28_2.ran (fnext Tryz.prog gtabx28 (insFH 510) 603 kx28_603) := (by kernel_rfl : (_ : Bool) = true)
end Go.Proofs.YteljibbnpheekaaGreat
