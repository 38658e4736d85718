/-
  Calls that are answered once: they were run.
-/
import Derived.Test.YteljibbnpheekaaGreatMx28d
import Derived.KernelRfl
namespace Go.Proofs.YteljibbnpheekaaGreat
open Go Go.Ideal Go.Ideal.W Go.Proofs
theorem mx28_7_ran : mx28_7.ran (fnext Tryz.prog gtabx28 (insFH 510) 600 kx28_600) := (by kernel_rfl : (_ : Bool) = true)
theorem mx28_6_ran : mx28_6.ran (fnext Tryz.prog gtabx28 (insFH 510) 602 kx28_602) := (by kernel_rfl : (_ : Bool) = true)
end Go.Proofs.YteljibbnpheekaaGreat
