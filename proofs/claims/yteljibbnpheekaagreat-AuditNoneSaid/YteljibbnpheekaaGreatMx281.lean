/-
  Calls that are answered once: they were run.
-/
import Derived.Test.YteljibbnpheekaaGreatMx28d
import Derived.KernelRfl
namespace Go.Proofs.YteljibbnpheekaaGreat
open Go Go.Ideal Go.Ideal.W Go.Proofs
theorem mx28_4_ran : mx28_4.ran (fnext Tryz.prog gtabx28 (insFH 510) 601 kx28_601) := (by kernel_rfl : (_ : Bool) = true)
theorem mx28_1_ran : mx28_1.ran (frun Tryz.prog gtabx28 (insFH 510) 600) := (by kernel_rfl : (_ : Bool) = true)
end Go.Proofs.YteljibbnpheekaaGreat
