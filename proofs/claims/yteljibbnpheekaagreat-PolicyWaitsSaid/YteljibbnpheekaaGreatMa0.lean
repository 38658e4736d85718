/-
  Calls that are answered once: they were run.
-/
import Derived.Test.YteljibbnpheekaaGreatMad
import Derived.KernelRfl
namespace Go.Proofs.YteljibbnpheekaaGreat
open Go Go.Ideal Go.Ideal.W Go.Proofs

theorem mA27_6_ran : mA27_6.ran (fnext Tryz.prog gtabB (insFH 510) 601 kA27_601) := (by kernel_rfl : (_ : Bool) = true)
theorem mA27_10_ran : mA27_10.ran (fnext Tryz.prog gtabB (insFH 510) 602 kA27_602) := (by kernel_rfl : (_ : Bool) = true)
theorem mA27_9_ran : mA27_9.ran (frun Tryz.prog gtabB (insFH 510) 600) := (by kernel_rfl : (_ : Bool) = true)
end Go.Proofs.YteljibbnpheekaaGreat
