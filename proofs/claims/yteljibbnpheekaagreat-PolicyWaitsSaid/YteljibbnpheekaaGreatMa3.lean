/-
  Calls that are answered once: they were run.
-/
import Derived.Test.YteljibbnpheekaaGreatMad
import Derived.KernelRfl
namespace Go.Proofs.YteljibbnpheekaaGreat
open Go Go.Ideal Go.Ideal.W Go.Proofs

theorem mA27_2_ran : mA27_2.ran (fnext Tryz.prog gtabB (insFH 510) 600 kA27_600) := (by kernel_rfl : (_ : Bool) = true)
theorem mA27_4_ran : mA27_4.ran (fnext Tryz.prog gtabB (insFH 510) 603 kA27_603) := (by kernel_rfl : (_ : Bool) = true)
theorem mA27_0_ran : mA27_0.ran (fnext Tryz.prog gtabB (insFH 510) 604 kA27_604) := (by kernel_rfl : (_ : Bool) = true)
end Go.Proofs.YteljibbnpheekaaGreat
