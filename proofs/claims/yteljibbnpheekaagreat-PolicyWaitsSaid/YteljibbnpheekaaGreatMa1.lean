/-
  Calls that are answered once: they were run.
-/
import Derived.Test.YteljibbnpheekaaGreatMad
import Derived.KernelRfl
namespace Go.Proofs.YteljibbnpheekaaGreat
open Go Go.Ideal Go.Ideal.W Go.Proofs

theorem mA27_7_ran : mA27_7.ran (fnext Tryz.prog gtabB (insFH 510) 601 kA27_601) := (by kernel_rfl : (_ : Bool) = true)
theorem mA27_1_ran : mA27_1.ran (fnext Tryz.prog gtabB (insFH 510) 602 kA27_602) := (by kernel_rfl : (_ : Bool) = true)
theorem mA27_3_ran : mA27_3.ran (fnext Tryz.prog gtabB (insFH 510) 604 kA27_604) := (by kernel_rfl : (_ : Bool) = true)
end Go.Proofs.YteljibbnpheekaaGreat
