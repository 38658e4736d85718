/-
  Calls that are answered once: they were run.
-/
import Derived.Test.YteljibbnpheekaaGreatMad
import Derived.KernelRfl
namespace Go.Proofs.YteljibbnpheekaaGreat
open Go Go.Ideal Go.Ideal.W Go.Proofs

theorem mA27_8_ran : mA27_8.ran (fnext Tryz.prog gtabB (insFH 510) 602 kA27_602) := (by kernel_rfl : (_ : Bool) = true)
theorem mA27_5_ran : mA27_5.ran (fnext Tryz.prog gtabB (insFH 510) 604 kA27_604) := (by kernel_rfl : (_ : Bool) = true)
theorem mA27_11_ran : mA27_11.ran (fnext Tryz.prog gtabB (insFH 510) 604 kA27_604) := (by kernel_rfl : (_ : Bool) = true)
end Go.Proofs.YteljibbnpheekaaGreat
