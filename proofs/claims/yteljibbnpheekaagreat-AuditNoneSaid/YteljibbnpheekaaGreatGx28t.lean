/-
  The words of the functions of a closed run (printed by closed.sh).
-/
import Derived.Test.YteljibbnpheekaaGreatFs
import Derived.Test.YteljibbnpheekaaGreatTc
import Derived.Test.YteljibbnpheekaaGreatGx28b
import Derived.Test.YteljibbnpheekaaGreatGx28d
import Derived.Test.YteljibbnpheekaaGreatGx28f
import Derived.KernelRfl
namespace Go.Proofs.YteljibbnpheekaaGreat
open Go Go.Ideal Go.Ideal.W Go.Proofs
noncomputable def gtabx28 : GTab := (Tr.ofL (appR glx28_0 (appR glx28_1 (appR glx28_2 (appR glx28_3 (appR glx28_4 glx28_5)))))).get
theorem gtabx28_ok : GOk Tryz.prog gtabx28 := .of (.app glx28_0_ok (.app glx28_1_ok (.app glx28_2_ok (.app glx28_3_ok (.app glx28_4_ok glx28_5_ok)))))
end Go.Proofs.YteljibbnpheekaaGreat
