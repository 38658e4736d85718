/-
  The words of the functions that awake29 calls; no answers.
-/
import Derived.Test.YteljibbnpheekaaGreatFs
import Derived.Test.YteljibbnpheekaaGreatGa
import Derived.Test.YteljibbnpheekaaGreatGb
import Derived.Test.YteljibbnpheekaaGreatGc
import Derived.Test.YteljibbnpheekaaGreatGd
import Derived.Test.YteljibbnpheekaaGreatGe
import Derived.KernelRfl
namespace Go.Proofs.YteljibbnpheekaaGreat
open Go Go.Ideal Go.Ideal.W Go.Proofs

noncomputable def gtab : GTab := (Tr.ofL (appR gl0 (appR gl1 (appR gl2 (appR gl3 gl4))))).get
theorem gtab_ok : GOk Tryz.prog gtab := .of (.app gl0_ok (.app gl1_ok (.app gl2_ok (.app gl3_ok gl4_ok))))
noncomputable def noH : FAns := fun _ _ _ => none
end Go.Proofs.YteljibbnpheekaaGreat
