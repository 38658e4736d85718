/-
  The words of the functions that awake27 calls.
-/
import Derived.Test.YteljibbnpheekaaGreatFs
import Derived.Test.YteljibbnpheekaaGreatTc
import Derived.Test.YteljibbnpheekaaGreatGk
import Derived.Test.YteljibbnpheekaaGreatGl
import Derived.Test.YteljibbnpheekaaGreatGm
import Derived.Test.YteljibbnpheekaaGreatGn
import Derived.Test.YteljibbnpheekaaGreatGo
import Derived.Test.YteljibbnpheekaaGreatGp
import Derived.KernelRfl
namespace Go.Proofs.YteljibbnpheekaaGreat
open Go Go.Ideal Go.Ideal.W Go.Proofs

noncomputable def gtabB : GTab := (Tr.ofL (appR gl20 (appR gl21 (appR gl22 (appR gl23 (appR gl24 gl25)))))).get
theorem gtabB_ok : GOk Tryz.prog gtabB := .of (.app gl20_ok (.app gl21_ok (.app gl22_ok (.app gl23_ok (.app gl24_ok gl25_ok)))))
end Go.Proofs.YteljibbnpheekaaGreat
