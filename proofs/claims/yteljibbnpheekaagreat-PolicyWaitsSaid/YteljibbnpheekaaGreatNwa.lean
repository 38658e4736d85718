/-
  Functions in small words (printed by mk_g.py).
-/
import Derived.Test.YteljibbnpheekaaGreatFg
import Derived.Test.YteljibbnpheekaaGreatProg
import Derived.KernelRfl
namespace Go.Proofs.YteljibbnpheekaaGreat
open Go Go.Ideal Go.Ideal.W Go.Proofs

def pw13 : GFn := ⟨21, [⟨4, none⟩], sq (og [mv 4 (i 0)]) (sq (sq (.ops [gr [mv 5 (t 0), e 6 (.call 64 #[t 5]), mv 7 (t 6)], .grp (some ((some 7), false)) [mv 8 (t 1), e 9 (.bin .lss 3 (t 8) (i 0))], gr [e 10 (.pick (t 7) (.const (.bool true)) (t 9)), mv 11 (t 10)], .grp (some ((some 11), false)) [mv 12 (t 1), e 13 (.bin .gtr 3 (t 12) (i 8))], gr [e 14 (.pick (t 11) (.const (.bool true)) (t 13))]]) (.cond (t 14) (sq (og [mv 4 (i 0)]) .ret) .skip)) (sq (og [mv 15 (t 0), mv 16 (t 1), nn 17 (t 15), fa 18 7 (t 17), e 19 (.raw (.indexAddr 112 (t 18) (t 16)) 0), ld 20 (t 19), mv 4 (t 20)]) .ret))⟩
theorem wl13 : lowG Tryz.prog 13 = some pw13 := by kernel_rfl
noncomputable def glPW0 : List (Nat × GFn) := [(13, pw13)]
theorem glPW0_ok : LowOk Tryz.prog glPW0 := .cons wl13 <| .nil
end Go.Proofs.YteljibbnpheekaaGreat
