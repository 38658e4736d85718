/-
  PolicyNone, run: whatever the step's numbers, it answers true.
-/
import Derived.Test.YteljibbnpheekaaGreatNa
import Derived.Test.YteljibbnpheekaaGreatNb
import Derived.Test.YteljibbnpheekaaGreatMaz
namespace Go.Proofs.YteljibbnpheekaaGreat
open Go Go.Ideal Go.Ideal.W Go.Proofs

noncomputable def gtabPN : GTab := (Tr.ofL (appR glPN (appR gl20 (appR gl21 (appR gl22 (appR gl23 (appR gl24 gl25))))))).get
theorem gtabPN_ok : GOk Tryz.prog gtabPN := .of (.app glPN_ok (.app gl20_ok (.app gl21_ok (.app gl22_ok (.app gl23_ok (.app gl24_ok gl25_ok))))))
/-- The step; its second number is a token. -/
abbrev stepT (a c d e f g h i j k l : Int) : Value := .agg #[.int .i64 a, .chan (some 0), .int .i64 c, .int .i64 d, .int .i64 e, .int .i64 f, .int .i64 g, .int .i64 h, .int .i64 i, .int .i64 j, .int .i64 k, .int .u64 l]
noncomputable def fwT : FW := ⟨1, .lf⟩
theorem simT : SimW fwT (tokens 1) := ⟨rfl, fun b fo h => by cases h⟩
set_option maxRecDepth 100000 in
theorem pn_ran (a c d e f g h i j k l : Int) : ((frun Tryz.prog gtabPN (yesF 11) 40).enter 5 #[stepT a c d e f g h i j k l] fwT).allB isTrueF = true := by kernel_rfl
set_option maxRecDepth 100000 in
theorem run5 (a c d e f g h i j k l : Int) : ((runH Tryz.prog (yesH 11) 40).enter 5 #[stepT a c d e f g h i j k l] (tokens 1)).all fun x => x.1 = .bool true := by
  have h1 := pn_ran a c d e f g h i j k l
  generalize 40 = m at h1 ⊢
  exact fast_all (P := Tryz.prog) (G := gtabPN) (FH := yesF 11) (H := yesH 11) (m := m) (f := 5) gtabPN_ok (yes_fh 11) simT h1
end Go.Proofs.YteljibbnpheekaaGreat
