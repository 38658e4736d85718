/-
  policyNone's closed facts.
-/
import Derived.Test.YteljibbnpheekaaGreatRows
import Derived.Test.YteljibbnpheekaaGreatEl
import Derived.Test.YteljibbnpheekaaGreatEe
import Derived.Test.YteljibbnpheekaaGreatEg
import Derived.Test.YteljibbnpheekaaGreatEh
import Derived.Test.YteljibbnpheekaaGreatEi
import Derived.Test.YteljibbnpheekaaGreatOa
import Derived.JoinedOf
import Derived.KernelRfl
namespace Go.Proofs.YteljibbnpheekaaGreat
open Go Go.Proofs
set_option maxRecDepth 100000
theorem and_t5 {a b : Bool} (h : a = true) (k : b = true) : (a && b) = true := by rw [h, k]; rfl
theorem c5_0 : Rows.policyNoneRow.wf (OpenSpec.ofChange Rows.policyNoneSpec) = true := by kernel_rfl
theorem c5_1 : laidOutB Tryz.prog = true := laidOut
theorem c5_2 : mapsRowed Tryz.prog = true := rowed
theorem c5_3 : Tryz.f5.params.all (Tryz.prog.readableRec ·) = true := by kernel_rfl
theorem c5_4 : namedTie Tryz.prog Rows.policyNoneRow.named Rows.policyNoneSpec.vars = true := by kernel_rfl
theorem c5_5 : (Rows.policyNoneRow.stops == []) = true := by kernel_rfl
theorem c5_6 : (Tryz.prog.stops == []) = true := by kernel_rfl
theorem c5_7 : (Rows.policyNoneRow.knobs == []) = true := by kernel_rfl
theorem c5_8 : (Tryz.prog.stopKnobs == []) = true := by kernel_rfl
theorem c5_9 : (Rows.policyNoneRow.inPlace == Tryz.prog.inPlace 5) = true := by
  unfold Program.inPlace
  rw [closure5]
  kernel_rfl
theorem c5_10 : (Rows.policyNoneRow.unfollowed == Tryz.prog.unfollowed 5) = true := by
  unfold Program.unfollowed
  rw [closure5]
  kernel_rfl
theorem c5_11 : (Rows.policyNoneRow.recurses == Tryz.prog.recurses 5) = true := by
  unfold Program.recurses
  unfold Program.unfollowed
  rw [closure5]
  kernel_rfl
theorem c5_12 : (Rows.policyNoneRow.named == Tryz.prog.varsNamed 5) = true := by
  unfold Program.varsNamed
  rw [closure5]
  kernel_rfl
theorem c5_13 : (Rows.policyNoneRow.maps == (Tryz.f5.params.toList ++ Rows.policyNoneSpec.plain.varTypes Tryz.prog).any (Tryz.prog.mapsRec ·)) = true := by kernel_rfl
theorem c5_14 : (Rows.policyNoneRow.ifaces == (Tryz.f5.params.toList ++ Rows.policyNoneSpec.plain.varTypes Tryz.prog).any (Tryz.prog.ifacesRec ·)) = true := by kernel_rfl
theorem c5_15 : (Rows.policyNoneRow.mapsOut == Tryz.prog.mapsAmong Tryz.f5.resultTypes.toList) = true := by kernel_rfl
theorem c5_16 : (Rows.policyNoneRow.loops == (Tryz.f5.params.toList ++ Rows.policyNoneSpec.plain.varTypes Tryz.prog).any (Tryz.prog.loopsFrom ·)) = true := by kernel_rfl
theorem c5_17 : (Rows.policyNoneRow.wideKeys == (Tryz.f5.params.toList ++ Rows.policyNoneSpec.plain.varTypes Tryz.prog ++ Tryz.f5.resultTypes.toList).any (Tryz.prog.wideKeysFrom ·)) = true := by kernel_rfl
theorem c5_18 : Rows.policyNoneSpec.vars.all (Tryz.prog.varReadable ·) = true := by kernel_rfl
theorem c5_19 : Tryz.f5.resultTypes.all (fun t => Tryz.prog.readableRec t && decide (t < Tryz.prog.types.size)) = true := by kernel_rfl
theorem c5_20 : (Rows.policyNoneRow.ifacesOut == Tryz.f5.resultTypes.toList.any (Tryz.prog.ifacesRec ·)) = true := by kernel_rfl
theorem c5_21 : (Rows.policyNoneRow.loopsOut == Tryz.f5.resultTypes.toList.any (Tryz.prog.loopsFrom ·)) = true := by kernel_rfl
theorem c5_22 : (Rows.policyNoneRow.plainKeys == Tryz.prog.plainKeys) = true := by rw [keysK]; rfl
theorem c5_23 : Rows.policyNoneRow.shortTexts.isNone = true := by kernel_rfl
theorem c5_24 : Tryz.prog.stopsHeard = true := heard
theorem c5_25 : Tryz.prog.mayEnter = true := entersK
theorem c5_26 : (Rows.policyNoneRow.lifted == Tryz.prog.liftsFinal) = true := by rw [liftsK]; rfl
theorem c5_27 : (Tryz.prog.make == some Rows.policyNoneRow.make) = true := by kernel_rfl
theorem c5_28 : (Rows.policyNoneRow.kinds == (if Rows.policyNoneRow.domain.isEmpty then [] else Tryz.f5.params.toList.map fun t => match Tryz.prog.underlying t with | some (.int k) => some k | _ => none)) = true := by kernel_rfl
theorem c5_29 : (Rows.policyNoneRow.pinned == Rows.policyNoneRow.pinnedBy) = true := by kernel_rfl
theorem c5_30 : (Rows.policyNoneRow.veiled == (Tryz.f5.params.toList ++ Rows.policyNoneSpec.plain.varTypes Tryz.prog ++ Tryz.f5.resultTypes.toList).any (Tryz.prog.veiledRec ·)) = true := by kernel_rfl
theorem c5_31 : Rows.policyNoneRow.veiledFits Tryz.prog Tryz.f5.params.toList (Tryz.f5.params.toList ++ Rows.policyNoneSpec.plain.varTypes Tryz.prog ++ Tryz.f5.resultTypes.toList) = true := by kernel_rfl
theorem facts5 : joinedFacts Tryz.prog 5 Tryz.f5 Rows.policyNoneSpec Rows.policyNoneRow = true := (and_t5 (and_t5 (and_t5 (and_t5 (and_t5 (and_t5 (and_t5 (and_t5 (and_t5 (and_t5 (and_t5 (and_t5 (and_t5 (and_t5 (and_t5 (and_t5 (and_t5 (and_t5 (and_t5 (and_t5 (and_t5 (and_t5 (and_t5 (and_t5 (and_t5 (and_t5 (and_t5 (and_t5 (and_t5 (and_t5 (and_t5 c5_0 c5_1) c5_2) c5_3) c5_4) c5_5) c5_6) c5_7) c5_8) c5_9) c5_10) c5_11) c5_12) c5_13) c5_14) c5_15) c5_16) c5_17) c5_18) c5_19) c5_20) c5_21) c5_22) c5_23) c5_24) c5_25) c5_26) c5_27) c5_28) c5_29) c5_30) c5_31)
end Go.Proofs.YteljibbnpheekaaGreat
