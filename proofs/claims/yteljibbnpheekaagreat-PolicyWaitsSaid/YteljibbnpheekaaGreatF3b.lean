/-
  policyWaits's closed facts.
-/
import Derived.Test.YteljibbnpheekaaGreatRows
import Derived.Test.YteljibbnpheekaaGreatEl
import Derived.Test.YteljibbnpheekaaGreatEe
import Derived.Test.YteljibbnpheekaaGreatEg
import Derived.Test.YteljibbnpheekaaGreatEh
import Derived.Test.YteljibbnpheekaaGreatEi
import Derived.Test.YteljibbnpheekaaGreatF3a
import Derived.JoinedOf
import Derived.KernelRfl
namespace Go.Proofs.YteljibbnpheekaaGreat
open Go Go.Proofs
set_option maxRecDepth 100000
theorem and_t3 {a b : Bool} (h : a = true) (k : b = true) : (a && b) = true := by rw [h, k]; rfl
theorem c3_0 : Rows.policyWaitsRow.wf (OpenSpec.ofChange Rows.policyWaitsSpec) = true := by kernel_rfl
theorem c3_1 : laidOutB Tryz.prog = true := laidOut
theorem c3_2 : mapsRowed Tryz.prog = true := rowed
theorem c3_3 : Tryz.f3.params.all (Tryz.prog.readableRec ·) = true := by kernel_rfl
theorem c3_4 : namedTie Tryz.prog Rows.policyWaitsRow.named Rows.policyWaitsSpec.vars = true := by kernel_rfl
theorem c3_5 : (Rows.policyWaitsRow.stops == []) = true := by kernel_rfl
theorem c3_6 : (Tryz.prog.stops == []) = true := by kernel_rfl
theorem c3_7 : (Rows.policyWaitsRow.knobs == []) = true := by kernel_rfl
theorem c3_8 : (Tryz.prog.stopKnobs == []) = true := by kernel_rfl
theorem c3_9 : (Rows.policyWaitsRow.inPlace == Tryz.prog.inPlace 3) = true := by
  unfold Program.inPlace
  rw [closure3]
  kernel_rfl
theorem c3_10 : (Rows.policyWaitsRow.unfollowed == Tryz.prog.unfollowed 3) = true := by
  unfold Program.unfollowed
  rw [closure3]
  kernel_rfl
theorem c3_11 : (Rows.policyWaitsRow.recurses == Tryz.prog.recurses 3) = true := by
  unfold Program.recurses
  unfold Program.unfollowed
  rw [closure3]
  kernel_rfl
theorem c3_12 : (Rows.policyWaitsRow.named == Tryz.prog.varsNamed 3) = true := by
  unfold Program.varsNamed
  rw [closure3]
  kernel_rfl
theorem c3_13 : (Rows.policyWaitsRow.maps == (Tryz.f3.params.toList ++ Rows.policyWaitsSpec.plain.varTypes Tryz.prog).any (Tryz.prog.mapsRec ·)) = true := by kernel_rfl
theorem c3_14 : (Rows.policyWaitsRow.ifaces == (Tryz.f3.params.toList ++ Rows.policyWaitsSpec.plain.varTypes Tryz.prog).any (Tryz.prog.ifacesRec ·)) = true := by kernel_rfl
theorem c3_15 : (Rows.policyWaitsRow.mapsOut == Tryz.prog.mapsAmong Tryz.f3.resultTypes.toList) = true := by kernel_rfl
theorem c3_16 : (Rows.policyWaitsRow.loops == (Tryz.f3.params.toList ++ Rows.policyWaitsSpec.plain.varTypes Tryz.prog).any (Tryz.prog.loopsFrom ·)) = true := by kernel_rfl
theorem c3_17 : (Rows.policyWaitsRow.wideKeys == (Tryz.f3.params.toList ++ Rows.policyWaitsSpec.plain.varTypes Tryz.prog ++ Tryz.f3.resultTypes.toList).any (Tryz.prog.wideKeysFrom ·)) = true := by kernel_rfl
theorem c3_18 : Rows.policyWaitsSpec.vars.all (Tryz.prog.varReadable ·) = true := by kernel_rfl
theorem c3_19 : Tryz.f3.resultTypes.all (fun t => Tryz.prog.readableRec t && decide (t < Tryz.prog.types.size)) = true := by kernel_rfl
theorem c3_20 : (Rows.policyWaitsRow.ifacesOut == Tryz.f3.resultTypes.toList.any (Tryz.prog.ifacesRec ·)) = true := by kernel_rfl
theorem c3_21 : (Rows.policyWaitsRow.loopsOut == Tryz.f3.resultTypes.toList.any (Tryz.prog.loopsFrom ·)) = true := by kernel_rfl
theorem c3_22 : (Rows.policyWaitsRow.plainKeys == Tryz.prog.plainKeys) = true := by rw [keysK]; rfl
theorem c3_23 : Rows.policyWaitsRow.shortTexts.isNone = true := by kernel_rfl
theorem c3_24 : Tryz.prog.stopsHeard = true := heard
theorem c3_25 : Tryz.prog.mayEnter = true := entersK
theorem c3_26 : (Rows.policyWaitsRow.lifted == Tryz.prog.liftsFinal) = true := by rw [liftsK]; rfl
theorem c3_27 : (Tryz.prog.make == some Rows.policyWaitsRow.make) = true := by kernel_rfl
theorem c3_28 : (Rows.policyWaitsRow.kinds == (if Rows.policyWaitsRow.domain.isEmpty then [] else Tryz.f3.params.toList.map fun t => match Tryz.prog.underlying t with | some (.int k) => some k | _ => none)) = true := by kernel_rfl
theorem c3_29 : (Rows.policyWaitsRow.pinned == Rows.policyWaitsRow.pinnedBy) = true := by kernel_rfl
theorem c3_30 : (Rows.policyWaitsRow.veiled == (Tryz.f3.params.toList ++ Rows.policyWaitsSpec.plain.varTypes Tryz.prog ++ Tryz.f3.resultTypes.toList).any (Tryz.prog.veiledRec ·)) = true := by kernel_rfl
theorem c3_31 : Rows.policyWaitsRow.veiledFits Tryz.prog Tryz.f3.params.toList (Tryz.f3.params.toList ++ Rows.policyWaitsSpec.plain.varTypes Tryz.prog ++ Tryz.f3.resultTypes.toList) = true := by kernel_rfl
theorem facts3 : joinedFacts Tryz.prog 3 Tryz.f3 Rows.policyWaitsSpec Rows.policyWaitsRow = true := (and_t3 (and_t3 (and_t3 (and_t3 (and_t3 (and_t3 (and_t3 (and_t3 (and_t3 (and_t3 (and_t3 (and_t3 (and_t3 (and_t3 (and_t3 (and_t3 (and_t3 (and_t3 (and_t3 (and_t3 (and_t3 (and_t3 (and_t3 (and_t3 (and_t3 (and_t3 (and_t3 (and_t3 (and_t3 (and_t3 (and_t3 c3_0 c3_1) c3_2) c3_3) c3_4) c3_5) c3_6) c3_7) c3_8) c3_9) c3_10) c3_11) c3_12) c3_13) c3_14) c3_15) c3_16) c3_17) c3_18) c3_19) c3_20) c3_21) c3_22) c3_23) c3_24) c3_25) c3_26) c3_27) c3_28) c3_29) c3_30) c3_31)
end Go.Proofs.YteljibbnpheekaaGreat
