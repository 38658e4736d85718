/-
  eraseJoins's closed facts.
-/
import Derived.Test.YteljibbnpheekaaGreatRows
import Derived.Test.YteljibbnpheekaaGreatEl
import Derived.Test.YteljibbnpheekaaGreatEe
import Derived.Test.YteljibbnpheekaaGreatEg
import Derived.Test.YteljibbnpheekaaGreatEh
import Derived.Test.YteljibbnpheekaaGreatEi
import Derived.Test.YteljibbnpheekaaGreatBa
import Derived.JoinedOf
import Derived.KernelRfl
namespace Go.Proofs.YteljibbnpheekaaGreat
open Go Go.Proofs
set_option maxRecDepth 100000
theorem and_t8 {a b : Bool} (h : a = true) (k : b = true) : (a && b) = true := by rw [h, k]; rfl
theorem c8_0 : Rows.eraseJoinsRow.wf (OpenSpec.ofChange Rows.eraseJoinsSpec) = true := by kernel_rfl
theorem c8_1 : laidOutB Tryz.prog = true := laidOut
theorem c8_2 : mapsRowed Tryz.prog = true := rowed
theorem c8_3 : Tryz.f8.params.all (Tryz.prog.readableRec ·) = true := by kernel_rfl
theorem c8_4 : namedTie Tryz.prog Rows.eraseJoinsRow.named Rows.eraseJoinsSpec.vars = true := by kernel_rfl
theorem c8_5 : (Rows.eraseJoinsRow.stops == []) = true := by kernel_rfl
theorem c8_6 : (Tryz.prog.stops == []) = true := by kernel_rfl
theorem c8_7 : (Rows.eraseJoinsRow.knobs == []) = true := by kernel_rfl
theorem c8_8 : (Tryz.prog.stopKnobs == []) = true := by kernel_rfl
theorem c8_9 : (Rows.eraseJoinsRow.inPlace == Tryz.prog.inPlace 8) = true := by
  unfold Program.inPlace
  rw [closure8]
  kernel_rfl
theorem c8_10 : (Rows.eraseJoinsRow.unfollowed == Tryz.prog.unfollowed 8) = true := by
  unfold Program.unfollowed
  rw [closure8]
  kernel_rfl
theorem c8_11 : (Rows.eraseJoinsRow.recurses == Tryz.prog.recurses 8) = true := by
  unfold Program.recurses
  unfold Program.unfollowed
  rw [closure8]
  kernel_rfl
theorem c8_12 : (Rows.eraseJoinsRow.named == Tryz.prog.varsNamed 8) = true := by
  unfold Program.varsNamed
  rw [closure8]
  kernel_rfl
theorem c8_13 : (Rows.eraseJoinsRow.maps == (Tryz.f8.params.toList ++ Rows.eraseJoinsSpec.plain.varTypes Tryz.prog).any (Tryz.prog.mapsRec ·)) = true := by kernel_rfl
theorem c8_14 : (Rows.eraseJoinsRow.ifaces == (Tryz.f8.params.toList ++ Rows.eraseJoinsSpec.plain.varTypes Tryz.prog).any (Tryz.prog.ifacesRec ·)) = true := by kernel_rfl
theorem c8_15 : (Rows.eraseJoinsRow.mapsOut == Tryz.prog.mapsAmong Tryz.f8.resultTypes.toList) = true := by kernel_rfl
theorem c8_16 : (Rows.eraseJoinsRow.loops == (Tryz.f8.params.toList ++ Rows.eraseJoinsSpec.plain.varTypes Tryz.prog).any (Tryz.prog.loopsFrom ·)) = true := by kernel_rfl
theorem c8_17 : (Rows.eraseJoinsRow.wideKeys == (Tryz.f8.params.toList ++ Rows.eraseJoinsSpec.plain.varTypes Tryz.prog ++ Tryz.f8.resultTypes.toList).any (Tryz.prog.wideKeysFrom ·)) = true := by kernel_rfl
theorem c8_18 : Rows.eraseJoinsSpec.vars.all (Tryz.prog.varReadable ·) = true := by kernel_rfl
theorem c8_19 : Tryz.f8.resultTypes.all (fun t => Tryz.prog.readableRec t && decide (t < Tryz.prog.types.size)) = true := by kernel_rfl
theorem c8_20 : (Rows.eraseJoinsRow.ifacesOut == Tryz.f8.resultTypes.toList.any (Tryz.prog.ifacesRec ·)) = true := by kernel_rfl
theorem c8_21 : (Rows.eraseJoinsRow.loopsOut == Tryz.f8.resultTypes.toList.any (Tryz.prog.loopsFrom ·)) = true := by kernel_rfl
theorem c8_22 : (Rows.eraseJoinsRow.plainKeys == Tryz.prog.plainKeys) = true := by rw [keysK]; rfl
theorem c8_23 : Rows.eraseJoinsRow.shortTexts.isNone = true := by kernel_rfl
theorem c8_24 : Tryz.prog.stopsHeard = true := heard
theorem c8_25 : Tryz.prog.mayEnter = true := entersK
theorem c8_26 : (Rows.eraseJoinsRow.lifted == Tryz.prog.liftsFinal) = true := by rw [liftsK]; rfl
theorem c8_27 : (Tryz.prog.make == some Rows.eraseJoinsRow.make) = true := by kernel_rfl
theorem c8_28 : (Rows.eraseJoinsRow.kinds == (if Rows.eraseJoinsRow.domain.isEmpty then [] else Tryz.f8.params.toList.map fun t => match Tryz.prog.underlying t with | some (.int k) => some k | _ => none)) = true := by kernel_rfl
theorem c8_29 : (Rows.eraseJoinsRow.pinned == Rows.eraseJoinsRow.pinnedBy) = true := by kernel_rfl
theorem c8_30 : (Rows.eraseJoinsRow.veiled == (Tryz.f8.params.toList ++ Rows.eraseJoinsSpec.plain.varTypes Tryz.prog ++ Tryz.f8.resultTypes.toList).any (Tryz.prog.veiledRec ·)) = true := by kernel_rfl
theorem c8_31 : Rows.eraseJoinsRow.veiledFits Tryz.prog Tryz.f8.params.toList (Tryz.f8.params.toList ++ Rows.eraseJoinsSpec.plain.varTypes Tryz.prog ++ Tryz.f8.resultTypes.toList) = true := by kernel_rfl
theorem facts8 : joinedFacts Tryz.prog 8 Tryz.f8 Rows.eraseJoinsSpec Rows.eraseJoinsRow = true := (and_t8 (and_t8 (and_t8 (and_t8 (and_t8 (and_t8 (and_t8 (and_t8 (and_t8 (and_t8 (and_t8 (and_t8 (and_t8 (and_t8 (and_t8 (and_t8 (and_t8 (and_t8 (and_t8 (and_t8 (and_t8 (and_t8 (and_t8 (and_t8 (and_t8 (and_t8 (and_t8 (and_t8 (and_t8 (and_t8 (and_t8 c8_0 c8_1) c8_2) c8_3) c8_4) c8_5) c8_6) c8_7) c8_8) c8_9) c8_10) c8_11) c8_12) c8_13) c8_14) c8_15) c8_16) c8_17) c8_18) c8_19) c8_20) c8_21) c8_22) c8_23) c8_24) c8_25) c8_26) c8_27) c8_28) c8_29) c8_30) c8_31)
end Go.Proofs.YteljibbnpheekaaGreat
