/-
  eraseErases's closed facts.
-/
import Derived.Test.YteljibbnpheekaaGreatRows
import Derived.Test.YteljibbnpheekaaGreatEe
import Derived.Test.YteljibbnpheekaaGreatEg
import Derived.Test.YteljibbnpheekaaGreatEh
import Derived.Test.YteljibbnpheekaaGreatEi
import Derived.Test.YteljibbnpheekaaGreatAa
import Derived.JoinedOf
import Derived.KernelRfl
namespace Go.Proofs.YteljibbnpheekaaGreat
open Go Go.Proofs
set_option maxRecDepth 100000
theorem and_t6 {a b : Bool} (h : a = true) (k : b = true) : (a && b) = true := by rw [h, k]; rfl
theorem c6_0 : Rows.eraseErasesRow.wf (OpenSpec.ofChange Rows.eraseErasesSpec) = true := by kernel_rfl
theorem c6_1 : laidOutB Tryz.prog = true := laidOut
theorem c6_2 : mapsRowed Tryz.prog = true := rowed
theorem c6_3 : Tryz.f6.params.all (Tryz.prog.readableRec ·) = true := by kernel_rfl
theorem c6_4 : namedTie Tryz.prog Rows.eraseErasesRow.named Rows.eraseErasesSpec.vars = true := by kernel_rfl
theorem c6_5 : (Rows.eraseErasesRow.stops == []) = true := by kernel_rfl
theorem c6_6 : (Tryz.prog.stops == []) = true := by kernel_rfl
theorem c6_7 : (Rows.eraseErasesRow.knobs == []) = true := by kernel_rfl
theorem c6_8 : (Tryz.prog.stopKnobs == []) = true := by kernel_rfl
theorem c6_9 : (Rows.eraseErasesRow.inPlace == Tryz.prog.inPlace 6) = true := by
  unfold Program.inPlace
  rw [closure6]
  kernel_rfl
theorem c6_10 : (Rows.eraseErasesRow.unfollowed == Tryz.prog.unfollowed 6) = true := by
  unfold Program.unfollowed
  rw [closure6]
  kernel_rfl
theorem c6_11 : (Rows.eraseErasesRow.recurses == Tryz.prog.recurses 6) = true := by
  unfold Program.recurses
  unfold Program.unfollowed
  rw [closure6]
  kernel_rfl
theorem c6_12 : (Rows.eraseErasesRow.named == Tryz.prog.varsNamed 6) = true := by
  unfold Program.varsNamed
  rw [closure6]
  kernel_rfl
theorem c6_13 : (Rows.eraseErasesRow.maps == (Tryz.f6.params.toList ++ Rows.eraseErasesSpec.plain.varTypes Tryz.prog).any (Tryz.prog.mapsRec ·)) = true := by kernel_rfl
theorem c6_14 : (Rows.eraseErasesRow.ifaces == (Tryz.f6.params.toList ++ Rows.eraseErasesSpec.plain.varTypes Tryz.prog).any (Tryz.prog.ifacesRec ·)) = true := by kernel_rfl
theorem c6_15 : (Rows.eraseErasesRow.mapsOut == Tryz.prog.mapsAmong Tryz.f6.resultTypes.toList) = true := by kernel_rfl
theorem c6_16 : (Rows.eraseErasesRow.loops == (Tryz.f6.params.toList ++ Rows.eraseErasesSpec.plain.varTypes Tryz.prog).any (Tryz.prog.loopsFrom ·)) = true := by kernel_rfl
theorem c6_17 : (Rows.eraseErasesRow.wideKeys == (Tryz.f6.params.toList ++ Rows.eraseErasesSpec.plain.varTypes Tryz.prog ++ Tryz.f6.resultTypes.toList).any (Tryz.prog.wideKeysFrom ·)) = true := by kernel_rfl
theorem c6_18 : Rows.eraseErasesSpec.vars.all (Tryz.prog.varReadable ·) = true := by kernel_rfl
theorem c6_19 : Tryz.f6.resultTypes.all (fun t => Tryz.prog.readableRec t && decide (t < Tryz.prog.types.size)) = true := by kernel_rfl
theorem c6_20 : (Rows.eraseErasesRow.ifacesOut == Tryz.f6.resultTypes.toList.any (Tryz.prog.ifacesRec ·)) = true := by kernel_rfl
theorem c6_21 : (Rows.eraseErasesRow.loopsOut == Tryz.f6.resultTypes.toList.any (Tryz.prog.loopsFrom ·)) = true := by kernel_rfl
theorem c6_22 : (Rows.eraseErasesRow.plainKeys == Tryz.prog.plainKeys) = true := by rw [keysK]; rfl
theorem c6_23 : Rows.eraseErasesRow.shortTexts.isNone = true := by kernel_rfl
theorem c6_24 : Tryz.prog.stopsHeard = true := heard
theorem c6_25 : Tryz.prog.mayEnter = true := entersK
theorem c6_26 : (Rows.eraseErasesRow.lifted == Tryz.prog.liftsFinal) = true := by rw [liftsK]; rfl
theorem c6_27 : (Tryz.prog.make == some Rows.eraseErasesRow.make) = true := by kernel_rfl
theorem c6_28 : (Rows.eraseErasesRow.kinds == (if Rows.eraseErasesRow.domain.isEmpty then [] else Tryz.f6.params.toList.map fun t => match Tryz.prog.underlying t with | some (.int k) => some k | _ => none)) = true := by kernel_rfl
theorem c6_29 : (Rows.eraseErasesRow.pinned == Rows.eraseErasesRow.pinnedBy) = true := by kernel_rfl
theorem c6_30 : (Rows.eraseErasesRow.veiled == (Tryz.f6.params.toList ++ Rows.eraseErasesSpec.plain.varTypes Tryz.prog ++ Tryz.f6.resultTypes.toList).any (Tryz.prog.veiledRec ·)) = true := by kernel_rfl
theorem c6_31 : Rows.eraseErasesRow.veiledFits Tryz.prog Tryz.f6.params.toList (Tryz.f6.params.toList ++ Rows.eraseErasesSpec.plain.varTypes Tryz.prog ++ Tryz.f6.resultTypes.toList) = true := by kernel_rfl
theorem facts6 : joinedFacts Tryz.prog 6 Tryz.f6 Rows.eraseErasesSpec Rows.eraseErasesRow = true := (and_t6 (and_t6 (and_t6 (and_t6 (and_t6 (and_t6 (and_t6 (and_t6 (and_t6 (and_t6 (and_t6 (and_t6 (and_t6 (and_t6 (and_t6 (and_t6 (and_t6 (and_t6 (and_t6 (and_t6 (and_t6 (and_t6 (and_t6 (and_t6 (and_t6 (and_t6 (and_t6 (and_t6 (and_t6 (and_t6 (and_t6 c6_0 c6_1) c6_2) c6_3) c6_4) c6_5) c6_6) c6_7) c6_8) c6_9) c6_10) c6_11) c6_12) c6_13) c6_14) c6_15) c6_16) c6_17) c6_18) c6_19) c6_20) c6_21) c6_22) c6_23) c6_24) c6_25) c6_26) c6_27) c6_28) c6_29) c6_30) c6_31)
end Go.Proofs.YteljibbnpheekaaGreat
