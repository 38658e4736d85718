/-
  auditNone's closed facts.
-/
import Derived.Test.YteljibbnpheekaaGreatRows
import Derived.Test.YteljibbnpheekaaGreatEl
import Derived.Test.YteljibbnpheekaaGreatEe
import Derived.Test.YteljibbnpheekaaGreatEg
import Derived.Test.YteljibbnpheekaaGreatEh
import Derived.Test.YteljibbnpheekaaGreatEi
import Derived.Test.YteljibbnpheekaaGreatF9a
import Derived.JoinedOf
import Derived.KernelRfl
namespace Go.Proofs.YteljibbnpheekaaGreat
open Go Go.Proofs
set_option maxRecDepth 100000
theorem and_t9 {a b : Bool} (h : a = true) (k : b = true) : (a && b) = true := by rw [h, k]; rfl
theorem c9_0 : Rows.auditNoneRow.wf (OpenSpec.ofChange Rows.auditNoneSpec) = true := by kernel_rfl
theorem c9_1 : laidOutB Tryz.prog = true := laidOut
theorem c9_2 : mapsRowed Tryz.prog = true := rowed
theorem c9_3 : Tryz.f9.params.all (Tryz.prog.readableRec ·) = true := by kernel_rfl
theorem c9_4 : namedTie Tryz.prog Rows.auditNoneRow.named Rows.auditNoneSpec.vars = true := by kernel_rfl
theorem c9_5 : (Rows.auditNoneRow.stops == []) = true := by kernel_rfl
theorem c9_6 : (Tryz.prog.stops == []) = true := by kernel_rfl
theorem c9_7 : (Rows.auditNoneRow.knobs == []) = true := by kernel_rfl
theorem c9_8 : (Tryz.prog.stopKnobs == []) = true := by kernel_rfl
theorem c9_9 : (Rows.auditNoneRow.inPlace == Tryz.prog.inPlace 9) = true := by
  unfold Program.inPlace
  rw [closure9]
  kernel_rfl
theorem c9_10 : (Rows.auditNoneRow.unfollowed == Tryz.prog.unfollowed 9) = true := by
  unfold Program.unfollowed
  rw [closure9]
  kernel_rfl
theorem c9_11 : (Rows.auditNoneRow.recurses == Tryz.prog.recurses 9) = true := by
  unfold Program.recurses
  unfold Program.unfollowed
  rw [closure9]
  kernel_rfl
theorem c9_12 : (Rows.auditNoneRow.named == Tryz.prog.varsNamed 9) = true := by
  unfold Program.varsNamed
  rw [closure9]
  kernel_rfl
theorem c9_13 : (Rows.auditNoneRow.maps == (Tryz.f9.params.toList ++ Rows.auditNoneSpec.plain.varTypes Tryz.prog).any (Tryz.prog.mapsRec ·)) = true := by kernel_rfl
theorem c9_14 : (Rows.auditNoneRow.ifaces == (Tryz.f9.params.toList ++ Rows.auditNoneSpec.plain.varTypes Tryz.prog).any (Tryz.prog.ifacesRec ·)) = true := by kernel_rfl
theorem c9_15 : (Rows.auditNoneRow.mapsOut == Tryz.prog.mapsAmong Tryz.f9.resultTypes.toList) = true := by kernel_rfl
theorem c9_16 : (Rows.auditNoneRow.loops == (Tryz.f9.params.toList ++ Rows.auditNoneSpec.plain.varTypes Tryz.prog).any (Tryz.prog.loopsFrom ·)) = true := by kernel_rfl
theorem c9_17 : (Rows.auditNoneRow.wideKeys == (Tryz.f9.params.toList ++ Rows.auditNoneSpec.plain.varTypes Tryz.prog ++ Tryz.f9.resultTypes.toList).any (Tryz.prog.wideKeysFrom ·)) = true := by kernel_rfl
theorem c9_18 : Rows.auditNoneSpec.vars.all (Tryz.prog.varReadable ·) = true := by kernel_rfl
theorem c9_19 : Tryz.f9.resultTypes.all (fun t => Tryz.prog.readableRec t && decide (t < Tryz.prog.types.size)) = true := by kernel_rfl
theorem c9_20 : (Rows.auditNoneRow.ifacesOut == Tryz.f9.resultTypes.toList.any (Tryz.prog.ifacesRec ·)) = true := by kernel_rfl
theorem c9_21 : (Rows.auditNoneRow.loopsOut == Tryz.f9.resultTypes.toList.any (Tryz.prog.loopsFrom ·)) = true := by kernel_rfl
theorem c9_22 : (Rows.auditNoneRow.plainKeys == Tryz.prog.plainKeys) = true := by rw [keysK]; rfl
theorem c9_23 : Rows.auditNoneRow.shortTexts.isNone = true := by kernel_rfl
theorem c9_24 : Tryz.prog.stopsHeard = true := heard
theorem c9_25 : Tryz.prog.mayEnter = true := entersK
theorem c9_26 : (Rows.auditNoneRow.lifted == Tryz.prog.liftsFinal) = true := by rw [liftsK]; rfl
theorem c9_27 : (Tryz.prog.make == some Rows.auditNoneRow.make) = true := by kernel_rfl
theorem c9_28 : (Rows.auditNoneRow.kinds == (if Rows.auditNoneRow.domain.isEmpty then [] else Tryz.f9.params.toList.map fun t => match Tryz.prog.underlying t with | some (.int k) => some k | _ => none)) = true := by kernel_rfl
theorem c9_29 : (Rows.auditNoneRow.pinned == Rows.auditNoneRow.pinnedBy) = true := by kernel_rfl
theorem c9_30 : (Rows.auditNoneRow.veiled == (Tryz.f9.params.toList ++ Rows.auditNoneSpec.plain.varTypes Tryz.prog ++ Tryz.f9.resultTypes.toList).any (Tryz.prog.veiledRec ·)) = true := by kernel_rfl
theorem c9_31 : Rows.auditNoneRow.veiledFits Tryz.prog Tryz.f9.params.toList (Tryz.f9.params.toList ++ Rows.auditNoneSpec.plain.varTypes Tryz.prog ++ Tryz.f9.resultTypes.toList) = true := by kernel_rfl
theorem facts9 : joinedFacts Tryz.prog 9 Tryz.f9 Rows.auditNoneSpec Rows.auditNoneRow = true := (and_t9 (and_t9 (and_t9 (and_t9 (and_t9 (and_t9 (and_t9 (and_t9 (and_t9 (and_t9 (and_t9 (and_t9 (and_t9 (and_t9 (and_t9 (and_t9 (and_t9 (and_t9 (and_t9 (and_t9 (and_t9 (and_t9 (and_t9 (and_t9 (and_t9 (and_t9 (and_t9 (and_t9 (and_t9 (and_t9 (and_t9 c9_0 c9_1) c9_2) c9_3) c9_4) c9_5) c9_6) c9_7) c9_8) c9_9) c9_10) c9_11) c9_12) c9_13) c9_14) c9_15) c9_16) c9_17) c9_18) c9_19) c9_20) c9_21) c9_22) c9_23) c9_24) c9_25) c9_26) c9_27) c9_28) c9_29) c9_30) c9_31)
end Go.Proofs.YteljibbnpheekaaGreat
