/-
  A closed run, out of its calls.
-/
import Derived.Test.YteljibbnpheekaaGreatMx280
import Derived.Test.YteljibbnpheekaaGreatMx281
import Derived.Test.YteljibbnpheekaaGreatMx282
import Derived.Test.YteljibbnpheekaaGreatMx283
import Derived.KernelRfl
namespace Go.Proofs.YteljibbnpheekaaGreat
open Go Go.Ideal Go.Ideal.W Go.Proofs
theorem kx28_600_ok : KOk kx28_600 (runH Tryz.prog (insH 510) 600) := recall_ok (frun_ok gtabx28_ok (ins_fh 510) 600) (frun_ok gtabx28_ok (ins_fh 510) 600) (fun m hm => by rw [List.mem_singleton.1 hm]; exact mx28_1_ran)
theorem kx28_601_ok : KOk kx28_601 (runH Tryz.prog (insH 510) 601) := recall_ok (fnext_ok gtabx28_ok (ins_fh 510) kx28_600_ok) (fnext_ok gtabx28_ok (ins_fh 510) kx28_600_ok) (fun m hm => by
  simp only [List.mem_cons, List.not_mem_nil, or_false] at hm
  rcases hm with rfl | rfl | rfl
  · exact mx28_3_ran
  · exact mx28_7_ran
  · exact mx28_8_ran)
theorem kx28_602_ok : KOk kx28_602 (runH Tryz.prog (insH 510) 602) := recall_ok (fnext_ok gtabx28_ok (ins_fh 510) kx28_601_ok) (fnext_ok gtabx28_ok (ins_fh 510) kx28_601_ok) (fun m hm => by
  simp only [List.mem_cons, List.not_mem_nil, or_false] at hm
  rcases hm with rfl | rfl
  · exact mx28_0_ran
  · exact mx28_4_ran)
theorem kx28_603_ok : KOk kx28_603 (runH Tryz.prog (insH 510) 603) := recall_ok (fnext_ok gtabx28_ok (ins_fh 510) kx28_602_ok) (fnext_ok gtabx28_ok (ins_fh 510) kx28_602_ok) (fun m hm => by rw [List.mem_singleton.1 hm]; exact mx28_6_ran)
theorem kx28_604_ok : KOk kx28_604 (runH Tryz.prog (insH 510) 604) := recall_ok (fnext_ok gtabx28_ok (ins_fh 510) kx28_603_ok) (fnext_ok gtabx28_ok (ins_fh 510) kx28_603_ok) (fun m hm => by
  simp only [List.mem_cons, List.not_mem_nil, or_false] at hm
  rcases hm with rfl | rfl
  · exact mx28_2_ran
  · exact mx28_5_ran)
theorem kx28_605_ok : KOk kx28_605 (runH Tryz.prog (insH 510) 605) := (fnext_ok gtabx28_ok (ins_fh 510) kx28_604_ok)
theorem rx28_ran : (kx28_605.enter 59 #[] fw0).allB isTrueF = true := by kernel_rfl
theorem rx28_calls (w : World) : Calls Tryz.prog 59 #[] w fun e w' => e = .returned (.bool true) ∧ RowKit.Below w.heap.size w w' :=
  calls_K (by kernel_rfl) ins_laid kx28_605_ok rx28_ran w
end Go.Proofs.YteljibbnpheekaaGreat
