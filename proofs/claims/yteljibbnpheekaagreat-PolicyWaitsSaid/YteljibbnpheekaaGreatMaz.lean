/-
  A closed run, out of its calls.
-/
import Derived.Test.YteljibbnpheekaaGreatMa0
import Derived.Test.YteljibbnpheekaaGreatMa1
import Derived.Test.YteljibbnpheekaaGreatMa2
import Derived.Test.YteljibbnpheekaaGreatMa3
import Derived.KernelRfl
namespace Go.Proofs.YteljibbnpheekaaGreat
open Go Go.Ideal Go.Ideal.W Go.Proofs

theorem kA27_600_ok : KOk kA27_600 (runH Tryz.prog (insH 510) 600) := recall_ok (frun_ok gtabB_ok (ins_fh 510) 600) (frun_ok gtabB_ok (ins_fh 510) 600) (fun m hm => by rw [List.mem_singleton.1 hm]; exact mA27_9_ran)
theorem kA27_601_ok : KOk kA27_601 (runH Tryz.prog (insH 510) 601) := recall_ok (fnext_ok gtabB_ok (ins_fh 510) kA27_600_ok) (fnext_ok gtabB_ok (ins_fh 510) kA27_600_ok) (fun m hm => by rw [List.mem_singleton.1 hm]; exact mA27_2_ran)
theorem kA27_602_ok : KOk kA27_602 (runH Tryz.prog (insH 510) 602) := recall_ok (fnext_ok gtabB_ok (ins_fh 510) kA27_601_ok) (fnext_ok gtabB_ok (ins_fh 510) kA27_601_ok) (fun m hm => by
  simp only [List.mem_cons, List.not_mem_nil, or_false] at hm
  rcases hm with rfl | rfl
  · exact mA27_6_ran
  · exact mA27_7_ran)
theorem kA27_603_ok : KOk kA27_603 (runH Tryz.prog (insH 510) 603) := recall_ok (fnext_ok gtabB_ok (ins_fh 510) kA27_602_ok) (fnext_ok gtabB_ok (ins_fh 510) kA27_602_ok) (fun m hm => by
  simp only [List.mem_cons, List.not_mem_nil, or_false] at hm
  rcases hm with rfl | rfl | rfl
  · exact mA27_1_ran
  · exact mA27_8_ran
  · exact mA27_10_ran)
theorem kA27_604_ok : KOk kA27_604 (runH Tryz.prog (insH 510) 604) := recall_ok (fnext_ok gtabB_ok (ins_fh 510) kA27_603_ok) (fnext_ok gtabB_ok (ins_fh 510) kA27_603_ok) (fun m hm => by rw [List.mem_singleton.1 hm]; exact mA27_4_ran)
theorem kA27_605_ok : KOk kA27_605 (runH Tryz.prog (insH 510) 605) := recall_ok (fnext_ok gtabB_ok (ins_fh 510) kA27_604_ok) (fnext_ok gtabB_ok (ins_fh 510) kA27_604_ok) (fun m hm => by
  simp only [List.mem_cons, List.not_mem_nil, or_false] at hm
  rcases hm with rfl | rfl | rfl | rfl
  · exact mA27_0_ran
  · exact mA27_3_ran
  · exact mA27_5_ran
  · exact mA27_11_ran)
theorem kA27_606_ok : KOk kA27_606 (runH Tryz.prog (insH 510) 606) := (fnext_ok gtabB_ok (ins_fh 510) kA27_605_ok)
theorem rA27_ran : (kA27_606.enter 11 #[] fw0).allB isTrueF = true := by kernel_rfl
theorem rA27_calls (w : World) : Calls Tryz.prog 11 #[] w fun e w' => e = .returned (.bool true) ∧ RowKit.Below w.heap.size w w' :=
  calls_K (by kernel_rfl) ins_laid kA27_606_ok rA27_ran w
end Go.Proofs.YteljibbnpheekaaGreat
