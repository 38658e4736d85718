/-
  What must come at any rate, of erase: it comes.
-/
import Derived.Test.YteljibbnpheekaaGreatHb
import Derived.Test.YteljibbnpheekaaGreatHc
import Derived.KernelRfl
namespace Go.Proofs.YteljibbnpheekaaGreat
open Go Go.Ideal Go.Ideal.W Go.Proofs

noncomputable def k0 : FKont := recall [mB] (frun Tryz.prog gtab noH 600)
noncomputable def k1 : FKont := recall [mA] (fnext Tryz.prog gtab noH 600 k0)
noncomputable def k3 : FKont := fnext Tryz.prog gtab noH 602 (fnext Tryz.prog gtab noH 601 k1)
theorem k3_ok : KOk k3 (runH Tryz.prog (fun _ _ _ => none) 603) := by
  have h0 : KOk k0 (runH Tryz.prog (fun _ _ _ => none) 600) := recall_ok (frun_ok gtab_ok noAns 600) (frun_ok gtab_ok noAns 600) (fun m hm => by rw [List.mem_singleton.1 hm]; exact mB_ran)
  have h1 : KOk k1 (runH Tryz.prog (fun _ _ _ => none) 601) := recall_ok (frun_ok gtab_ok noAns 601) (fnext_ok gtab_ok noAns h0) (fun m hm => by rw [List.mem_singleton.1 hm]; exact mA_ran)
  exact fnext_ok gtab_ok noAns (fnext_ok gtab_ok noAns h1)
theorem awake_ran : (k3.enter 54 #[] fw0).allB isTrueF = true := by kernel_rfl
theorem awake29_calls (w : World) : Calls Tryz.prog 54 #[] w fun e w' => e = .returned (.bool true) ∧ RowKit.Below w.heap.size w w' :=
  calls_K (by kernel_rfl) (LaidH.none _) k3_ok awake_ran w
end Go.Proofs.YteljibbnpheekaaGreat
