/-
  CpusFresh: whatever the arguments, the statement answers true, and they read behind the call as they read before. No condition.
-/
import Derived.Test.YtplcocifndpplaaCu
import Derived.Test.YtplcocifndpplaaCs
namespace Go.Proofs.Ytplcocifndpplaa
open Go Go.Ideal Go.ChangeShapes Go.WideShapes Go.ChangeAt Go.RowKit

set_option maxRecDepth 100000 in
theorem params9_ok : ∀ t ∈ Try.f9.params.toList, Try.prog.readableRec t = true ∧ t < Try.prog.types.size := by
  rw [Try.params9]
  intro t ht
  simp only [List.mem_cons, List.not_mem_nil, or_false] at ht
  subst ht
  exact ⟨by kernel_rfl, of_decide_eq_true (by kernel_rfl)⟩

set_option maxRecDepth 100000 in
theorem cpusFresh_lifted (os : Os) (started : os.Started) (H : Type) (enc : TypeId × Value → H) :
    ReturnsInHanded {} Try.checked os 9 .any (Rows.cpusFreshSpec.pre6 enc Try.prog Try.f9 Rows.cpusFreshRow.domain false) (Rows.cpusFreshSpec.post enc Try.prog Try.f9 false true false false) := by
  refine returnsInHanded_of_change (C := Try.checked) own started (by kernel_rfl) Try.func9
    (ChangeSpec.witness6 (enc := enc) (C := Try.checked) false ⟨#[], #[.slice none 0 0], []⟩ 8 (by kernel_rfl) (by kernel_rfl) (by kernel_rfl) (by kernel_rfl)) ?_
  intro W base args ds gs before hval0 hW _ _
  have hval : ∀ (j : Nat) t v, Try.f9.params[j]? = some t → args[j]? = some v → Value.okWide Try.prog W .any base t v := hval0
  have hW' : DataW.Whole enc Try.prog Try.f9.params.toList Rows.cpusFreshSpec.vars false W args.toList ds gs before := hW
  have hA := hW'
  obtain ⟨p, q, hA, _, _, _, _⟩ := hA
  rw [Try.params9] at hA hval
  obtain ⟨v, d, rfl, rfl, h1⟩ := trodAll_one hA
  obtain ⟨fuel, h1⟩ := h1
  have hs := actsC_ok (hval 0 56 v rfl rfl)
  rw [actsC_one hs] at h1
  obtain ⟨β, σ, vI, xs, hR, hv, hacts⟩ := actsC_start ⟨_, hs⟩ h1
  have ha : AR β #[vI] #[v] := LR.ar (l := [_]) (m := [_]) ⟨hv, trivial⟩
  exact calls_trueA (m := 20012) mixed sp5_ok laidOut params9_ok rfl Try.underlying4 rfl rfl hW' hR ha (enter_ok (m := 20011) low9 rfl (run9 (topC 20000 (by omega)) (by omega) hacts))

theorem cpusFresh_holds : Rows.CpusFreshSaid :=
  OpenClaim.holds_of_wide 9 Try.f9 rfl rfl rfl rfl rfl rfl rfl ⟨rfl, rfl, rfl, rfl, rfl⟩ rfl rfl rfl rfl rfl (by kernel_rfl) Try.func9 (by kernel_rfl)
    (of_decide_eq_true (by kernel_rfl)) (by unfold Func.isWrapper; first | (rw [if_pos (by decide +kernel)]; kernel_rfl) | (rw [if_neg (by decide +kernel)]; exact ⟨rfl, rfl⟩))
    (fun os started H enc _ => cpusFresh_lifted os started H enc)

#print axioms cpusFresh_holds
end Go.Proofs.Ytplcocifndpplaa
