/-
  ObjectOne: whatever the arguments, the statement answers true, and they read behind the call as they read before. No condition.
-/
import Derived.Test.YtkplodhjceieeaaZj
import Derived.Test.YtkplodhjceieeaaYt
namespace Go.Proofs.Ytkplodhjceieeaa
open Go Go.Ideal Go.ChangeShapes Go.WideShapes Go.ChangeAt Go.RowKit

set_option maxRecDepth 100000 in
theorem params5_ok : ∀ t ∈ Try.f5.params.toList, Try.prog.readableRec t = true ∧ t < Try.prog.types.size := by
  rw [Try.params5]
  intro t ht
  simp only [List.mem_cons, List.not_mem_nil, or_false] at ht
  subst ht
  exact ⟨by kernel_rfl, of_decide_eq_true (by kernel_rfl)⟩

set_option maxRecDepth 100000 in
theorem objectOne_lifted (os : Os) (started : os.Started) (H : Type) (enc : TypeId × Value → H) :
    ReturnsInHanded {} Try.checked os 5 .any (Rows.objectOneSpec.pre6 enc Try.prog Try.f5 Rows.objectOneRow.domain false) (Rows.objectOneSpec.post enc Try.prog Try.f5 false true false false) := by
  refine returnsInHanded_of_change (C := Try.checked) own started (by kernel_rfl) Try.func5
    (ChangeSpec.witness6 (enc := enc) (C := Try.checked) false ⟨#[], #[.slice none 0 0], []⟩ 8 (by kernel_rfl) (by kernel_rfl) (by kernel_rfl) (by kernel_rfl)) ?_
  intro W base args ds gs before hval0 hW _ _
  have hval : ∀ (j : Nat) t v, Try.f5.params[j]? = some t → args[j]? = some v → Value.okWide Try.prog W .any base t v := hval0
  have hW' : DataW.Whole enc Try.prog Try.f5.params.toList Rows.objectOneSpec.vars false W args.toList ds gs before := hW
  have hA := hW'
  obtain ⟨p, q, hA, _, _, _, _⟩ := hA
  rw [Try.params5] at hA hval
  obtain ⟨v, d, rfl, rfl, h1⟩ := trodAll_one hA
  obtain ⟨fuel, h1⟩ := h1
  have hs := actsO_ok (hval 0 34 v rfl rfl)
  rw [actsO_one hs] at h1
  obtain ⟨β, σ, vI, xs, hR, hv, hacts⟩ := actsO_start ⟨_, hs⟩ h1
  have ha : AR β #[vI] #[v] := LR.ar (l := [_]) (m := [_]) ⟨hv, trivial⟩
  exact calls_trueH (m := 4108) mixed objL laidOut params5_ok rfl Try.underlying4 rfl rfl hW' hR ha (enter_okH (m := 4107) low5 (o0 (by decide) (by decide)) (run5 (topO 4101 (by omega)) (by omega) hacts (froz_start hR _)))

theorem objectOne_holds : Rows.ObjectOneSaid :=
  OpenClaim.holds_of_wide 5 Try.f5 rfl rfl rfl rfl rfl rfl rfl ⟨rfl, rfl, rfl, rfl, rfl⟩ rfl rfl rfl rfl rfl (by kernel_rfl) Try.func5 (by kernel_rfl)
    (of_decide_eq_true (by kernel_rfl)) (by unfold Func.isWrapper; first | (rw [if_pos (by decide +kernel)]; kernel_rfl) | (rw [if_neg (by decide +kernel)]; exact ⟨rfl, rfl⟩))
    (fun os started H enc _ => objectOne_lifted os started H enc)

#print axioms objectOne_holds
end Go.Proofs.Ytkplodhjceieeaa
