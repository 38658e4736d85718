/-
  PoolKept: whatever the arguments, the statement answers true, and they read behind the call as they read before. No condition.
-/
import Derived.Test.YtkplodhjceieeaaUm
import Derived.Test.YtkplodhjceieeaaVt
namespace Go.Proofs.Ytkplodhjceieeaa
open Go Go.Ideal Go.ChangeShapes Go.WideShapes Go.ChangeAt Go.RowKit

set_option maxRecDepth 100000 in
theorem params9_ok : ∀ t ∈ Try.f9.params.toList, Try.prog.readableRec t = true ∧ t < Try.prog.types.size := by
  rw [Try.params9]
  intro t ht
  simp only [List.mem_cons, List.not_mem_nil, or_false] at ht
  rcases ht with rfl | rfl <;> exact ⟨by kernel_rfl, of_decide_eq_true (by kernel_rfl)⟩

set_option maxRecDepth 100000 in
theorem poolKept_lifted (os : Os) (started : os.Started) (H : Type) (enc : TypeId × Value → H) :
    ReturnsInHanded {} Try.checked os 9 .any (Rows.poolKeptSpec.pre6 enc Try.prog Try.f9 Rows.poolKeptRow.domain false) (Rows.poolKeptSpec.post enc Try.prog Try.f9 false true false false) := by
  refine returnsInHanded_of_change (C := Try.checked) own started (by kernel_rfl) Try.func9
    (ChangeSpec.witness6 (enc := enc) (C := Try.checked) false ⟨#[], #[.slice none 0 0, .slice none 0 0], []⟩ 8 (by kernel_rfl) (by kernel_rfl) (by kernel_rfl) (by kernel_rfl)) ?_
  intro W base args ds gs before hval0 hW _ _
  have hval : ∀ (j : Nat) t v, Try.f9.params[j]? = some t → args[j]? = some v → Value.okWide Try.prog W .any base t v := hval0
  have hW' : DataW.Whole enc Try.prog Try.f9.params.toList Rows.poolKeptSpec.vars false W args.toList ds gs before := hW
  have hA := hW'
  obtain ⟨p, q, hA, _, _, _, _⟩ := hA
  rw [Try.params9] at hA hval
  obtain ⟨v, v', d, d', p1, p2, rfl, rfl, rfl, h1, h2⟩ := trodAll_two hA
  obtain ⟨fuel, h1⟩ := h1
  obtain ⟨fuel2, h2⟩ := h2
  have hs := acts_ok (hval 0 53 v rfl rfl)
  have hs' := acts_ok (hval 1 53 v' rfl rfl)
  rw [acts_one hs] at h1
  rw [acts_one hs'] at h2
  obtain ⟨β, σ, vI, vI', xs, xs', hR, hv, hv', hacts, hacts'⟩ := acts_two ⟨_, hs⟩ h1 ⟨_, hs'⟩ h2
  have ha : AR β #[vI, vI'] #[v, v'] := LR.ar (l := [_, _]) (m := [_, _]) ⟨hv, hv', trivial⟩
  exact calls_trueH (m := 4108) mixed sort50 laidOut params9_ok rfl Try.underlying4 rfl rfl hW' hR ha (enter_okH (m := 4107) low9c (by simp [sortH]) (run9 (top 4100 (by omega)) (by omega) hacts hacts'))

theorem poolKept_holds : Rows.PoolKeptSaid :=
  OpenClaim.holds_of_wide 9 Try.f9 rfl rfl rfl rfl rfl rfl rfl ⟨rfl, rfl, rfl, rfl, rfl⟩ rfl rfl rfl rfl rfl (by kernel_rfl) Try.func9 (by kernel_rfl)
    (of_decide_eq_true (by kernel_rfl)) (by unfold Func.isWrapper; first | (rw [if_pos (by decide +kernel)]; kernel_rfl) | (rw [if_neg (by decide +kernel)]; exact ⟨rfl, rfl⟩))
    (fun os started H enc _ => poolKept_lifted os started H enc)

#print axioms poolKept_holds
end Go.Proofs.Ytkplodhjceieeaa
