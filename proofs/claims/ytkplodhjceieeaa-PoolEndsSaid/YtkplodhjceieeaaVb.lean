/-
  PoolEnds: whatever the arguments, the statement answers true, and they read behind the call as they read before. No condition.
-/
import Derived.Test.YtkplodhjceieeaaUj
import Derived.Test.YtkplodhjceieeaaVs
namespace Go.Proofs.Ytkplodhjceieeaa
open Go Go.Ideal Go.ChangeShapes Go.WideShapes Go.ChangeAt Go.RowKit

set_option maxRecDepth 100000 in
theorem params8_ok : ∀ t ∈ Try.f8.params.toList, Try.prog.readableRec t = true ∧ t < Try.prog.types.size := by
  rw [Try.params8]
  intro t ht
  simp only [List.mem_cons, List.not_mem_nil, or_false] at ht
  rcases ht with rfl | rfl <;> exact ⟨by kernel_rfl, of_decide_eq_true (by kernel_rfl)⟩

set_option maxRecDepth 100000 in
theorem poolEnds_lifted (os : Os) (started : os.Started) (H : Type) (enc : TypeId × Value → H) :
    ReturnsInHanded {} Try.checked os 8 .any (Rows.poolEndsSpec.pre6 enc Try.prog Try.f8 Rows.poolEndsRow.domain false) (Rows.poolEndsSpec.post enc Try.prog Try.f8 false true false false) := by
  refine returnsInHanded_of_change (C := Try.checked) own started (by kernel_rfl) Try.func8
    (ChangeSpec.witness6 (enc := enc) (C := Try.checked) false ⟨#[], #[.slice none 0 0, .bool false], []⟩ 8 (by kernel_rfl) (by kernel_rfl) (by kernel_rfl) (by kernel_rfl)) ?_
  intro W base args ds gs before hval0 hW _ _
  have hval : ∀ (j : Nat) t v, Try.f8.params[j]? = some t → args[j]? = some v → Value.okWide Try.prog W .any base t v := hval0
  have hW' : DataW.Whole enc Try.prog Try.f8.params.toList Rows.poolEndsSpec.vars false W args.toList ds gs before := hW
  have hA := hW'
  obtain ⟨p, q, hA, _, _, _, _⟩ := hA
  rw [Try.params8] at hA hval
  obtain ⟨v, v', d, d', p1, p2, rfl, rfl, rfl, h1, h2⟩ := trodAll_two hA
  obtain ⟨yes, rfl⟩ := b_ok (hval 1 4 v' rfl rfl)
  obtain ⟨fuel, h1⟩ := h1
  have hs := acts_ok (hval 0 53 v rfl rfl)
  rw [acts_one hs] at h1
  obtain ⟨β, σ, vI, xs, hR, hv, hacts⟩ := acts_start ⟨_, hs⟩ h1
  have ha : AR β #[vI, .bool yes] #[v, .bool yes] := LR.ar (l := [_, _]) (m := [_, _]) ⟨hv, .bool _, trivial⟩
  exact calls_trueH (m := 4108) mixed sort50 laidOut params8_ok rfl Try.underlying4 rfl rfl hW' hR ha (enter_okH (m := 4107) low8 (by simp [sortH]) (run8 (top 4100 (by omega)) hacts))

theorem poolEnds_holds : Rows.PoolEndsSaid :=
  OpenClaim.holds_of_wide 8 Try.f8 rfl rfl rfl rfl rfl rfl rfl ⟨rfl, rfl, rfl, rfl, rfl⟩ rfl rfl rfl rfl rfl (by kernel_rfl) Try.func8 (by kernel_rfl)
    (of_decide_eq_true (by kernel_rfl)) (by unfold Func.isWrapper; first | (rw [if_pos (by decide +kernel)]; kernel_rfl) | (rw [if_neg (by decide +kernel)]; exact ⟨rfl, rfl⟩))
    (fun os started H enc _ => poolEnds_lifted os started H enc)

#print axioms poolEnds_holds
end Go.Proofs.Ytkplodhjceieeaa
