/-
  PoolDoes: whatever the arguments, the statement answers true, and they read behind the call as they read before. No condition.
-/
import Derived.Test.YtkplodhjceieeaaUi
import Derived.Test.YtkplodhjceieeaaVs
namespace Go.Proofs.Ytkplodhjceieeaa
open Go Go.Ideal Go.ChangeShapes Go.WideShapes Go.ChangeAt Go.RowKit

set_option maxRecDepth 100000 in
theorem params12_ok : ∀ t ∈ Try.f12.params.toList, Try.prog.readableRec t = true ∧ t < Try.prog.types.size := by
  rw [Try.params12]
  intro t ht
  simp only [List.mem_cons, List.not_mem_nil, or_false] at ht
  rcases ht with rfl | rfl | rfl <;> exact ⟨by kernel_rfl, of_decide_eq_true (by kernel_rfl)⟩

set_option maxRecDepth 100000 in
theorem poolDoes_lifted (os : Os) (started : os.Started) (H : Type) (enc : TypeId × Value → H) :
    ReturnsInHanded {} Try.checked os 12 .any (Rows.poolDoesSpec.pre6 enc Try.prog Try.f12 Rows.poolDoesRow.domain false) (Rows.poolDoesSpec.post enc Try.prog Try.f12 false true false false) := by
  refine returnsInHanded_of_change (C := Try.checked) own started (by kernel_rfl) Try.func12
    (ChangeSpec.witness6 (enc := enc) (C := Try.checked) false ⟨#[], #[.int .i64 0, .int .i64 0, .slice none 0 0], []⟩ 8 (by kernel_rfl) (by kernel_rfl) (by kernel_rfl) (by kernel_rfl)) ?_
  intro W base args ds gs before hval0 hW _ _
  have hval : ∀ (j : Nat) t v, Try.f12.params[j]? = some t → args[j]? = some v → Value.okWide Try.prog W .any base t v := hval0
  have hW' : DataW.Whole enc Try.prog Try.f12.params.toList Rows.poolDoesSpec.vars false W args.toList ds gs before := hW
  have hA := hW'
  obtain ⟨p, q, hA, _, _, _, _⟩ := hA
  rw [Try.params12] at hA hval
  obtain ⟨v, v', v2, d, d', d2, p1, p2, p3, rfl, rfl, rfl, h1, h2, h3⟩ := trodAll_three hA
  obtain ⟨o, rfl⟩ := i64_ok (hval 0 3 v rfl rfl)
  obtain ⟨mo, rfl⟩ := i64_ok (hval 1 3 v' rfl rfl)
  obtain ⟨fuel, h3⟩ := h3
  have hs := acts_ok (hval 2 53 v2 rfl rfl)
  rw [acts_one hs] at h3
  obtain ⟨β, σ, vI, xs, hR, hv, hacts⟩ := acts_start ⟨_, hs⟩ h3
  have ha : AR β #[n64 o, n64 mo, vI] #[n64 o, n64 mo, v2] := LR.ar (l := [_, _, _]) (m := [_, _, _]) ⟨.int _ _, .int _ _, hv, trivial⟩
  exact calls_trueH (m := 4108) mixed sort50 laidOut params12_ok rfl Try.underlying4 rfl rfl hW' hR ha (enter_okH (m := 4107) low12 (by simp [sortH]) (run12 (top 4100 (by omega)) (by omega) hacts))

theorem poolDoes_holds : Rows.PoolDoesSaid :=
  OpenClaim.holds_of_wide 12 Try.f12 rfl rfl rfl rfl rfl rfl rfl ⟨rfl, rfl, rfl, rfl, rfl⟩ rfl rfl rfl rfl rfl (by kernel_rfl) Try.func12 (by kernel_rfl)
    (of_decide_eq_true (by kernel_rfl)) (by unfold Func.isWrapper; first | (rw [if_pos (by decide +kernel)]; kernel_rfl) | (rw [if_neg (by decide +kernel)]; exact ⟨rfl, rfl⟩))
    (fun os started H enc _ => poolDoes_lifted os started H enc)

#print axioms poolDoes_holds
end Go.Proofs.Ytkplodhjceieeaa
