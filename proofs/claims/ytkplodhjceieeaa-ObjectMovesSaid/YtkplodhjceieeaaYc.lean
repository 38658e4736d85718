/-
  ObjectMoves: whatever the arguments, the statement answers true, and they read behind the call as they read before. No condition.
-/
import Derived.Test.YtkplodhjceieeaaZi
import Derived.Test.YtkplodhjceieeaaYt
namespace Go.Proofs.Ytkplodhjceieeaa
open Go Go.Ideal Go.ChangeShapes Go.WideShapes Go.ChangeAt Go.RowKit

set_option maxRecDepth 100000 in
theorem params6_ok : ∀ t ∈ Try.f6.params.toList, Try.prog.readableRec t = true ∧ t < Try.prog.types.size := by
  rw [Try.params6]
  intro t ht
  simp only [List.mem_cons, List.not_mem_nil, or_false] at ht
  rcases ht with rfl | rfl | rfl <;> exact ⟨by kernel_rfl, of_decide_eq_true (by kernel_rfl)⟩

set_option maxRecDepth 100000 in
theorem objectMoves_lifted (os : Os) (started : os.Started) (H : Type) (enc : TypeId × Value → H) :
    ReturnsInHanded {} Try.checked os 6 .any (Rows.objectMovesSpec.pre6 enc Try.prog Try.f6 Rows.objectMovesRow.domain false) (Rows.objectMovesSpec.post enc Try.prog Try.f6 false true false false) := by
  refine returnsInHanded_of_change (C := Try.checked) own started (by kernel_rfl) Try.func6
    (ChangeSpec.witness6 (enc := enc) (C := Try.checked) false ⟨#[], #[.slice none 0 0, .int .i64 0, .int .i64 0], []⟩ 8 (by kernel_rfl) (by kernel_rfl) (by kernel_rfl) (by kernel_rfl)) ?_
  intro W base args ds gs before hval0 hW _ _
  have hval : ∀ (j : Nat) t v, Try.f6.params[j]? = some t → args[j]? = some v → Value.okWide Try.prog W .any base t v := hval0
  have hW' : DataW.Whole enc Try.prog Try.f6.params.toList Rows.objectMovesSpec.vars false W args.toList ds gs before := hW
  have hA := hW'
  obtain ⟨p, q, hA, _, _, _, _⟩ := hA
  rw [Try.params6] at hA hval
  obtain ⟨v, v', v2, d, d', d2, p1, p2, p3, rfl, rfl, rfl, h1, h2, h3⟩ := trodAll_three hA
  obtain ⟨o, rfl⟩ := i64_ok (hval 1 3 v' rfl rfl)
  obtain ⟨mo, rfl⟩ := i64_ok (hval 2 3 v2 rfl rfl)
  obtain ⟨fuel, h1⟩ := h1
  have hs := actsO_ok (hval 0 34 v rfl rfl)
  rw [actsO_one hs] at h1
  obtain ⟨β, σ, vI, xs, hR, hv, hacts⟩ := actsO_start ⟨_, hs⟩ h1
  have ha : AR β #[vI, n64 o, n64 mo] #[v, n64 o, n64 mo] := LR.ar (l := [_, _, _]) (m := [_, _, _]) ⟨hv, .int _ _, .int _ _, trivial⟩
  exact calls_trueH (m := 4108) mixed objL laidOut params6_ok rfl Try.underlying4 rfl rfl hW' hR ha (enter_okH (m := 4107) low6 (o0 (by decide) (by decide)) (run6 (topO 4101 (by omega)) (by omega) hacts (froz_start hR _) o mo))

theorem objectMoves_holds : Rows.ObjectMovesSaid :=
  OpenClaim.holds_of_wide 6 Try.f6 rfl rfl rfl rfl rfl rfl rfl ⟨rfl, rfl, rfl, rfl, rfl⟩ rfl rfl rfl rfl rfl (by kernel_rfl) Try.func6 (by kernel_rfl)
    (of_decide_eq_true (by kernel_rfl)) (by unfold Func.isWrapper; first | (rw [if_pos (by decide +kernel)]; kernel_rfl) | (rw [if_neg (by decide +kernel)]; exact ⟨rfl, rfl⟩))
    (fun os started H enc _ => objectMoves_lifted os started H enc)

#print axioms objectMoves_holds
end Go.Proofs.Ytkplodhjceieeaa
