/-
  EraseJoins: whatever the arguments, the statement answers true, and they read behind the call as they read before. No condition.
-/
import Derived.Test.YteljibbnpheekaaGreatEj
import Derived.Test.YteljibbnpheekaaGreatBb
import Derived.Test.YteljibbnpheekaaGreatBc
namespace Go.Proofs.YteljibbnpheekaaGreat
open Go Go.Ideal Go.ChangeShapes Go.WideShapes Go.ChangeAt Go.RowKit

set_option maxRecDepth 100000 in
theorem params8_ok : ∀ t ∈ Tryz.f8.params.toList, Tryz.prog.readableRec t = true ∧ t < Tryz.prog.types.size := by
  rw [Tryz.params8]
  intro t ht
  simp only [List.mem_cons, List.not_mem_nil, or_false] at ht
  rcases ht with rfl | rfl <;> exact ⟨by kernel_rfl, of_decide_eq_true (by kernel_rfl)⟩

set_option maxRecDepth 100000 in
theorem eraseJoins_lifted (os : Os) (started : os.Started) (H : Type) (enc : TypeId × Value → H) :
    ReturnsInHanded {} Tryz.checked os 8 .any (Rows.eraseJoinsSpec.pre6 enc Tryz.prog Tryz.f8 Rows.eraseJoinsRow.domain false) (Rows.eraseJoinsSpec.post enc Tryz.prog Tryz.f8 false true false false) := by
  refine returnsInHanded_of_change (C := Tryz.checked) own started (by kernel_rfl) Tryz.func8
    (ChangeSpec.witness6 (enc := enc) (C := Tryz.checked) false ⟨#[], #[.slice none 0 0, .slice none 0 0], []⟩ 8 (by kernel_rfl) (by kernel_rfl) (by kernel_rfl) (by kernel_rfl)) ?_
  intro W base args ds gs before hval0 hW _ _
  have hval : ∀ (j : Nat) t v, Tryz.f8.params[j]? = some t → args[j]? = some v → Value.okWide Tryz.prog W .any base t v := hval0
  have hW' : DataW.Whole enc Tryz.prog Tryz.f8.params.toList Rows.eraseJoinsSpec.vars false W args.toList ds gs before := hW
  have hA := hW'
  obtain ⟨p, q, hA, _, _, _, _⟩ := hA
  rw [Tryz.params8] at hA hval
  obtain ⟨v, v', d, d', p1, p2, rfl, rfl, rfl, h1, h2⟩ := trodAll_two hA
  obtain ⟨fuel, h1⟩ := h1
  obtain ⟨fuel', h2⟩ := h2
  have hs := steps_ok (hval 0 90 v rfl rfl)
  have hs' := steps_ok (hval 1 90 v' rfl rfl)
  rw [steps_one hs] at h1
  rw [steps_one hs'] at h2
  obtain ⟨o, bi, F, xs, hseen, hvr, hsrc, _⟩ := steps_seen2 ⟨_, hs⟩ h1
  obtain ⟨o', bi', F', ys, hseen', hvr', hsrc', _⟩ := steps_seen2 ⟨_, hs'⟩ h2
  have hR := R.many (P := Tryz.prog) (W := W) [(o, bi), (o', bi')] (by
    intro x hx
    simp only [List.mem_cons, List.not_mem_nil, or_false] at hx
    rcases hx with rfl | rfl
    · exact hseen
    · exact hseen')
  have hv : VR (manyBeta [(o, bi), (o', bi')]) (F 0) v := hvr _ 0 rfl
  have hv' : VR (manyBeta [(o, bi), (o', bi')]) (F' 1) v' := hvr' _ 1 rfl
  have hu : ArgE (manyWorld [(o, bi), (o', bi')]) (F 0) xs := hsrc _ 0 rfl
  have hu' : ArgE (manyWorld [(o, bi), (o', bi')]) (F' 1) ys := hsrc' _ 1 rfl
  have ha : AR (manyBeta [(o, bi), (o', bi')]) #[F 0, F' 1] #[v, v'] := LR.ar (l := [_, _]) (m := [_, _]) ⟨hv, hv', trivial⟩
  exact calls_trueH (m := 200 + 4) mixed eraL laidOut params8_ok rfl Tryz.underlying4 rfl rfl hW' hR ha
    (enter_okH (m := 200 + 3) lw8 (e0_ (by decide)) (run8 (eras 200) (by omega) (by omega) hu hu'))

theorem eraseJoins_holds : Rows.EraseJoinsSaid :=
  OpenClaim.holds_of_wide 8 Tryz.f8 rfl rfl rfl rfl rfl rfl rfl ⟨rfl, rfl, rfl, rfl, rfl⟩ rfl rfl rfl rfl rfl named8 Tryz.func8 facts8
    (of_decide_eq_true (by kernel_rfl)) (by unfold Func.isWrapper; first | (rw [if_pos (by decide +kernel)]; kernel_rfl) | (rw [if_neg (by decide +kernel)]; exact ⟨rfl, rfl⟩))
    (fun os started H enc _ => eraseJoins_lifted os started H enc)

#print axioms eraseJoins_holds
end Go.Proofs.YteljibbnpheekaaGreat
