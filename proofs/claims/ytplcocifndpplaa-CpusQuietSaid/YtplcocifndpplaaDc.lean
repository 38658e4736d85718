/-
  CpusQuiet: whatever the arguments, the statement answers true, and they read behind the call as they read before. No condition.
-/
import Derived.Test.YtplcocifndpplaaCt
import Derived.Test.YtplcocifndpplaaCs
namespace Go.Proofs.Ytplcocifndpplaa
open Go Go.Ideal Go.ChangeShapes Go.WideShapes Go.ChangeAt Go.RowKit

set_option maxRecDepth 100000 in
theorem params10_ok : ∀ t ∈ Try.f10.params.toList, Try.prog.readableRec t = true ∧ t < Try.prog.types.size := by
  rw [Try.params10]
  intro t ht
  simp only [List.mem_cons, List.not_mem_nil, or_false] at ht
  rcases ht with rfl | rfl <;> exact ⟨by kernel_rfl, of_decide_eq_true (by kernel_rfl)⟩

set_option maxRecDepth 100000 in
theorem cpusQuiet_lifted (os : Os) (started : os.Started) (H : Type) (enc : TypeId × Value → H) :
    ReturnsInHanded {} Try.checked os 10 .any (Rows.cpusQuietSpec.pre6 enc Try.prog Try.f10 Rows.cpusQuietRow.domain false) (Rows.cpusQuietSpec.post enc Try.prog Try.f10 false true false false) := by
  refine returnsInHanded_of_change (C := Try.checked) own started (by kernel_rfl) Try.func10
    (ChangeSpec.witness6 (enc := enc) (C := Try.checked) false ⟨#[], #[.slice none 0 0, .int .i64 0], []⟩ 8 (by kernel_rfl) (by kernel_rfl) (by kernel_rfl) (by kernel_rfl)) ?_
  intro W base args ds gs before hval0 hW _ _
  have hval : ∀ (j : Nat) t v, Try.f10.params[j]? = some t → args[j]? = some v → Value.okWide Try.prog W .any base t v := hval0
  have hW' : DataW.Whole enc Try.prog Try.f10.params.toList Rows.cpusQuietSpec.vars false W args.toList ds gs before := hW
  have hA := hW'
  obtain ⟨p, q, hA, _, _, _, _⟩ := hA
  rw [Try.params10] at hA hval
  obtain ⟨v, v', d, d', p1, p2, rfl, rfl, rfl, h1, h2⟩ := trodAll_two hA
  obtain ⟨sp, rfl⟩ := i64_ok (hval 1 3 v' rfl rfl)
  obtain ⟨fuel, h1⟩ := h1
  have hs := actsC_ok (hval 0 56 v rfl rfl)
  rw [actsC_one hs] at h1
  obtain ⟨β, σ, vI, xs, hR, hv, hacts⟩ := actsC_start ⟨_, hs⟩ h1
  have ha : AR β #[vI, i64 sp] #[v, i64 sp] := LR.ar (l := [_, _]) (m := [_, _]) ⟨hv, .int _ _, trivial⟩
  exact calls_trueA (m := 20012) mixed sp5_ok laidOut params10_ok rfl Try.underlying4 rfl rfl hW' hR ha (enter_ok (m := 20011) low10 rfl (run10 (topC 20000 (by omega)) (by omega) hacts sp))

theorem cpusQuiet_holds : Rows.CpusQuietSaid :=
  OpenClaim.holds_of_wide 10 Try.f10 rfl rfl rfl rfl rfl rfl rfl ⟨rfl, rfl, rfl, rfl, rfl⟩ rfl rfl rfl rfl rfl (by kernel_rfl) Try.func10 (by kernel_rfl)
    (of_decide_eq_true (by kernel_rfl)) (by unfold Func.isWrapper; first | (rw [if_pos (by decide +kernel)]; kernel_rfl) | (rw [if_neg (by decide +kernel)]; exact ⟨rfl, rfl⟩))
    (fun os started H enc _ => cpusQuiet_lifted os started H enc)

#print axioms cpusQuiet_holds
end Go.Proofs.Ytplcocifndpplaa
