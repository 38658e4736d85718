/-
  RmapApart: whatever the arguments, the statement answers true, and they read behind the call as they read before. No condition.
-/
import Derived.Test.YtcfhhfdkecbphaaRr
import Derived.Test.YtcfhhfdkecbphaaRq
namespace Go.Proofs.Ytcfhhfdkecbphaa
open Go Go.Ideal Go.ChangeShapes Go.WideShapes Go.ChangeAt Go.RowKit

set_option maxRecDepth 100000 in
theorem params5_ok : ∀ t ∈ Try.f5.params.toList, Try.prog.readableRec t = true ∧ t < Try.prog.types.size := by
  rw [Try.params5]
  intro t ht
  simp only [List.mem_cons, List.not_mem_nil, or_false] at ht
  rcases ht with rfl | rfl | rfl <;> exact ⟨by kernel_rfl, of_decide_eq_true (by kernel_rfl)⟩

set_option maxRecDepth 100000 in
theorem rmapApart_lifted (os : Os) (started : os.Started) (H : Type) (enc : TypeId × Value → H) :
    ReturnsInHanded {} Try.checked os 5 .any (Rows.rmapApartSpec.pre6 enc Try.prog Try.f5 Rows.rmapApartRow.domain false) (Rows.rmapApartSpec.post enc Try.prog Try.f5 false true false false) := by
  refine returnsInHanded_of_change (C := Try.checked) own started (by kernel_rfl) Try.func5
    (ChangeSpec.witness6 (enc := enc) (C := Try.checked) false ⟨#[], #[.slice none 0 0, .agg #[.int .i64 0, .int .i64 0, .int .i64 0, .int .i64 0, .int .i64 0], .int .i64 0], []⟩ 8 (by kernel_rfl) (by kernel_rfl) (by kernel_rfl) (by kernel_rfl)) ?_
  intro W base args ds gs before hval0 hW _ _
  have hval : ∀ (j : Nat) t v, Try.f5.params[j]? = some t → args[j]? = some v → Value.okWide Try.prog W .any base t v := hval0
  have hW' : DataW.Whole enc Try.prog Try.f5.params.toList Rows.rmapApartSpec.vars false W args.toList ds gs before := hW
  have hA := hW'
  obtain ⟨p, q, hA, _, _, _, _⟩ := hA
  rw [Try.params5] at hA hval
  obtain ⟨v, v', v2, d, d', d2, p1, p2, p3, rfl, rfl, rfl, h1, h2, h3⟩ := trodAll_three hA
  obtain ⟨x, rfl⟩ := i64_ok (hval 2 3 v2 rfl rfl)
  obtain ⟨fuel2, h2⟩ := h2
  obtain ⟨cs, rfl⟩ := agg_ok (hval 1 29 v' rfl rfl)
  obtain ⟨y, hy1⟩ := trod_act h2
  obtain rfl : cs = y.cells := by apply Array.ext'; exact hy1
  obtain ⟨fuel, h1⟩ := h1
  have hs := acts_ok (hval 0 22 v rfl rfl)
  rw [acts_one hs] at h1
  obtain ⟨β, σ, vI, xs, hR, hv, hacts⟩ := acts_start ⟨_, hs⟩ h1
  have ha : AR β #[vI, .agg y.cells, n64 x] #[v, .agg y.cells, n64 x] := LR.ar (l := [_, _, _]) (m := [_, _, _]) ⟨hv, selfVR β 4 _ rfl, .int _ _, trivial⟩
  exact calls_trueH (m := 2000012) mixed mapHL laidOut params5_ok rfl Try.underlying4 rfl rfl hW' hR ha (enter_okH (m := 2000011) low5 (m0 (by decide) (by decide) (by decide) (by decide)) (run5 (topR 2000005 (by omega)) hacts y x))

theorem rmapApart_holds : Rows.RmapApartSaid :=
  OpenClaim.holds_of_wide 5 Try.f5 rfl rfl rfl rfl rfl rfl rfl ⟨rfl, rfl, rfl, rfl, rfl⟩ rfl rfl rfl rfl rfl (by kernel_rfl) Try.func5 (by kernel_rfl)
    (of_decide_eq_true (by kernel_rfl)) (by unfold Func.isWrapper; first | (rw [if_pos (by decide +kernel)]; kernel_rfl) | (rw [if_neg (by decide +kernel)]; exact ⟨rfl, rfl⟩))
    (fun os started H enc _ => rmapApart_lifted os started H enc)

#print axioms rmapApart_holds
end Go.Proofs.Ytcfhhfdkecbphaa
