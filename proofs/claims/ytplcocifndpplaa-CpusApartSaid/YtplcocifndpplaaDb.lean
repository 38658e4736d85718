/-
  CpusApart: whatever the arguments, the statement answers true, and they read behind the call as they read before. No condition.
-/
import Derived.Test.YtplcocifndpplaaCr
import Derived.Test.YtplcocifndpplaaCs
namespace Go.Proofs.Ytplcocifndpplaa
open Go Go.Ideal Go.ChangeShapes Go.WideShapes Go.ChangeAt Go.RowKit

set_option maxRecDepth 100000 in
theorem params12_ok : ∀ t ∈ Try.f12.params.toList, Try.prog.readableRec t = true ∧ t < Try.prog.types.size := by
  rw [Try.params12]
  intro t ht
  simp only [List.mem_cons, List.not_mem_nil, or_false] at ht
  rcases ht with rfl | rfl | rfl <;> exact ⟨by kernel_rfl, of_decide_eq_true (by kernel_rfl)⟩

set_option maxRecDepth 100000 in
theorem cpusApart_lifted (os : Os) (started : os.Started) (H : Type) (enc : TypeId × Value → H) :
    ReturnsInHanded {} Try.checked os 12 .any (Rows.cpusApartSpec.pre6 enc Try.prog Try.f12 Rows.cpusApartRow.domain false) (Rows.cpusApartSpec.post enc Try.prog Try.f12 false true false false) := by
  refine returnsInHanded_of_change (C := Try.checked) own started (by kernel_rfl) Try.func12
    (ChangeSpec.witness6 (enc := enc) (C := Try.checked) false ⟨#[], #[.slice none 0 0, .agg #[.int .i64 0, .int .i64 0, .int .i64 0, .int .i64 0, .int .i64 0, .int .i64 0, .int .i64 0, .int .i64 0, .int .i64 0, .bool false], .int .u8 0], []⟩ 8 (by kernel_rfl) (by kernel_rfl) (by kernel_rfl) (by kernel_rfl)) ?_
  intro W base args ds gs before hval0 hW _ _
  have hval : ∀ (j : Nat) t v, Try.f12.params[j]? = some t → args[j]? = some v → Value.okWide Try.prog W .any base t v := hval0
  have hW' : DataW.Whole enc Try.prog Try.f12.params.toList Rows.cpusApartSpec.vars false W args.toList ds gs before := hW
  have hA := hW'
  obtain ⟨p, q, hA, _, _, _, _⟩ := hA
  rw [Try.params12] at hA hval
  obtain ⟨v, v', v2, d, d', d2, p1, p2, p3, rfl, rfl, rfl, h1, h2, h3⟩ := trodAll_three hA
  obtain ⟨n, rfl, hn⟩ := u8_ok (hval 2 5 v2 rfl rfl)
  obtain ⟨fuel2, h2⟩ := h2
  obtain ⟨cs, rfl⟩ := aggC_ok (hval 1 62 v' rfl rfl)
  obtain ⟨y, hy1, hy⟩ := trod_actC h2
  obtain rfl : cs = y.cells := by apply Array.ext'; exact hy1
  obtain ⟨fuel, h1⟩ := h1
  have hs := actsC_ok (hval 0 56 v rfl rfl)
  rw [actsC_one hs] at h1
  obtain ⟨β, σ, vI, xs, hR, hv, hacts⟩ := actsC_start ⟨_, hs⟩ h1
  have ha : AR β #[vI, .agg y.cells, .int .u8 n] #[v, .agg y.cells, .int .u8 n] := LR.ar (l := [_, _, _]) (m := [_, _, _]) ⟨hv, selfVR β 4 _ rfl, .int _ _, trivial⟩
  exact calls_trueA (m := 20012) mixed sp5_ok laidOut params12_ok rfl Try.underlying4 rfl rfl hW' hR ha (enter_ok (m := 20011) low12 rfl (run12 (topC 20000 (by omega)) hacts y hy hn))

theorem cpusApart_holds : Rows.CpusApartSaid :=
  OpenClaim.holds_of_wide 12 Try.f12 rfl rfl rfl rfl rfl rfl rfl ⟨rfl, rfl, rfl, rfl, rfl⟩ rfl rfl rfl rfl rfl (by kernel_rfl) Try.func12 (by kernel_rfl)
    (of_decide_eq_true (by kernel_rfl)) (by unfold Func.isWrapper; first | (rw [if_pos (by decide +kernel)]; kernel_rfl) | (rw [if_neg (by decide +kernel)]; exact ⟨rfl, rfl⟩))
    (fun os started H enc _ => cpusApart_lifted os started H enc)

#print axioms cpusApart_holds
end Go.Proofs.Ytplcocifndpplaa
