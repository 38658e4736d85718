/-
  PoolNone: whatever the arguments, the statement answers true, and they read behind the call as they read before. No condition.
-/
import Derived.Test.YtkplodhjceieeaaUk
import Derived.Test.YtkplodhjceieeaaVs
namespace Go.Proofs.Ytkplodhjceieeaa
open Go Go.Ideal Go.ChangeShapes Go.WideShapes Go.ChangeAt Go.RowKit

set_option maxRecDepth 100000 in
theorem params13_ok : ∀ t ∈ Try.f13.params.toList, Try.prog.readableRec t = true ∧ t < Try.prog.types.size := by
  rw [Try.params13]
  intro t ht
  simp only [List.mem_cons, List.not_mem_nil, or_false] at ht
  subst ht
  exact ⟨by kernel_rfl, of_decide_eq_true (by kernel_rfl)⟩

set_option maxRecDepth 100000 in
theorem poolNone_lifted (os : Os) (started : os.Started) (H : Type) (enc : TypeId × Value → H) :
    ReturnsInHanded {} Try.checked os 13 .any (Rows.poolNoneSpec.pre6 enc Try.prog Try.f13 Rows.poolNoneRow.domain false) (Rows.poolNoneSpec.post enc Try.prog Try.f13 false true false false) := by
  refine returnsInHanded_of_change (C := Try.checked) own started (by kernel_rfl) Try.func13
    (ChangeSpec.witness6 (enc := enc) (C := Try.checked) false ⟨#[], #[.agg #[.int .i64 0, .int .i64 0, .int .i64 0, .bool false]], []⟩ 8 (by kernel_rfl) (by kernel_rfl) (by kernel_rfl) (by kernel_rfl)) ?_
  intro W base args ds gs before hval0 hW _ _
  have hval : ∀ (j : Nat) t v, Try.f13.params[j]? = some t → args[j]? = some v → Value.okWide Try.prog W .any base t v := hval0
  have hW' : DataW.Whole enc Try.prog Try.f13.params.toList Rows.poolNoneSpec.vars false W args.toList ds gs before := hW
  have hA := hW'
  obtain ⟨p, q, hA, _, _, _, _⟩ := hA
  rw [Try.params13] at hA hval
  obtain ⟨v, d, rfl, rfl, h1⟩ := trodAll_one hA
  obtain ⟨fuel, h1⟩ := h1
  obtain ⟨cs, rfl⟩ := agg_ok (hval 0 63 v rfl rfl)
  obtain ⟨a, ha1⟩ := trod_act h1
  obtain rfl : cs = a.cells := by apply Array.ext'; exact ha1
  have hR := R.start Try.prog W { (default : World) with heap := #[] } rfl
  have ha : AR (fun _ => none) #[.agg a.cells] #[.agg a.cells] := LR.ar (l := [_]) (m := [_]) ⟨selfVR _ 4 _ rfl, trivial⟩
  exact calls_trueH (m := 4108) mixed sort50 laidOut params13_ok rfl Try.underlying4 rfl rfl hW' hR ha (enter_okH (m := 4107) low13 (by simp [sortH]) (run13 (top 4100 (by omega)) (nils 4105) a))

theorem poolNone_holds : Rows.PoolNoneSaid :=
  OpenClaim.holds_of_wide 13 Try.f13 rfl rfl rfl rfl rfl rfl rfl ⟨rfl, rfl, rfl, rfl, rfl⟩ rfl rfl rfl rfl rfl (by kernel_rfl) Try.func13 (by kernel_rfl)
    (of_decide_eq_true (by kernel_rfl)) (by unfold Func.isWrapper; first | (rw [if_pos (by decide +kernel)]; kernel_rfl) | (rw [if_neg (by decide +kernel)]; exact ⟨rfl, rfl⟩))
    (fun os started H enc _ => poolNone_lifted os started H enc)

#print axioms poolNone_holds
end Go.Proofs.Ytkplodhjceieeaa
