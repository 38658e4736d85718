/-
  ObjectKept: whatever the arguments, the statement answers true, and they read behind the call as they read before. No condition.
-/
import Derived.Test.YtkplodhjceieeaaXj
import Derived.Test.YtkplodhjceieeaaYs
namespace Go.Proofs.Ytkplodhjceieeaa
open Go Go.Ideal Go.ChangeShapes Go.WideShapes Go.ChangeAt Go.RowKit

set_option maxRecDepth 100000 in
theorem params3_ok : ∀ t ∈ Try.f3.params.toList, Try.prog.readableRec t = true ∧ t < Try.prog.types.size := by
  rw [Try.params3]
  intro t ht
  simp only [List.mem_cons, List.not_mem_nil, or_false] at ht
  rcases ht with rfl | rfl <;> exact ⟨by kernel_rfl, of_decide_eq_true (by kernel_rfl)⟩

set_option maxRecDepth 100000 in
theorem objectKept_lifted (os : Os) (started : os.Started) (H : Type) (enc : TypeId × Value → H) :
    ReturnsInHanded {} Try.checked os 3 .any (Rows.objectKeptSpec.pre6 enc Try.prog Try.f3 Rows.objectKeptRow.domain false) (Rows.objectKeptSpec.post enc Try.prog Try.f3 false true false false) := by
  refine returnsInHanded_of_change (C := Try.checked) own started (by kernel_rfl) Try.func3
    (ChangeSpec.witness6 (enc := enc) (C := Try.checked) false ⟨#[], #[.int .u8 0, .slice none 0 0], []⟩ 8 (by kernel_rfl) (by kernel_rfl) (by kernel_rfl) (by kernel_rfl)) ?_
  intro W base args ds gs before hval0 hW _ _
  have hval : ∀ (j : Nat) t v, Try.f3.params[j]? = some t → args[j]? = some v → Value.okWide Try.prog W .any base t v := hval0
  have hW' : DataW.Whole enc Try.prog Try.f3.params.toList Rows.objectKeptSpec.vars false W args.toList ds gs before := hW
  have hA := hW'
  obtain ⟨p, q, hA, _, _, _, _⟩ := hA
  rw [Try.params3] at hA hval
  obtain ⟨v, v', d, d', p1, p2, rfl, rfl, rfl, h1, h2⟩ := trodAll_two hA
  obtain ⟨n, rfl, hn⟩ := u8_ok (hval 0 5 v rfl rfl)
  obtain ⟨fuel, h2⟩ := h2
  have hs := ints_ok (hval 1 22 v' rfl rfl)
  rw [ints_one hs] at h2
  obtain ⟨β, σ, vI, xs, hR, hv, hints⟩ := ints_start ⟨_, hs⟩ h2
  have ha : AR β #[.int .u8 n, vI] #[.int .u8 n, v'] := LR.ar (l := [_, _]) (m := [_, _]) ⟨.int _ _, hv, trivial⟩
  exact calls_trueH (m := 4108) mixed objL laidOut params3_ok rfl Try.underlying4 rfl rfl hW' hR ha (enter_okH (m := 4107) low3c (o0 (by decide) (by decide)) (run3 (objs 4103 (by omega)) (by omega) hn hints (froz_start hR _)))

theorem objectKept_holds : Rows.ObjectKeptSaid :=
  OpenClaim.holds_of_wide 3 Try.f3 rfl rfl rfl rfl rfl rfl rfl ⟨rfl, rfl, rfl, rfl, rfl⟩ rfl rfl rfl rfl rfl (by kernel_rfl) Try.func3 (by kernel_rfl)
    (of_decide_eq_true (by kernel_rfl)) (by unfold Func.isWrapper; first | (rw [if_pos (by decide +kernel)]; kernel_rfl) | (rw [if_neg (by decide +kernel)]; exact ⟨rfl, rfl⟩))
    (fun os started H enc _ => objectKept_lifted os started H enc)

#print axioms objectKept_holds
end Go.Proofs.Ytkplodhjceieeaa
