/-
  EraseErases: whatever the argument, the statement answers true, and it reads behind the call as it read before. No condition.
-/
import Derived.Test.YteljibbnpheekaaGreatEd
import Derived.Test.YteljibbnpheekaaGreatEe
import Derived.Test.YteljibbnpheekaaGreatAb
import Derived.Test.YteljibbnpheekaaGreatAc
namespace Go.Proofs.YteljibbnpheekaaGreat
open Go Go.Ideal Go.ChangeShapes Go.WideShapes Go.ChangeAt Go.RowKit

set_option maxRecDepth 100000 in
theorem params6_ok : ∀ t ∈ Tryz.f6.params.toList, Tryz.prog.readableRec t = true ∧ t < Tryz.prog.types.size := by
  rw [Tryz.params6]
  intro t ht
  simp only [List.mem_cons, List.not_mem_nil, or_false] at ht
  subst ht
  exact ⟨by kernel_rfl, of_decide_eq_true (by kernel_rfl)⟩

set_option maxRecDepth 100000 in
theorem eraseErases_lifted (os : Os) (started : os.Started) (H : Type) (enc : TypeId × Value → H) :
    ReturnsInHanded {} Tryz.checked os 6 .any (Rows.eraseErasesSpec.pre6 enc Tryz.prog Tryz.f6 Rows.eraseErasesRow.domain false) (Rows.eraseErasesSpec.post enc Tryz.prog Tryz.f6 false true false false) := by
  refine returnsInHanded_of_change_sized (C := Tryz.checked) own started (by kernel_rfl) Tryz.func6
    (ChangeSpec.witness6 (enc := enc) (C := Tryz.checked) false ⟨#[], #[.slice none 0 0], []⟩ 8 (by kernel_rfl) (by kernel_rfl) (by kernel_rfl) (by kernel_rfl)) ?_
  intro W base args ds gs before hval0 hW _ hsz0 _
  have hval : ∀ (j : Nat) t v, Tryz.f6.params[j]? = some t → args[j]? = some v → Value.okWide Tryz.prog W .any base t v := hval0
  have hW' : DataW.Whole enc Tryz.prog Tryz.f6.params.toList Rows.eraseErasesSpec.vars false W args.toList ds gs before := hW
  have hsz : (DataW.weightsEach Tryz.prog (Tryz.f6.params.toList ++ Rows.eraseErasesSpec.plain.varTypes Tryz.prog) (ds ++ gs)).all (· ≤ reachBytes) = true := hsz0
  have hA := hW'
  obtain ⟨p, q, hA, _, _, _, _⟩ := hA
  rw [Tryz.params6] at hA hval hsz
  obtain ⟨v, d, rfl, rfl, h1⟩ := trodAll_one hA
  obtain ⟨fuel, h1⟩ := h1
  have hs := steps_ok (hval 0 90 v rfl rfl)
  rw [steps_one hs] at h1
  obtain ⟨o, bi, F, xs, hseen, hvr, hsrc, hlen⟩ := steps_seen ⟨_, hs⟩ h1
  have hx : xs.length * 72 ≤ 140737488355328 := by
    rcases hlen with rfl | ⟨elems, rest, pl, he, hl⟩
    · exact Nat.zero_le _
    · simp only [Prod.mk.injEq] at he
      obtain ⟨rfl, _⟩ := he
      have := sized_slice hsz (j := 0) (t := 90) (e := 39) rfl rfl under90
      rw [bytes39] at this
      simp only [reachBytes] at this
      omega
  have hR := R.many (P := Tryz.prog) (W := W) [(o, bi)] (by simpa using hseen)
  have hv : VR (manyBeta [(o, bi)]) (F 0) v := hvr _ 0 rfl
  have hu : SrcE ESt (manyWorld [(o, bi)]) (F 0) xs := hsrc _ 0 rfl
  have ha : AR (manyBeta [(o, bi)]) #[F 0] #[v] := LR.ar (l := [_]) (m := [_]) ⟨hv, trivial⟩
  exact calls_trueH (m := xs.length + 1 + 4) mixed eraL laidOut params6_ok rfl Tryz.underlying4 rfl rfl hW' hR ha
    (enter_okH (m := xs.length + 1 + 3) lw6 (e0_ (by decide)) (run6 (eras (xs.length + 1)) hu (by omega) (by omega) hx))

theorem eraseErases_holds : Rows.EraseErasesSaid :=
  OpenClaim.holds_of_wide 6 Tryz.f6 rfl rfl rfl rfl rfl rfl rfl ⟨rfl, rfl, rfl, rfl, rfl⟩ rfl rfl rfl rfl rfl named6 Tryz.func6 facts6
    (of_decide_eq_true (by kernel_rfl)) (by unfold Func.isWrapper; first | (rw [if_pos (by decide +kernel)]; kernel_rfl) | (rw [if_neg (by decide +kernel)]; exact ⟨rfl, rfl⟩))
    (fun os started H enc _ => eraseErases_lifted os started H enc)

#print axioms eraseErases_holds
end Go.Proofs.YteljibbnpheekaaGreat
