/-
  PolicyWaits: whatever the argument, the statement answers true, and it reads behind the call as it read before. No condition.
-/
import Derived.Test.YteljibbnpheekaaGreatNy
import Derived.Test.YteljibbnpheekaaGreatEe
import Derived.Test.YteljibbnpheekaaGreatF3b
import Derived.Test.YteljibbnpheekaaGreatF3c
namespace Go.Proofs.YteljibbnpheekaaGreat
open Go Go.Ideal Go.ChangeShapes Go.WideShapes Go.ChangeAt Go.RowKit

set_option maxRecDepth 100000 in
theorem params3_ok : ∀ t ∈ Tryz.f3.params.toList, Tryz.prog.readableRec t = true ∧ t < Tryz.prog.types.size := by
  rw [Tryz.params3]
  intro t ht
  simp only [List.mem_cons, List.not_mem_nil, or_false] at ht
  subst ht
  exact ⟨by kernel_rfl, of_decide_eq_true (by kernel_rfl)⟩
theorem under5 : Tryz.prog.underlying 5 = some (.int .u8) := by kernel_rfl
set_option maxRecDepth 100000 in
theorem arg5 {W : World} {base : Nat} {v : Value} (h : Value.okWide Tryz.prog W .any base 5 v) : ∃ o : Int, v = .int .u8 o ∧ 0 ≤ o ∧ o < 256 := by
  unfold Value.okWide at h
  rw [Tryz.underlying5] at h
  rcases plainCell_self (by unfold Ideal.plainCell; rw [under5]) h with ⟨h1, _⟩ | ⟨k, h1, n, h2, h3⟩ | ⟨h1, _⟩
  · rw [under5] at h1; cases h1
  · rw [under5] at h1
    simp only [Option.some.injEq, TypeDesc.int.injEq] at h1
    subst h1
    refine ⟨n, h2, ?_⟩
    simp [IntKind.has, IntKind.min, IntKind.max, IntKind.wrap, IntKind.bits, IntKind.signed] at h3
    omega
  · rw [under5] at h1; cases h1

set_option maxRecDepth 100000 in
theorem policyWaits_lifted (os : Os) (started : os.Started) (H : Type) (enc : TypeId × Value → H) :
    ReturnsInHanded {} Tryz.checked os 3 .any (Rows.policyWaitsSpec.pre6 enc Tryz.prog Tryz.f3 Rows.policyWaitsRow.domain false) (Rows.policyWaitsSpec.post enc Tryz.prog Tryz.f3 false true false false) := by
  refine returnsInHanded_of_change (C := Tryz.checked) own started (by kernel_rfl) Tryz.func3
    (ChangeSpec.witness6 (enc := enc) (C := Tryz.checked) false ⟨#[], #[.int .u8 0], []⟩ 8 (by kernel_rfl) (by kernel_rfl) (by kernel_rfl) (by kernel_rfl)) ?_
  intro W base args ds gs before hval0 hW _ _
  have hval : ∀ (j : Nat) t v, Tryz.f3.params[j]? = some t → args[j]? = some v → Value.okWide Tryz.prog W .any base t v := hval0
  have hW' : DataW.Whole enc Tryz.prog Tryz.f3.params.toList Rows.policyWaitsSpec.vars false W args.toList ds gs before := hW
  have hA := hW'
  obtain ⟨p, q, hA, _, _, _, _⟩ := hA
  rw [Tryz.params3] at hA hval
  obtain ⟨v, d, rfl, rfl⟩ := args_one hA
  obtain ⟨o, rfl, h0, h1⟩ := arg5 (hval 0 5 v rfl rfl)
  have ha : AR (fun _ => none) #[.int .u8 o] #[.int .u8 o] := LR.ar (l := [_]) (m := [_]) ⟨.int _ _, trivial⟩
  obtain ⟨m, hm⟩ := ran3 o h0 h1
  exact calls_trueH (m := m) mixed (yesL rA27_calls) laidOut params3_ok rfl Tryz.underlying4 rfl rfl hW' (R.start Tryz.prog W w00 rfl) ha hm

theorem policyWaits_holds : Rows.PolicyWaitsSaid :=
  OpenClaim.holds_of_wide 3 Tryz.f3 rfl rfl rfl rfl rfl rfl rfl ⟨rfl, rfl, rfl, rfl, rfl⟩ rfl rfl rfl rfl rfl named3 Tryz.func3 facts3
    (of_decide_eq_true (by kernel_rfl)) (by unfold Func.isWrapper; first | (rw [if_pos (by decide +kernel)]; kernel_rfl) | (rw [if_neg (by decide +kernel)]; exact ⟨rfl, rfl⟩))
    (fun os started H enc _ => policyWaits_lifted os started H enc)

#print axioms policyWaits_holds
end Go.Proofs.YteljibbnpheekaaGreat
