/-
  TLBLast: whatever the size, the calls and the line, the statement answers true, and its arguments read behind the call as they read before. No condition.
-/
import Derived.Test.YtplcocifndpplaaPw
import Derived.Test.YtplcocifndpplaaPs
namespace Go.Proofs.Ytplcocifndpplaa
open Go Go.Ideal Go.ChangeShapes Go.WideShapes Go.ChangeAt Go.RowKit

theorem own6 : ownKnob Try.prog.godebug = none := by kernel_rfl
theorem laidOut6 : laidOutB Try.prog = true := by kernel_rfl

set_option maxRecDepth 100000 in
theorem params6_ok : ∀ t ∈ Try.f6.params.toList, Try.prog.readableRec t = true ∧ t < Try.prog.types.size := by
  rw [Try.params6]
  intro t ht
  simp only [List.mem_cons, List.not_mem_nil, or_false] at ht
  rcases ht with rfl | rfl | rfl <;> exact ⟨by kernel_rfl, of_decide_eq_true (by kernel_rfl)⟩

set_option maxRecDepth 100000 in
theorem u8_ok6 {W : World} {base : Nat} {v : Value} (h : Value.okWide Try.prog W .any base 5 v) : ∃ n, v = .int .u8 n ∧ 0 ≤ n ∧ n < 256 := by
  unfold Value.okWide at h
  rw [under5] at h
  rcases plainCell_self (by unfold Go.Ideal.plainCell; rw [under5]) h with ⟨h1, _⟩ | ⟨k, h1, n, h2, h3⟩ | ⟨h1, _⟩
  · rw [under5] at h1; cases h1
  · rw [under5] at h1
    simp only [Option.some.injEq, TypeDesc.int.injEq] at h1
    subst h1
    refine ⟨n, h2, ?_⟩
    simp [IntKind.has, IntKind.min, IntKind.max, IntKind.signed, IntKind.bits] at h3
    omega
  · rw [under5] at h1; cases h1
set_option maxRecDepth 100000 in
theorem acts_ok6 {W : World} {base : Nat} {v : Value} (h : Value.okWide Try.prog W .any base 22 v) : Cell.okWide Try.prog W .any base 22 v := by
  unfold Value.okWide at h
  rw [under22] at h
  exact h

set_option maxRecDepth 100000 in
theorem agg_ok6 {W : World} {base : Nat} {v : Value} (h : Value.okWide Try.prog W .any base 31 v) : ∃ cs, v = .agg cs := by
  unfold Value.okWide at h
  rw [Try.underlying31] at h
  obtain ⟨cs, rfl, _⟩ := h
  exact ⟨cs, rfl⟩

set_option maxRecDepth 100000 in
theorem tLBLast_lifted (os : Os) (started : os.Started) (H : Type) (enc : TypeId × Value → H) :
    ReturnsInHanded {} Try.checked os 6 .any (Rows.tLBLastSpec.pre6 enc Try.prog Try.f6 Rows.tLBLastRow.domain false) (Rows.tLBLastSpec.post enc Try.prog Try.f6 false true false false) := by
  refine returnsInHanded_of_change (C := Try.checked) own6 started (by kernel_rfl) Try.func6
    (ChangeSpec.witness6 (enc := enc) (C := Try.checked) false ⟨#[], #[.int .u8 0, .slice none 0 0, .agg #[.int .i64 0, .int .i64 0, .int .i64 0, .int .i64 0, .bool false]], []⟩ 8 (by kernel_rfl) (by kernel_rfl) (by kernel_rfl) (by kernel_rfl)) ?_
  intro W base args ds gs before hval0 hW _ _
  have hval : ∀ (j : Nat) t v, Try.f6.params[j]? = some t → args[j]? = some v → Value.okWide Try.prog W .any base t v := hval0
  have hW' : DataW.Whole enc Try.prog Try.f6.params.toList Rows.tLBLastSpec.vars false W args.toList ds gs before := hW
  have hA := hW'
  obtain ⟨p, q, hA, _, _, _, _⟩ := hA
  rw [Try.params6] at hA hval
  obtain ⟨v, v', v2, d, d', d2, p1, p2, p3, rfl, rfl, rfl, h1, h2, h3⟩ := trodAll_three hA
  obtain ⟨n, rfl, hn⟩ := u8_ok6 (hval 0 5 v rfl rfl)
  obtain ⟨fuel, h2⟩ := h2
  obtain ⟨fuel3, h3⟩ := h3
  have hs := acts_ok6 (hval 1 22 v' rfl rfl)
  have hone : v'.cells.toList = [v'] := by
    unfold Cell.okWide at hs
    rw [under22] at hs
    cases v' <;> first | rfl | (simp [Cell.ok] at hs)
  rw [hone] at h2
  obtain ⟨β, σ, vI, xs, hR, hv, hacts⟩ := acts_start ⟨_, hs⟩ h2
  obtain ⟨cs, rfl⟩ := agg_ok6 (hval 2 31 v2 rfl rfl)
  obtain ⟨a, ha1, ha2⟩ := trod_line h3
  obtain rfl : cs = a.cells := by apply Array.ext'; exact ha1
  have ha : AR β #[.int .u8 n, vI, .agg a.cells] #[.int .u8 n, v', .agg a.cells] := LR.ar (l := [_, _, _]) (m := [_, _, _]) ⟨.int _ _, hv, selfVR β 4 _ rfl, trivial⟩
  exact calls_trueA (m := 2008) mixed sp5_ok laidOut6 params6_ok rfl Try.underlying4 rfl rfl hW' hR ha (enter_ok (m := 2007) low6 rfl (run6 (top 2000 (by omega)) (by omega) hn hacts a))

theorem tLBLast_holds : Rows.TLBLastSaid :=
  OpenClaim.holds_of_wide 6 Try.f6 rfl rfl rfl rfl rfl rfl rfl ⟨rfl, rfl, rfl, rfl, rfl⟩ rfl rfl rfl rfl rfl (by kernel_rfl) Try.func6 (by kernel_rfl)
    (of_decide_eq_true (by kernel_rfl)) (by unfold Func.isWrapper; first | (rw [if_pos (by decide +kernel)]; kernel_rfl) | (rw [if_neg (by decide +kernel)]; exact ⟨rfl, rfl⟩))
    (fun os started H enc _ => tLBLast_lifted os started H enc)

#print axioms tLBLast_holds
end Go.Proofs.Ytplcocifndpplaa
