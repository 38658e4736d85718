/-
  Whatever the argument, the statement on nil ones answers true, and its argument reads behind the call as it read before. No condition.
-/
import Derived.Test.YtkplodhjceieeaaKc
import Derived.ProofKit
namespace Go.Proofs.Ytkplodhjceieeaa
open Go Go.Ideal Go.ChangeShapes Go.WideShapes Go.ChangeAt Go.RowKit

theorem own7 : ownKnob Try.prog.godebug = none := by kernel_rfl
theorem laidOut7 : laidOutB Try.prog = true := by kernel_rfl
theorem mixed7 : Try.prog.follows .mixedOrders = true := by kernel_rfl

theorem params7_ok : ∀ t ∈ Try.f7.params.toList, Try.prog.readableRec t = true ∧ t < Try.prog.types.size := by
  rw [Try.params7]
  intro t ht
  simp only [List.mem_singleton] at ht
  subst ht
  exact ⟨by kernel_rfl, of_decide_eq_true (by kernel_rfl)⟩

theorem cellTypes7 : Try.prog.cellTypes Try.prog.depth 51 = some [3, 3, 3, 3, 3] := by kernel_rfl
theorem cellsOf7 : Try.prog.cellsOf 51 = 5 := by kernel_rfl

theorem open7 {α : Type} {cs : Array α} (h : cs.size = 5) : ∃ c0 c1 c2 c3 c4, cs = #[c0, c1, c2, c3, c4] := by
  obtain ⟨l⟩ := cs
  match l, h with
  | [c0, c1, c2, c3, c4], _ => exact ⟨c0, c1, c2, c3, c4, rfl⟩

set_option maxRecDepth 100000 in
/-- The argument is numbers and bools; the ideal run takes tokens for the numbers. -/
theorem arg7 {W : World} {base : Nat} {v : Value} (h : Value.okWide Try.prog W .any base 51 v) : ∃ (l : List Int) , l.length = 5 ∧
    VR (tokBeta l) (.agg #[.chan (some 0), .chan (some 1), .chan (some 2), .chan (some 3), .chan (some 4)]) v := by
  unfold Value.okWide at h
  rw [Try.underlying51] at h
  obtain ⟨cs, rfl, hsz, ts, hts, _, hc⟩ := h
  rw [cellsOf7] at hsz
  rw [cellTypes7] at hts
  obtain ⟨c0, c1, c2, c3, c4, rfl⟩ := open7 hsz
  simp only [Option.some.injEq] at hts
  subst hts
  obtain ⟨a0, rfl⟩ : ∃ a, c0 = .int .i64 a := by obtain ⟨u, hu, hk⟩ := hc 0 c0 rfl; exact int_cell Try.underlying3 hu hk
  obtain ⟨a1, rfl⟩ : ∃ a, c1 = .int .i64 a := by obtain ⟨u, hu, hk⟩ := hc 1 c1 rfl; exact int_cell Try.underlying3 hu hk
  obtain ⟨a2, rfl⟩ : ∃ a, c2 = .int .i64 a := by obtain ⟨u, hu, hk⟩ := hc 2 c2 rfl; exact int_cell Try.underlying3 hu hk
  obtain ⟨a3, rfl⟩ : ∃ a, c3 = .int .i64 a := by obtain ⟨u, hu, hk⟩ := hc 3 c3 rfl; exact int_cell Try.underlying3 hu hk
  obtain ⟨a4, rfl⟩ : ∃ a, c4 = .int .i64 a := by obtain ⟨u, hu, hk⟩ := hc 4 c4 rfl; exact int_cell Try.underlying3 hu hk
  refine ⟨[a0, a1, a2, a3, a4], rfl, ?_⟩
  have := LR.ar (β := tokBeta [a0, a1, a2, a3, a4]) (l := [.chan (some 0), .chan (some 1), .chan (some 2), .chan (some 3), .chan (some 4)]) (m := [.int .i64 a0, .int .i64 a1, .int .i64 a2, .int .i64 a3, .int .i64 a4])
    ⟨tok_vr rfl, tok_vr rfl, tok_vr rfl, tok_vr rfl, tok_vr rfl, trivial⟩
  exact .agg this.1 this.2

set_option maxRecDepth 100000 in
theorem objectNone_lifted (os : Os) (started : os.Started) (H : Type) (enc : TypeId × Value → H) :
    ReturnsInHanded {} Try.checked os 7 .any (Rows.objectNoneSpec.pre6 enc Try.prog Try.f7 Rows.objectNoneRow.domain false) (Rows.objectNoneSpec.post enc Try.prog Try.f7 false true false false) := by
  refine returnsInHanded_of_change (C := Try.checked) own7 started (by kernel_rfl) Try.func7
    (ChangeSpec.witness6 (enc := enc) (C := Try.checked) false ⟨#[], #[.agg #[.int .i64 0, .int .i64 0, .int .i64 0, .int .i64 0, .int .i64 0]], []⟩ 8 (by kernel_rfl) (by kernel_rfl) (by kernel_rfl) (by kernel_rfl)) ?_
  intro W base args ds gs before hval0 hW _ _
  have hval : ∀ (j : Nat) t v, Try.f7.params[j]? = some t → args[j]? = some v → Value.okWide Try.prog W .any base t v := hval0
  have hW' : DataW.Whole enc Try.prog Try.f7.params.toList Rows.objectNoneSpec.vars false W args.toList ds gs before := hW
  have hA := hW'
  obtain ⟨p, q, hA, _, _, _, _⟩ := hA
  rw [Try.params7] at hA hval
  obtain ⟨v, d, rfl, rfl⟩ := args_one hA
  obtain ⟨l, hl, hv⟩ := arg7 (hval 0 51 v rfl rfl)
  have ha : AR (tokBeta l) #[.agg #[.chan (some 0), .chan (some 1), .chan (some 2), .chan (some 3), .chan (some 4)]] #[v] := LR.ar (l := [_]) (m := [_]) ⟨hv, trivial⟩
  refine calls_true (m := 100) mixed7 laidOut7 params7_ok rfl Try.underlying4 rfl rfl hW' (R.tokens Try.prog W l) ha ?_
  rw [hl]
  exact T.all_of_allB (fun _ h => isTrue_spec h) ran7

theorem objectNone_holds : Rows.ObjectNoneSaid :=
  OpenClaim.holds_of_wide 7 Try.f7 rfl rfl rfl rfl rfl rfl rfl ⟨rfl, rfl, rfl, rfl, rfl⟩ rfl rfl rfl rfl rfl (by kernel_rfl) Try.func7 (by kernel_rfl)
    (of_decide_eq_true (by kernel_rfl)) (by unfold Func.isWrapper; first | (rw [if_pos (by decide +kernel)]; kernel_rfl) | (rw [if_neg (by decide +kernel)]; exact ⟨rfl, rfl⟩))
    (fun os started H enc _ => objectNone_lifted os started H enc)

#print axioms objectNone_holds
end Go.Proofs.Ytkplodhjceieeaa
