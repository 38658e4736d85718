/-
  Whatever the argument, the statement on nil ones answers true, and its argument reads behind the call as it read before. No condition.
-/
import Derived.Test.YtplcocifndpplaaKb
import Derived.ProofKit
namespace Go.Proofs.Ytplcocifndpplaa
open Go Go.Ideal Go.ChangeShapes Go.WideShapes Go.ChangeAt Go.RowKit

theorem own13 : ownKnob Try.prog.godebug = none := by kernel_rfl
theorem laidOut13 : laidOutB Try.prog = true := by kernel_rfl
theorem mixed13 : Try.prog.follows .mixedOrders = true := by kernel_rfl

theorem params13_ok : ∀ t ∈ Try.f13.params.toList, Try.prog.readableRec t = true ∧ t < Try.prog.types.size := by
  rw [Try.params13]
  intro t ht
  simp only [List.mem_singleton] at ht
  subst ht
  exact ⟨by kernel_rfl, of_decide_eq_true (by kernel_rfl)⟩

theorem cellTypes13 : Try.prog.cellTypes Try.prog.depth 62 = some [3, 3, 3, 3, 3, 3, 3, 3, 3, 4] := by kernel_rfl
theorem cellsOf13 : Try.prog.cellsOf 62 = 10 := by kernel_rfl

set_option maxRecDepth 100000 in
/-- The argument is numbers and a bool; the ideal run takes tokens for the numbers. -/
theorem arg13 {W : World} {base : Nat} {v : Value} (h : Value.okWide Try.prog W .any base 62 v) : ∃ (l : List Int) (b : Bool), l.length = 9 ∧
    VR (tokBeta l) (.agg #[.chan (some 0), .chan (some 1), .chan (some 2), .chan (some 3), .chan (some 4), .chan (some 5), .chan (some 6), .chan (some 7), .chan (some 8), .bool b]) v := by
  unfold Value.okWide at h
  rw [Try.underlying62] at h
  obtain ⟨cs, rfl, hsz, ts, hts, _, hc⟩ := h
  rw [cellsOf13] at hsz
  rw [cellTypes13] at hts
  obtain ⟨c0, c1, c2, c3, c4, c5, c6, c7, c8, c9, rfl⟩ := array10 hsz
  simp only [Option.some.injEq] at hts
  subst hts
  obtain ⟨a0, rfl⟩ : ∃ a, c0 = .int .i64 a := by obtain ⟨u, hu, hk⟩ := hc 0 c0 rfl; exact int_cell Try.underlying3 hu hk
  obtain ⟨a1, rfl⟩ : ∃ a, c1 = .int .i64 a := by obtain ⟨u, hu, hk⟩ := hc 1 c1 rfl; exact int_cell Try.underlying3 hu hk
  obtain ⟨a2, rfl⟩ : ∃ a, c2 = .int .i64 a := by obtain ⟨u, hu, hk⟩ := hc 2 c2 rfl; exact int_cell Try.underlying3 hu hk
  obtain ⟨a3, rfl⟩ : ∃ a, c3 = .int .i64 a := by obtain ⟨u, hu, hk⟩ := hc 3 c3 rfl; exact int_cell Try.underlying3 hu hk
  obtain ⟨a4, rfl⟩ : ∃ a, c4 = .int .i64 a := by obtain ⟨u, hu, hk⟩ := hc 4 c4 rfl; exact int_cell Try.underlying3 hu hk
  obtain ⟨a5, rfl⟩ : ∃ a, c5 = .int .i64 a := by obtain ⟨u, hu, hk⟩ := hc 5 c5 rfl; exact int_cell Try.underlying3 hu hk
  obtain ⟨a6, rfl⟩ : ∃ a, c6 = .int .i64 a := by obtain ⟨u, hu, hk⟩ := hc 6 c6 rfl; exact int_cell Try.underlying3 hu hk
  obtain ⟨a7, rfl⟩ : ∃ a, c7 = .int .i64 a := by obtain ⟨u, hu, hk⟩ := hc 7 c7 rfl; exact int_cell Try.underlying3 hu hk
  obtain ⟨a8, rfl⟩ : ∃ a, c8 = .int .i64 a := by obtain ⟨u, hu, hk⟩ := hc 8 c8 rfl; exact int_cell Try.underlying3 hu hk
  obtain ⟨b, rfl⟩ : ∃ a, c9 = .bool a := by obtain ⟨u, hu, hk⟩ := hc 9 c9 rfl; exact bool_cell Try.underlying4 hu hk
  refine ⟨[a0, a1, a2, a3, a4, a5, a6, a7, a8], b, rfl, ?_⟩
  have := LR.ar (β := tokBeta [a0, a1, a2, a3, a4, a5, a6, a7, a8]) (l := [.chan (some 0), .chan (some 1), .chan (some 2), .chan (some 3), .chan (some 4), .chan (some 5), .chan (some 6), .chan (some 7), .chan (some 8), .bool b]) (m := [.int .i64 a0, .int .i64 a1, .int .i64 a2, .int .i64 a3, .int .i64 a4, .int .i64 a5, .int .i64 a6, .int .i64 a7, .int .i64 a8, .bool b])
    ⟨tok_vr rfl, tok_vr rfl, tok_vr rfl, tok_vr rfl, tok_vr rfl, tok_vr rfl, tok_vr rfl, tok_vr rfl, tok_vr rfl, .bool b, trivial⟩
  exact .agg this.1 this.2

set_option maxRecDepth 100000 in
theorem cpusNone_lifted (os : Os) (started : os.Started) (H : Type) (enc : TypeId × Value → H) :
    ReturnsInHanded {} Try.checked os 13 .any (Rows.cpusNoneSpec.pre6 enc Try.prog Try.f13 Rows.cpusNoneRow.domain false) (Rows.cpusNoneSpec.post enc Try.prog Try.f13 false true false false) := by
  refine returnsInHanded_of_change (C := Try.checked) own13 started (by kernel_rfl) Try.func13
    (ChangeSpec.witness6 (enc := enc) (C := Try.checked) false ⟨#[], #[.agg #[.int .i64 0, .int .i64 0, .int .i64 0, .int .i64 0, .int .i64 0, .int .i64 0, .int .i64 0, .int .i64 0, .int .i64 0, .bool false]], []⟩ 8 (by kernel_rfl) (by kernel_rfl) (by kernel_rfl) (by kernel_rfl)) ?_
  intro W base args ds gs before hval0 hW _ _
  have hval : ∀ (j : Nat) t v, Try.f13.params[j]? = some t → args[j]? = some v → Value.okWide Try.prog W .any base t v := hval0
  have hW' : DataW.Whole enc Try.prog Try.f13.params.toList Rows.cpusNoneSpec.vars false W args.toList ds gs before := hW
  have hA := hW'
  obtain ⟨p, q, hA, _, _, _, _⟩ := hA
  rw [Try.params13] at hA hval
  obtain ⟨v, d, rfl, rfl⟩ := args_one hA
  obtain ⟨l, b, hl, hv⟩ := arg13 (hval 0 62 v rfl rfl)
  have ha : AR (tokBeta l) #[.agg #[.chan (some 0), .chan (some 1), .chan (some 2), .chan (some 3), .chan (some 4), .chan (some 5), .chan (some 6), .chan (some 7), .chan (some 8), .bool b]] #[v] := LR.ar (l := [_]) (m := [_]) ⟨hv, trivial⟩
  refine calls_true (m := 100) mixed13 laidOut13 params13_ok rfl Try.underlying4 rfl rfl hW' (R.tokens Try.prog W l) ha ?_
  rw [hl]
  cases b with
  | true => exact T.all_of_allB (fun _ h => isTrue_spec h) ran13t
  | false => exact T.all_of_allB (fun _ h => isTrue_spec h) ran13f

theorem cpusNone_holds : Rows.CpusNoneSaid :=
  OpenClaim.holds_of_wide 13 Try.f13 rfl rfl rfl rfl rfl rfl rfl ⟨rfl, rfl, rfl, rfl, rfl⟩ rfl rfl rfl rfl rfl (by kernel_rfl) Try.func13 (by kernel_rfl)
    (of_decide_eq_true (by kernel_rfl)) (by unfold Func.isWrapper; first | (rw [if_pos (by decide +kernel)]; kernel_rfl) | (rw [if_neg (by decide +kernel)]; exact ⟨rfl, rfl⟩))
    (fun os started H enc _ => cpusNone_lifted os started H enc)

#print axioms cpusNone_holds
end Go.Proofs.Ytplcocifndpplaa
