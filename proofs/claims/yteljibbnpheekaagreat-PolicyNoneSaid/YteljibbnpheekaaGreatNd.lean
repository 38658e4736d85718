/-
  PolicyNone: whatever the argument, the statement answers true, and it reads behind the call as it read before. No condition.
-/
import Derived.Test.YteljibbnpheekaaGreatNc
import Derived.Test.YteljibbnpheekaaGreatEe
import Derived.Test.YteljibbnpheekaaGreatOb
import Derived.Test.YteljibbnpheekaaGreatOc
namespace Go.Proofs.YteljibbnpheekaaGreat
open Go Go.Ideal Go.ChangeShapes Go.WideShapes Go.ChangeAt Go.RowKit

set_option maxRecDepth 100000 in
theorem params5_ok : ∀ t ∈ Tryz.f5.params.toList, Tryz.prog.readableRec t = true ∧ t < Tryz.prog.types.size := by
  rw [Tryz.params5]
  intro t ht
  simp only [List.mem_cons, List.not_mem_nil, or_false] at ht
  subst ht
  exact ⟨by kernel_rfl, of_decide_eq_true (by kernel_rfl)⟩
theorem cellTypes39 : Tryz.prog.cellTypes Tryz.prog.depth 39 = some [3, 3, 3, 3, 3, 3, 3, 3, 3, 3, 3, 35] := by kernel_rfl
theorem open12 {α : Type} {cs : Array α} (h : cs.size = 12) : ∃ a b c d e f g i j k l m, cs = #[a, b, c, d, e, f, g, i, j, k, l, m] := by
  obtain ⟨l⟩ := cs
  match l, h with
  | [a, b, c, d, e, f, g, i, j, k, l, m], _ => exact ⟨a, b, c, d, e, f, g, i, j, k, l, m, rfl⟩
theorem int_cellK {P : Program} {w : World} {r : Reach} {base : Nat} {t u : TypeId} {k : IntKind} {v : Value} (ht : P.underlying t = some (.int k)) (he : some t = some u) (h : Cell.okWide P w r base u v) : ∃ a, v = .int k a := by
  simp only [Option.some.injEq] at he
  subst he
  rcases plainCell_self (by unfold Ideal.plainCell; rw [ht]) h with ⟨h1, _⟩ | ⟨k, h1, n, h2, _⟩ | ⟨h1, _⟩
  · rw [ht] at h1; cases h1
  · rw [ht] at h1
    simp only [Option.some.injEq, TypeDesc.int.injEq] at h1
    subst h1
    exact ⟨n, h2⟩
  · rw [ht] at h1; cases h1
set_option maxRecDepth 100000 in
/-- The argument is numbers; the ideal run takes a token for the second one. -/
theorem arg39 {W : World} {base : Nat} {v : Value} (h : Value.okWide Tryz.prog W .any base 39 v) : ∃ (b a c d e f g i j k l m : Int), VR (tokBeta [b]) (stepT a c d e f g i j k l m) v := by
  unfold Value.okWide at h
  rw [Tryz.underlying39] at h
  obtain ⟨cs, rfl, hsz, ts, hts, _, hc⟩ := h
  rw [cellsOf39] at hsz
  rw [cellTypes39] at hts
  obtain ⟨c0, c1, c2, c3, c4, c5, c6, c7, c8, c9, c10, c11, rfl⟩ := open12 hsz
  simp only [Option.some.injEq] at hts
  subst hts
  obtain ⟨a0, rfl⟩ : ∃ a, c0 = .int .i64 a := by obtain ⟨u, hu, hk⟩ := hc 0 c0 rfl; exact int_cell under3 hu hk
  obtain ⟨a1, rfl⟩ : ∃ a, c1 = .int .i64 a := by obtain ⟨u, hu, hk⟩ := hc 1 c1 rfl; exact int_cell under3 hu hk
  obtain ⟨a2, rfl⟩ : ∃ a, c2 = .int .i64 a := by obtain ⟨u, hu, hk⟩ := hc 2 c2 rfl; exact int_cell under3 hu hk
  obtain ⟨a3, rfl⟩ : ∃ a, c3 = .int .i64 a := by obtain ⟨u, hu, hk⟩ := hc 3 c3 rfl; exact int_cell under3 hu hk
  obtain ⟨a4, rfl⟩ : ∃ a, c4 = .int .i64 a := by obtain ⟨u, hu, hk⟩ := hc 4 c4 rfl; exact int_cell under3 hu hk
  obtain ⟨a5, rfl⟩ : ∃ a, c5 = .int .i64 a := by obtain ⟨u, hu, hk⟩ := hc 5 c5 rfl; exact int_cell under3 hu hk
  obtain ⟨a6, rfl⟩ : ∃ a, c6 = .int .i64 a := by obtain ⟨u, hu, hk⟩ := hc 6 c6 rfl; exact int_cell under3 hu hk
  obtain ⟨a7, rfl⟩ : ∃ a, c7 = .int .i64 a := by obtain ⟨u, hu, hk⟩ := hc 7 c7 rfl; exact int_cell under3 hu hk
  obtain ⟨a8, rfl⟩ : ∃ a, c8 = .int .i64 a := by obtain ⟨u, hu, hk⟩ := hc 8 c8 rfl; exact int_cell under3 hu hk
  obtain ⟨a9, rfl⟩ : ∃ a, c9 = .int .i64 a := by obtain ⟨u, hu, hk⟩ := hc 9 c9 rfl; exact int_cell under3 hu hk
  obtain ⟨a10, rfl⟩ : ∃ a, c10 = .int .i64 a := by obtain ⟨u, hu, hk⟩ := hc 10 c10 rfl; exact int_cell under3 hu hk
  obtain ⟨a11, rfl⟩ : ∃ a, c11 = .int .u64 a := by obtain ⟨u, hu, hk⟩ := hc 11 c11 rfl; exact int_cellK under35 hu hk
  refine ⟨a1, a0, a2, a3, a4, a5, a6, a7, a8, a9, a10, a11, ?_⟩
  have := LR.ar (β := tokBeta [a1]) (l := [.int .i64 a0, .chan (some 0), .int .i64 a2, .int .i64 a3, .int .i64 a4, .int .i64 a5, .int .i64 a6, .int .i64 a7, .int .i64 a8, .int .i64 a9, .int .i64 a10, .int .u64 a11])
    (m := [.int .i64 a0, .int .i64 a1, .int .i64 a2, .int .i64 a3, .int .i64 a4, .int .i64 a5, .int .i64 a6, .int .i64 a7, .int .i64 a8, .int .i64 a9, .int .i64 a10, .int .u64 a11])
    ⟨.int _ _, tok_vr rfl, .int _ _, .int _ _, .int _ _, .int _ _, .int _ _, .int _ _, .int _ _, .int _ _, .int _ _, .int _ _, trivial⟩
  exact .agg this.1 this.2

set_option maxRecDepth 100000 in
theorem policyNone_lifted (os : Os) (started : os.Started) (H : Type) (enc : TypeId × Value → H) :
    ReturnsInHanded {} Tryz.checked os 5 .any (Rows.policyNoneSpec.pre6 enc Tryz.prog Tryz.f5 Rows.policyNoneRow.domain false) (Rows.policyNoneSpec.post enc Tryz.prog Tryz.f5 false true false false) := by
  refine returnsInHanded_of_change (C := Tryz.checked) own started (by kernel_rfl) Tryz.func5
    (ChangeSpec.witness6 (enc := enc) (C := Tryz.checked) false ⟨#[], #[.agg #[.int .i64 0, .int .i64 0, .int .i64 0, .int .i64 0, .int .i64 0, .int .i64 0, .int .i64 0, .int .i64 0, .int .i64 0, .int .i64 0, .int .i64 0, .int .u64 0]], []⟩ 8 (by kernel_rfl) (by kernel_rfl) (by kernel_rfl) (by kernel_rfl)) ?_
  intro W base args ds gs before hval0 hW _ _
  have hval : ∀ (j : Nat) t v, Tryz.f5.params[j]? = some t → args[j]? = some v → Value.okWide Tryz.prog W .any base t v := hval0
  have hW' : DataW.Whole enc Tryz.prog Tryz.f5.params.toList Rows.policyNoneSpec.vars false W args.toList ds gs before := hW
  have hA := hW'
  obtain ⟨p, q, hA, _, _, _, _⟩ := hA
  rw [Tryz.params5] at hA hval
  obtain ⟨v, d, rfl, rfl⟩ := args_one hA
  obtain ⟨b, a0, a2, a3, a4, a5, a6, a7, a8, a9, a10, a11, hv⟩ := arg39 (hval 0 39 v rfl rfl)
  have ha : AR (tokBeta [b]) #[stepT a0 a2 a3 a4 a5 a6 a7 a8 a9 a10 a11] #[v] := LR.ar (l := [_]) (m := [_]) ⟨hv, trivial⟩
  exact calls_trueH (m := 40) mixed (yesL rA27_calls) laidOut params5_ok rfl Tryz.underlying4 rfl rfl hW' (R.tokens Tryz.prog W [b]) ha (run5 a0 a2 a3 a4 a5 a6 a7 a8 a9 a10 a11)

theorem policyNone_holds : Rows.PolicyNoneSaid :=
  OpenClaim.holds_of_wide 5 Tryz.f5 rfl rfl rfl rfl rfl rfl rfl ⟨rfl, rfl, rfl, rfl, rfl⟩ rfl rfl rfl rfl rfl named5 Tryz.func5 facts5
    (of_decide_eq_true (by kernel_rfl)) (by unfold Func.isWrapper; first | (rw [if_pos (by decide +kernel)]; kernel_rfl) | (rw [if_neg (by decide +kernel)]; exact ⟨rfl, rfl⟩))
    (fun os started H enc _ => policyNone_lifted os started H enc)

#print axioms policyNone_holds
end Go.Proofs.YteljibbnpheekaaGreat
