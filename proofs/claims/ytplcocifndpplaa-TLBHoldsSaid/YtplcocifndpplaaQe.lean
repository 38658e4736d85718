/-
  TLBHolds: whatever the size, the calls and the page, the statement answers true, and its arguments read behind the call as they read before. No condition.
-/
import Derived.Test.YtplcocifndpplaaPt
import Derived.Test.YtplcocifndpplaaPs
namespace Go.Proofs.Ytplcocifndpplaa
open Go Go.Ideal Go.ChangeShapes Go.WideShapes Go.ChangeAt Go.RowKit

theorem own8 : ownKnob Try.prog.godebug = none := by kernel_rfl
theorem laidOut8 : laidOutB Try.prog = true := by kernel_rfl

set_option maxRecDepth 100000 in
theorem params8_ok : ∀ t ∈ Try.f8.params.toList, Try.prog.readableRec t = true ∧ t < Try.prog.types.size := by
  rw [Try.params8]
  intro t ht
  simp only [List.mem_cons, List.not_mem_nil, or_false] at ht
  subst ht
  exact ⟨by kernel_rfl, of_decide_eq_true (by kernel_rfl)⟩

set_option maxRecDepth 100000 in
theorem arg8 {H : Type} {enc : TypeId × Value → H} {W : World} {base : Nat} {v : Value} {d : DataW H} {p : List MemPlace} (h : Value.okWide Try.prog W .any base 54 v) (ht : DataW.Trod enc Try.prog W 0 (fun _ => true) true 54 v d p) :
    ∃ β σ vI xs size s q, R Try.prog W.heap.size (Base.of W) β σ W ∧ VR β (.agg #[.int .u8 size, vI, i64 s, i64 q]) v ∧ ActsAt σ vI xs ∧ (0 ≤ size ∧ size < 256) ∧ In64 q := by
  unfold Value.okWide at h
  rw [Try.underlying54] at h
  obtain ⟨cs, rfl, hsz, ts, hts, _, hc⟩ := h
  rw [cellTypes54] at hts
  simp only [Option.some.injEq] at hts
  subst hts
  obtain ⟨fuel, ht⟩ := ht
  obtain ⟨xs, m, _, _, hl, hn, hf⟩ := DataW.trod_struct Try.underlying54 ht
  rw [cellsOf54] at hl
  obtain ⟨a, b, c, e, hcs⟩ := list4 (show cs.toList.length = 4 from hl)
  obtain ⟨x0, x1, x2, x3, rfl⟩ := list4 (show xs.length = 4 from hn)
  obtain ⟨cs⟩ := cs
  simp only at hcs
  subst hcs
  have h0 := hf 0 _ rfl
  have h1 := hf 1 _ rfl
  have h2 := hf 2 _ rfl
  have h3 := hf 3 _ rfl
  simp [cellsOf3, cellsOf5, cellsOf22, Value.cells] at h0 h1 h2 h3
  obtain ⟨size, rfl, hsize⟩ := trod_u8 h0
  obtain ⟨s, rfl, _⟩ := trod_i64 h2
  obtain ⟨q, rfl, hq⟩ := trod_i64 h3
  obtain ⟨u, hu, hk⟩ := hc 1 b rfl
  simp at hu
  subst hu
  obtain ⟨β, σ, vI, as', hR, hv, hA⟩ := acts_start ⟨_, hk⟩ h1
  have := LR.ar (β := β) (l := [.int .u8 size, vI, i64 s, i64 q]) (m := [.int .u8 size, b, i64 s, i64 q]) ⟨.int _ _, hv, .int _ _, .int _ _, trivial⟩
  exact ⟨β, σ, vI, as', size, s, q, hR, .agg this.1 this.2, hA, hsize, hq⟩

set_option maxRecDepth 100000 in
theorem tLBHolds_lifted (os : Os) (started : os.Started) (H : Type) (enc : TypeId × Value → H) :
    ReturnsInHanded {} Try.checked os 8 .any (Rows.tLBHoldsSpec.pre6 enc Try.prog Try.f8 Rows.tLBHoldsRow.domain false) (Rows.tLBHoldsSpec.post enc Try.prog Try.f8 false true false false) := by
  refine returnsInHanded_of_change (C := Try.checked) own8 started (by kernel_rfl) Try.func8
    (ChangeSpec.witness6 (enc := enc) (C := Try.checked) false ⟨#[], #[.agg #[.int .u8 0, .slice none 0 0, .int .i64 0, .int .i64 0]], []⟩ 8 (by kernel_rfl) (by kernel_rfl) (by kernel_rfl) (by kernel_rfl)) ?_
  intro W base args ds gs before hval0 hW _ _
  have hval : ∀ (j : Nat) t v, Try.f8.params[j]? = some t → args[j]? = some v → Value.okWide Try.prog W .any base t v := hval0
  have hW' : DataW.Whole enc Try.prog Try.f8.params.toList Rows.tLBHoldsSpec.vars false W args.toList ds gs before := hW
  have hA := hW'
  obtain ⟨p, q, hA, _, _, _, _⟩ := hA
  rw [Try.params8] at hA hval
  obtain ⟨v, d, rfl, rfl, hd⟩ := trodAll_one hA
  obtain ⟨β, σ, vI, xs, size, s, q, hR, hv, hacts, hsize, hq⟩ := arg8 (hval 0 54 v rfl rfl) hd
  have ha : AR β #[.agg #[.int .u8 size, vI, i64 s, i64 q]] #[v] := LR.ar (l := [_]) (m := [_]) ⟨hv, trivial⟩
  exact calls_trueA (m := 2008) mixed sp5_ok laidOut8 params8_ok rfl Try.underlying4 rfl rfl hW' hR ha (enter_ok (m := 2007) low8 rfl (run8 (top 2000 (by omega)) (by omega) hsize hq hacts))

theorem tLBHolds_holds : Rows.TLBHoldsSaid :=
  OpenClaim.holds_of_wide 8 Try.f8 rfl rfl rfl rfl rfl rfl rfl ⟨rfl, rfl, rfl, rfl, rfl⟩ rfl rfl rfl rfl rfl (by kernel_rfl) Try.func8 (by kernel_rfl)
    (of_decide_eq_true (by kernel_rfl)) (by unfold Func.isWrapper; first | (rw [if_pos (by decide +kernel)]; kernel_rfl) | (rw [if_neg (by decide +kernel)]; exact ⟨rfl, rfl⟩))
    (fun os started H enc _ => tLBHolds_lifted os started H enc)

#print axioms tLBHolds_holds
end Go.Proofs.Ytplcocifndpplaa
