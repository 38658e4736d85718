/-
  The processors' calls that come as an argument.
-/
import Derived.Test.YtplcocifndpplaaRows
import Derived.Test.YtplcocifndpplaaPs
import Derived.Test.YtplcocifndpplaaCq
namespace Go.Proofs.Ytplcocifndpplaa
open Go Go.Ideal Go.ChangeShapes

theorem laidOut : laidOutB Try.prog = true := by kernel_rfl
theorem own : ownKnob Try.prog.godebug = none := by kernel_rfl
theorem cellsOf62 : Try.prog.cellsOf 62 = 10 := by kernel_rfl
theorem under56 : Try.prog.underlying 56 = some (.slice 62) := by kernel_rfl

section
variable {H : Type} {enc : TypeId × Value → H} {W : World} {base fuel : Nat} {sp : Nat → Bool} {hd : Bool}
theorem list10 {α : Type} {l : List α} (h : l.length = 10) : ∃ a b c d e f g i j k, l = [a, b, c, d, e, f, g, i, j, k] := by
  match l, h with
  | [a, b, c, d, e, f, g, i, j, k], _ => exact ⟨a, b, c, d, e, f, g, i, j, k, rfl⟩
theorem list6 {α : Type} {l : List α} (h : l.length = 6) : ∃ a b c d e f, l = [a, b, c, d, e, f] := by
  match l, h with
  | [a, b, c, d, e, f], _ => exact ⟨a, b, c, d, e, f, rfl⟩
theorem trod_actC {cs : List Value} {y : DataW H × List MemPlace} (h : DataW.trod enc Try.prog W base sp hd fuel 62 cs = some y) : ∃ a : ActC, cs = a.cells.toList ∧ a.ok := by
  obtain ⟨xs, m, _, _, hl, hn, hf⟩ := DataW.trod_struct Try.underlying62 h
  rw [cellsOf62] at hl
  obtain ⟨a, b, c, d, e, f, g, i, j, k, rfl⟩ := list10 hl
  obtain ⟨x0, x1, x2, x3, x4, x5, rfl⟩ := list6 (show xs.length = 6 from hn)
  have h0 := hf 0 _ rfl
  have h1 := hf 1 _ rfl
  have h2 := hf 2 _ rfl
  have h3 := hf 3 _ rfl
  have h4 := hf 4 _ rfl
  have h5 := hf 5 _ rfl
  simp [cellsOf3, cellsOf31] at h0 h1 h2 h3 h4 h5
  obtain ⟨a, rfl, g0⟩ := trod_i64 h0
  obtain ⟨b, rfl, g1⟩ := trod_i64 h1
  obtain ⟨c, rfl, g2⟩ := trod_i64 h2
  obtain ⟨d, rfl, g3⟩ := trod_i64 h3
  obtain ⟨e, rfl, g4⟩ := trod_i64 h4
  obtain ⟨l, hl', _⟩ := trod_line h5
  simp only [Line.cells, List.cons.injEq, and_true] at hl'
  obtain ⟨rfl, rfl, rfl, rfl, rfl⟩ := hl'
  exact ⟨⟨a, b, c, d, e, l⟩, rfl, g2, g3, g4⟩
theorem actC_plain {a : ActC} : ∀ v ∈ a.cells.toList, selfD 4 v = true := by
  intro v hv
  simp [ActC.cells] at hv
  rcases hv with rfl | rfl | rfl | rfl | rfl | rfl | rfl | rfl | rfl | rfl <;> rfl

theorem froz_start {P : Program} {σ : World} {β : Beta} (hR : R P W.heap.size (Base.of W) β σ W) (v : Value) : Froz σ v := by
  intro b o vl vc c e fz _ hc hn hz
  subst hz
  have hb : σ.heap[b]? = some (.cells c e (0, 0)) := by
    unfold cellsOf? at hc
    split at hc
    · rename_i h; simp only [Option.some.injEq, Prod.mk.injEq] at hc; obtain ⟨rfl, rfl, rfl⟩ := hc; exact h
    · cases hc
  obtain ⟨bi, hbi⟩ := hR.cov b (Array.getElem?_eq_some_iff.1 hb).1
  have h1 := hR.new _ _ _ hb hbi rfl
  have h2 := hR.lt hb hbi rfl
  omega

/-- Calls that come. -/
theorem actsC_start {v : Value} {y : DataW H × List MemPlace} (hok : ∃ base, Cell.okWide Try.prog W .any base 56 v) (h : DataW.trod enc Try.prog W 0 (fun _ => true) true fuel 56 [v] = some y) :
    ∃ β σ vI xs, R Try.prog W.heap.size (Base.of W) β σ W ∧ VR β vI v ∧ ActsC σ vI xs := by
  obtain ⟨β, σ, vI, ys, hR, hv, ⟨vb, vc, hvI, hel⟩, hys⟩ := slice_start (es := 10) under56 cellsOf62 (by decide) (fun n cs y hy => by
    obtain ⟨a, rfl, _⟩ := trod_actC hy
    exact ⟨rfl, actC_plain⟩) (.inr hok) h
  have hx : ∃ xs : List ActC, ys = xs.map ActC.cells ∧ ∀ a ∈ xs, a.ok := by
    clear hel hvI
    induction ys with
    | nil => exact ⟨[], rfl, fun a ha => by cases ha⟩
    | cons c ys ih =>
      obtain ⟨xs, rfl, h2⟩ := ih (fun c hc => hys c (by simp [hc]))
      obtain ⟨n, y, hy⟩ := hys c (by simp)
      obtain ⟨a, ha, hok⟩ := trod_actC hy
      refine ⟨a :: xs, ?_, fun b hb => ?_⟩
      · rw [List.map_cons, ← (show a.cells = c from by apply Array.ext'; exact ha.symm)]
      · rcases List.mem_cons.1 hb with rfl | hb
        · exact hok
        · exact h2 b hb
  obtain ⟨xs, rfl, hxs⟩ := hx
  have hfr := froz_start hR vI
  refine ⟨β, σ, vI, xs, hR, hv, hxs, vb, vc, by simpa using hvI, fun i hi => ?_⟩
  obtain ⟨b, o, c, e, fz, h1, h2, h3, h4⟩ := hel i (by simpa using hi)
  subst h1
  exact ⟨b, o, c, e, fz, rfl, h2, hfr b o _ _ c e fz hvI h2 (by omega), h3, by simpa using h4⟩
end
set_option maxRecDepth 100000 in
theorem u8_ok {W : World} {base : Nat} {v : Value} (h : Value.okWide Try.prog W .any base 5 v) : ∃ n, v = .int .u8 n ∧ 0 ≤ n ∧ n < 256 := by
  unfold Value.okWide at h
  rw [under5] at h
  rcases plainCell_self (by unfold Go.Ideal.plainCell; rw [under5]) h with ⟨h1, _⟩ | ⟨k, h1, n, h2, h3⟩ | ⟨h1, _⟩
  · rw [under5] at h1; cases h1
  · rw [under5] at h1
    simp only [Option.some.injEq, TypeDesc.int.injEq] at h1
    subst h1
    refine ⟨n, h2, ?_⟩
    simp [IntKind.has, IntKind.min, IntKind.max, IntKind.signed, IntKind.bits] at h3
    omega
  · rw [under5] at h1; cases h1
set_option maxRecDepth 100000 in
theorem i64_ok {W : World} {base : Nat} {v : Value} (h : Value.okWide Try.prog W .any base 3 v) : ∃ n, v = i64 n := by
  unfold Value.okWide at h
  rw [under3] at h
  exact int_cell under3 rfl h
set_option maxRecDepth 100000 in
theorem actsC_ok {W : World} {base : Nat} {v : Value} (h : Value.okWide Try.prog W .any base 56 v) : Cell.okWide Try.prog W .any base 56 v := by
  unfold Value.okWide at h
  rw [under56] at h
  exact h
set_option maxRecDepth 100000 in
theorem actsC_one {W : World} {base : Nat} {v : Value} (h : Cell.okWide Try.prog W .any base 56 v) : v.cells.toList = [v] := by
  unfold Cell.okWide at h
  rw [under56] at h
  cases v <;> first | rfl | (simp [Cell.ok] at h)
set_option maxRecDepth 100000 in
theorem aggC_ok {W : World} {base : Nat} {v : Value} (h : Value.okWide Try.prog W .any base 62 v) : ∃ cs, v = .agg cs := by
  unfold Value.okWide at h
  rw [Try.underlying62] at h
  obtain ⟨cs, rfl, _⟩ := h
  exact ⟨cs, rfl⟩
end Go.Proofs.Ytplcocifndpplaa
