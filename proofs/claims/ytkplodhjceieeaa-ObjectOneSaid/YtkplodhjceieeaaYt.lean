/-
  The objects' calls that come as an argument.
-/
import Derived.Test.YtkplodhjceieeaaYs
import Derived.Test.YtkplodhjceieeaaZh
namespace Go.Proofs.Ytkplodhjceieeaa
open Go Go.Ideal Go.ChangeShapes

theorem cellsOf51 : Try.prog.cellsOf 51 = 5 := by kernel_rfl
theorem underA : Try.prog.underlying 34 = some (.slice 51) := by kernel_rfl

section
variable {H : Type} {enc : TypeId × Value → H} {W : World} {base fuel : Nat} {sp : Nat → Bool} {hd : Bool}
theorem list5 {α : Type} {l : List α} (h : l.length = 5) : ∃ a b c d e, l = [a, b, c, d, e] := by
  match l, h with
  | [a, b, c, d, e], _ => exact ⟨a, b, c, d, e, rfl⟩
theorem trod_actO {cs : List Value} {y : DataW H × List MemPlace} (h : DataW.trod enc Try.prog W base sp hd fuel 51 cs = some y) : ∃ a : ActO, cs = a.cells.toList := by
  obtain ⟨xs, m, _, _, hl, hn, hf⟩ := DataW.trod_struct Try.underlying51 h
  rw [cellsOf51] at hl
  obtain ⟨a, b, c, d, e, rfl⟩ := list5 hl
  obtain ⟨x0, x1, x2, x3, x4, rfl⟩ := list5 (show xs.length = 5 from hn)
  have h0 := hf 0 _ rfl
  have h1 := hf 1 _ rfl
  have h2 := hf 2 _ rfl
  have h3 := hf 3 _ rfl
  have h4 := hf 4 _ rfl
  simp [cellsOf3] at h0 h1 h2 h3 h4
  obtain ⟨a, ha⟩ := trod_i64' h0
  obtain ⟨b, hb⟩ := trod_i64' h1
  obtain ⟨c, hc⟩ := trod_i64' h2
  obtain ⟨d, hd⟩ := trod_i64' h3
  obtain ⟨e, he⟩ := trod_i64' h4
  simp only [List.cons.injEq, and_true] at ha hb hc hd he
  subst ha hb hc hd he
  exact ⟨⟨a, b, c, d, e⟩, rfl⟩
theorem actO_plain {a : ActO} : ∀ v ∈ a.cells.toList, selfD 4 v = true := by
  intro v hv
  simp [ActO.cells] at hv
  rcases hv with rfl | rfl | rfl | rfl | rfl <;> rfl
theorem actsO_rows (ys : List (Array Value)) (h : ∀ c ∈ ys, ∃ n y, DataW.trod enc Try.prog W 0 (fun _ => true) true n 51 c.toList = some y) : ∃ xs : List ActO, ys = xs.map ActO.cells := by
  induction ys with
  | nil => exact ⟨[], rfl⟩
  | cons c ys ih =>
    obtain ⟨xs, rfl⟩ := ih (fun c hc => h c (by simp [hc]))
    obtain ⟨n, y, hy⟩ := h c (by simp)
    obtain ⟨a, ha⟩ := trod_actO hy
    refine ⟨a :: xs, ?_⟩
    rw [List.map_cons, ← (show a.cells = c from by apply Array.ext'; exact ha.symm)]
theorem actsO_start {v : Value} {y : DataW H × List MemPlace} (hok : ∃ base, Cell.okWide Try.prog W .any base 34 v) (h : DataW.trod enc Try.prog W 0 (fun _ => true) true fuel 34 [v] = some y) :
    ∃ β σ vI xs, R Try.prog W.heap.size (Base.of W) β σ W ∧ VR β vI v ∧ ActsO σ vI xs := by
  obtain ⟨β, σ, vI, ys, hR, hv, hel, hys⟩ := slice_start (es := 5) underA cellsOf51 (by decide) (fun n cs y hy => by
    obtain ⟨a, rfl⟩ := trod_actO hy
    exact ⟨rfl, actO_plain⟩) (.inr hok) h
  obtain ⟨xs, rfl⟩ := actsO_rows ys hys
  exact ⟨β, σ, vI, xs, hR, hv, hel⟩
end
set_option maxRecDepth 100000 in
theorem i64_ok {W : World} {base : Nat} {v : Value} (h : Value.okWide Try.prog W .any base 3 v) : ∃ n, v = n64 n := by
  unfold Value.okWide at h
  rw [under3] at h
  exact int_cell under3 rfl h
set_option maxRecDepth 100000 in
theorem actsO_ok {W : World} {base : Nat} {v : Value} (h : Value.okWide Try.prog W .any base 34 v) : Cell.okWide Try.prog W .any base 34 v := by
  unfold Value.okWide at h
  rw [underA] at h
  exact h
set_option maxRecDepth 100000 in
theorem actsO_one {W : World} {base : Nat} {v : Value} (h : Cell.okWide Try.prog W .any base 34 v) : v.cells.toList = [v] := by
  unfold Cell.okWide at h
  rw [underA] at h
  cases v <;> first | rfl | (simp [Cell.ok] at h)
end Go.Proofs.Ytkplodhjceieeaa
