/-
  The pool's calls that come as an argument.
-/
import Derived.Test.YtkplodhjceieeaaRows
import Derived.Test.YtkplodhjceieeaaJp
import Derived.Test.YtkplodhjceieeaaUk
namespace Go.Proofs.Ytkplodhjceieeaa
open Go Go.Ideal Go.ChangeShapes

theorem laidOut : laidOutB Try.prog = true := by kernel_rfl
theorem own : ownKnob Try.prog.godebug = none := by kernel_rfl
theorem cellsOf3 : Try.prog.cellsOf 3 = 1 := by kernel_rfl
theorem cellsOf4 : Try.prog.cellsOf 4 = 1 := by kernel_rfl
theorem cellsOf53 : Try.prog.cellsOf 53 = 1 := by kernel_rfl
theorem cellsOf63 : Try.prog.cellsOf 63 = 4 := by kernel_rfl
theorem under3 : Try.prog.underlying 3 = some (.int .i64) := Try.underlying3
theorem under4 : Try.prog.underlying 4 = some .bool := Try.underlying4
theorem under53 : Try.prog.underlying 53 = some (.slice 63) := by kernel_rfl

section
variable {H : Type} {enc : TypeId × Value → H} {W : World} {base fuel : Nat} {sp : Nat → Bool} {hd : Bool}

theorem list4 {α : Type} {l : List α} (h : l.length = 4) : ∃ a b c d, l = [a, b, c, d] := by
  match l, h with
  | [a, b, c, d], _ => exact ⟨a, b, c, d, rfl⟩

theorem trod_i64 {m : Nat} {v : Value} {y : DataW H × List MemPlace} (h : DataW.trod enc Try.prog W base sp hd m 3 [v] = some y) : ∃ n, v = n64 n := by
  obtain ⟨n, h1, _, _⟩ := DataW.trod_int under3 h
  simp only [List.cons.injEq, and_true] at h1
  exact ⟨n, h1⟩
theorem trod_b {m : Nat} {v : Value} {y : DataW H × List MemPlace} (h : DataW.trod enc Try.prog W base sp hd m 4 [v] = some y) : ∃ b, v = .bool b := by
  obtain ⟨b, h1, _⟩ := DataW.trod_bool under4 h
  simp only [List.cons.injEq, and_true] at h1
  exact ⟨b, h1⟩

/-- A call that comes. -/
theorem trod_act {cs : List Value} {y : DataW H × List MemPlace} (h : DataW.trod enc Try.prog W base sp hd fuel 63 cs = some y) : ∃ a : ActP, cs = a.cells.toList := by
  obtain ⟨xs, m, _, _, hl, hn, hf⟩ := DataW.trod_struct Try.underlying63 h
  rw [cellsOf63] at hl
  obtain ⟨a, b, c, d, rfl⟩ := list4 hl
  obtain ⟨x0, x1, x2, x3, rfl⟩ := list4 (show xs.length = 4 from hn)
  have h0 := hf 0 _ rfl
  have h1 := hf 1 _ rfl
  have h2 := hf 2 _ rfl
  have h3 := hf 3 _ rfl
  simp [cellsOf3, cellsOf4] at h0 h1 h2 h3
  obtain ⟨a, rfl⟩ := trod_i64 h0
  obtain ⟨b, rfl⟩ := trod_i64 h1
  obtain ⟨c, rfl⟩ := trod_i64 h2
  obtain ⟨d, rfl⟩ := trod_b h3
  exact ⟨⟨a, b, c, d⟩, rfl⟩

theorem act_plain {a : ActP} : ∀ v ∈ a.cells.toList, selfD 4 v = true := by
  intro v hv
  simp [ActP.cells] at hv
  rcases hv with rfl | rfl | rfl | rfl <;> rfl

/-- What a row of calls holds. -/
theorem acts_rows (ys : List (Array Value)) (h : ∀ c ∈ ys, ∃ n y, DataW.trod enc Try.prog W 0 (fun _ => true) true n 63 c.toList = some y) : ∃ xs : List ActP, ys = xs.map ActP.cells := by
  induction ys with
  | nil => exact ⟨[], rfl⟩
  | cons c ys ih =>
    obtain ⟨xs, rfl⟩ := ih (fun c hc => h c (by simp [hc]))
    obtain ⟨n, y, hy⟩ := h c (by simp)
    obtain ⟨a, ha⟩ := trod_act hy
    refine ⟨a :: xs, ?_⟩
    rw [List.map_cons, ← (show a.cells = c from by apply Array.ext'; exact ha.symm)]

/-- Calls that come. -/
theorem acts_start {v : Value} {y : DataW H × List MemPlace} (hok : ∃ base, Cell.okWide Try.prog W .any base 53 v) (h : DataW.trod enc Try.prog W 0 (fun _ => true) true fuel 53 [v] = some y) :
    ∃ β σ vI xs, R Try.prog W.heap.size (Base.of W) β σ W ∧ VR β vI v ∧ ActsAt σ vI xs := by
  obtain ⟨β, σ, vI, ys, hR, hv, hel, hys⟩ := slice_start (es := 4) under53 cellsOf63 (by decide) (fun n cs y hy => by
    obtain ⟨a, rfl⟩ := trod_act hy
    exact ⟨rfl, act_plain⟩) (.inr hok) h
  obtain ⟨xs, rfl⟩ := acts_rows ys hys
  exact ⟨β, σ, vI, xs, hR, hv, hel⟩
end

set_option maxRecDepth 100000 in
theorem i64_ok {W : World} {base : Nat} {v : Value} (h : Value.okWide Try.prog W .any base 3 v) : ∃ n, v = n64 n := by
  unfold Value.okWide at h
  rw [under3] at h
  exact int_cell under3 rfl h
set_option maxRecDepth 100000 in
theorem b_ok {W : World} {base : Nat} {v : Value} (h : Value.okWide Try.prog W .any base 4 v) : ∃ n, v = .bool n := by
  unfold Value.okWide at h
  rw [under4] at h
  exact bool_cell under4 rfl h
set_option maxRecDepth 100000 in
theorem acts_ok {W : World} {base : Nat} {v : Value} (h : Value.okWide Try.prog W .any base 53 v) : Cell.okWide Try.prog W .any base 53 v := by
  unfold Value.okWide at h
  rw [under53] at h
  exact h
set_option maxRecDepth 100000 in
theorem acts_one {W : World} {base : Nat} {v : Value} (h : Cell.okWide Try.prog W .any base 53 v) : v.cells.toList = [v] := by
  unfold Cell.okWide at h
  rw [under53] at h
  cases v <;> first | rfl | (simp [Cell.ok] at h)
set_option maxRecDepth 100000 in
theorem agg_ok {W : World} {base : Nat} {v : Value} (h : Value.okWide Try.prog W .any base 63 v) : ∃ cs, v = .agg cs := by
  unfold Value.okWide at h
  rw [Try.underlying63] at h
  obtain ⟨cs, rfl, _⟩ := h
  exact ⟨cs, rfl⟩
end Go.Proofs.Ytkplodhjceieeaa
