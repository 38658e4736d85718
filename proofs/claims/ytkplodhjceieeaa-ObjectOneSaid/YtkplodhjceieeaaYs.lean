/-
  Numbers that come as an argument.
-/
import Derived.Test.YtkplodhjceieeaaRows
import Derived.Test.YtkplodhjceieeaaXi
import Derived.Test.YtkplodhjceieeaaJp
namespace Go.Proofs.Ytkplodhjceieeaa
open Go Go.Ideal Go.ChangeShapes

theorem laidOut : laidOutB Try.prog = true := by kernel_rfl
theorem own : ownKnob Try.prog.godebug = none := by kernel_rfl
theorem under22 : Try.prog.underlying 22 = some (.slice 3) := by kernel_rfl
theorem cellsOf3 : Try.prog.cellsOf 3 = 1 := by kernel_rfl
theorem under3 : Try.prog.underlying 3 = some (.int .i64) := Try.underlying3
theorem under5 : Try.prog.underlying 5 = some (.int .u8) := by kernel_rfl

section
variable {H : Type} {enc : TypeId × Value → H} {W : World} {base fuel : Nat} {sp : Nat → Bool} {hd : Bool}
theorem trod_i64' {m : Nat} {cs : List Value} {y : DataW H × List MemPlace} (h : DataW.trod enc Try.prog W base sp hd m 3 cs = some y) : ∃ n, cs = [n64 n] := by
  obtain ⟨n, h1, _, _⟩ := DataW.trod_int under3 h
  exact ⟨n, h1⟩
theorem ints_rows (ys : List (Array Value)) (h : ∀ c ∈ ys, ∃ n y, DataW.trod enc Try.prog W 0 (fun _ => true) true n 3 c.toList = some y) : ∃ xs : List Int, ys = xs.map fun n => #[n64 n] := by
  induction ys with
  | nil => exact ⟨[], rfl⟩
  | cons c ys ih =>
    obtain ⟨xs, rfl⟩ := ih (fun c hc => h c (by simp [hc]))
    obtain ⟨n, y, hy⟩ := h c (by simp)
    obtain ⟨a, ha⟩ := trod_i64' hy
    refine ⟨a :: xs, ?_⟩
    rw [List.map_cons, ← (show #[n64 a] = c from by apply Array.ext'; exact ha.symm)]
theorem ints_start {v : Value} {y : DataW H × List MemPlace} (hok : ∃ base, Cell.okWide Try.prog W .any base 22 v) (h : DataW.trod enc Try.prog W 0 (fun _ => true) true fuel 22 [v] = some y) :
    ∃ β σ vI xs, R Try.prog W.heap.size (Base.of W) β σ W ∧ VR β vI v ∧ IntsAt σ vI xs := by
  obtain ⟨β, σ, vI, ys, hR, hv, hel, hys⟩ := slice_start (es := 1) under22 cellsOf3 (by decide) (fun n cs y hy => by
    obtain ⟨a, rfl⟩ := trod_i64' hy
    refine ⟨rfl, fun v hv => ?_⟩
    simp at hv; subst hv; rfl) (.inr hok) h
  obtain ⟨xs, rfl⟩ := ints_rows ys hys
  exact ⟨β, σ, vI, xs, hR, hv, hel⟩
end
set_option maxRecDepth 100000 in
theorem u8_ok {W : World} {base : Nat} {v : Value} (h : Value.okWide Try.prog W .any base 5 v) : ∃ n, v = .int .u8 n ∧ 0 ≤ n ∧ n < 256 := by
  unfold Value.okWide at h
  rw [under5] at h
  rcases plainCell_self (by unfold Go.Ideal.plainCell; rw [under5]) h with ⟨h1, _⟩ | ⟨k, h1, n, h2, h3⟩ | ⟨h1, _⟩
  · rw [under5] at h1; cases h1
  · rw [under5] at h1
    simp only [Option.some.injEq, TypeDesc.int.injEq] at h1
    subst h1
    refine ⟨n, h2, ?_⟩
    simp [IntKind.has, IntKind.min, IntKind.max, IntKind.signed, IntKind.bits] at h3
    omega
  · rw [under5] at h1; cases h1
set_option maxRecDepth 100000 in
theorem ints_ok {W : World} {base : Nat} {v : Value} (h : Value.okWide Try.prog W .any base 22 v) : Cell.okWide Try.prog W .any base 22 v := by
  unfold Value.okWide at h
  rw [under22] at h
  exact h
set_option maxRecDepth 100000 in
theorem ints_one {W : World} {base : Nat} {v : Value} (h : Cell.okWide Try.prog W .any base 22 v) : v.cells.toList = [v] := by
  unfold Cell.okWide at h
  rw [under22] at h
  cases v <;> first | rfl | (simp [Cell.ok] at h)
end Go.Proofs.Ytkplodhjceieeaa
