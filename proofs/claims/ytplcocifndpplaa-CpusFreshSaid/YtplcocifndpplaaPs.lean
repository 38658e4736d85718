/-
  Calls that come as an argument.
-/
import Derived.Test.YtplcocifndpplaaRows
import Derived.Test.YtplcocifndpplaaJp
import Derived.Test.YtplcocifndpplaaPo
namespace Go.Proofs.Ytplcocifndpplaa
open Go Go.Ideal Go.ChangeShapes

theorem cellsOf3 : Try.prog.cellsOf 3 = 1 := by kernel_rfl
theorem cellsOf4 : Try.prog.cellsOf 4 = 1 := by kernel_rfl
theorem cellsOf5 : Try.prog.cellsOf 5 = 1 := by kernel_rfl
theorem cellsOf22 : Try.prog.cellsOf 22 = 1 := by kernel_rfl
theorem cellsOf24 : Try.prog.cellsOf 24 = 4 := by kernel_rfl
theorem cellsOf31 : Try.prog.cellsOf 31 = 5 := by kernel_rfl
theorem cellsOf44 : Try.prog.cellsOf 44 = 9 := by kernel_rfl
theorem cellsOf54 : Try.prog.cellsOf 54 = 4 := by kernel_rfl
theorem under3 : Try.prog.underlying 3 = some (.int .i64) := Try.underlying3
theorem under4 : Try.prog.underlying 4 = some .bool := Try.underlying4
theorem under5 : Try.prog.underlying 5 = some (.int .u8) := Try.underlying5
theorem under22 : Try.prog.underlying 22 = some (.slice 44) := by kernel_rfl
theorem cellTypes24 : Try.prog.cellTypes Try.prog.depth 24 = some [3, 22, 3, 3] := by kernel_rfl
theorem cellTypes54 : Try.prog.cellTypes Try.prog.depth 54 = some [5, 22, 3, 3] := by kernel_rfl

theorem wf64 {n : Int} (h : (Lit.int .i64 n).wf = true) : In64 n := by
  simp [Lit.wf, IntKind.min, IntKind.max] at h
  have h1 : (2 : Int) ^ 63 = 9223372036854775808 := by decide
  unfold In64
  have := h.1
  have := h.2
  simp [IntKind.signed, IntKind.bits] at *
  omega

theorem wf8 {n : Int} (h : (Lit.int .u8 n).wf = true) : 0 ≤ n ∧ n < 256 := by
  simp [Lit.wf, IntKind.min, IntKind.max] at h
  have := h.1
  have := h.2
  simp [IntKind.signed, IntKind.bits] at *
  omega

section
variable {H : Type} {enc : TypeId × Value → H} {W : World} {base fuel : Nat} {sp : Nat → Bool} {hd : Bool}

theorem list4 {α : Type} {l : List α} (h : l.length = 4) : ∃ a b c d, l = [a, b, c, d] := by
  match l, h with
  | [a, b, c, d], _ => exact ⟨a, b, c, d, rfl⟩
theorem list5 {α : Type} {l : List α} (h : l.length = 5) : ∃ a b c d e, l = [a, b, c, d, e] := by
  match l, h with
  | [a, b, c, d, e], _ => exact ⟨a, b, c, d, e, rfl⟩
theorem list9 {α : Type} {l : List α} (h : l.length = 9) : ∃ a b c d e f g i j, l = [a, b, c, d, e, f, g, i, j] := by
  match l, h with
  | [a, b, c, d, e, f, g, i, j], _ => exact ⟨a, b, c, d, e, f, g, i, j, rfl⟩

theorem trod_i64 {m : Nat} {v : Value} {y : DataW H × List MemPlace} (h : DataW.trod enc Try.prog W base sp hd m 3 [v] = some y) : ∃ n, v = i64 n ∧ In64 n := by
  obtain ⟨n, h1, _, h2⟩ := DataW.trod_int under3 h
  simp only [List.cons.injEq, and_true] at h1
  exact ⟨n, h1, wf64 h2⟩
theorem trod_u8 {m : Nat} {v : Value} {y : DataW H × List MemPlace} (h : DataW.trod enc Try.prog W base sp hd m 5 [v] = some y) : ∃ n, v = .int .u8 n ∧ 0 ≤ n ∧ n < 256 := by
  obtain ⟨n, h1, _, h2⟩ := DataW.trod_int under5 h
  simp only [List.cons.injEq, and_true] at h1
  exact ⟨n, h1, wf8 h2⟩
theorem trod_b {m : Nat} {v : Value} {y : DataW H × List MemPlace} (h : DataW.trod enc Try.prog W base sp hd m 4 [v] = some y) : ∃ b, v = .bool b := by
  obtain ⟨b, h1, _⟩ := DataW.trod_bool under4 h
  simp only [List.cons.injEq, and_true] at h1
  exact ⟨b, h1⟩

/-- A line that comes. -/
theorem trod_line {cs : List Value} {y : DataW H × List MemPlace} (h : DataW.trod enc Try.prog W base sp hd fuel 31 cs = some y) : ∃ c : Line, cs = c.cells.toList ∧ In64 c.s ∧ In64 c.p ∧ In64 c.o ∧ In64 c.f := by
  obtain ⟨xs, m, _, _, hl, hn, hf⟩ := DataW.trod_struct Try.underlying31 h
  rw [cellsOf31] at hl
  obtain ⟨a, b, c, d, e, rfl⟩ := list5 hl
  obtain ⟨x0, x1, x2, x3, x4, rfl⟩ := list5 (show xs.length = 5 from hn)
  have h0 := hf 0 _ rfl
  have h1 := hf 1 _ rfl
  have h2 := hf 2 _ rfl
  have h3 := hf 3 _ rfl
  have h4 := hf 4 _ rfl
  simp [cellsOf3, cellsOf4] at h0 h1 h2 h3 h4
  obtain ⟨a, rfl, g0⟩ := trod_i64 h0
  obtain ⟨b, rfl, g1⟩ := trod_i64 h1
  obtain ⟨c, rfl, g2⟩ := trod_i64 h2
  obtain ⟨d, rfl, g3⟩ := trod_i64 h3
  obtain ⟨e, rfl⟩ := trod_b h4
  exact ⟨⟨a, b, c, d, e⟩, rfl, g0, g1, g2, g3⟩

/-- A call that comes. -/
theorem trod_act {cs : List Value} {y : DataW H × List MemPlace} (h : DataW.trod enc Try.prog W base sp hd fuel 44 cs = some y) : ∃ a : ActR, cs = a.cells.toList ∧ a.ok := by
  obtain ⟨xs, m, _, _, hl, hn, hf⟩ := DataW.trod_struct Try.underlying44 h
  rw [cellsOf44] at hl
  obtain ⟨a, b, c, d, e, f, g, i, j, rfl⟩ := list9 hl
  obtain ⟨x0, x1, x2, x3, x4, rfl⟩ := list5 (show xs.length = 5 from hn)
  have h0 := hf 0 _ rfl
  have h1 := hf 1 _ rfl
  have h2 := hf 2 _ rfl
  have h3 := hf 3 _ rfl
  have h4 := hf 4 _ rfl
  simp [cellsOf3, cellsOf31] at h0 h1 h2 h3 h4
  obtain ⟨a, rfl, g0⟩ := trod_i64 h0
  obtain ⟨b, rfl, g1⟩ := trod_i64 h1
  obtain ⟨c, rfl, g2⟩ := trod_i64 h2
  obtain ⟨d, rfl, g3⟩ := trod_i64 h3
  obtain ⟨l, hl', _⟩ := trod_line h4
  simp only [Line.cells, List.cons.injEq, and_true] at hl'
  obtain ⟨rfl, rfl, rfl, rfl, rfl⟩ := hl'
  exact ⟨⟨a, b, c, d, l⟩, rfl, g2, g3⟩

theorem act_plain {a : ActR} : ∀ v ∈ a.cells.toList, selfD 4 v = true := by
  intro v hv
  simp [ActR.cells] at hv
  rcases hv with rfl | rfl | rfl | rfl | rfl | rfl | rfl | rfl | rfl <;> rfl

/-- Calls that come. -/
theorem acts_start {v : Value} {y : DataW H × List MemPlace} (hok : ∃ base, Cell.okWide Try.prog W .any base 22 v) (h : DataW.trod enc Try.prog W 0 (fun _ => true) true fuel 22 [v] = some y) :
    ∃ β σ vI xs, R Try.prog W.heap.size (Base.of W) β σ W ∧ VR β vI v ∧ ActsAt σ vI xs := by
  obtain ⟨β, σ, vI, ys, hR, hv, ⟨vb, vc, hvI, hel⟩, hys⟩ := slice_start (es := 9) under22 cellsOf44 (by decide) (fun n cs y hy => by
    obtain ⟨a, rfl, _⟩ := trod_act hy
    exact ⟨rfl, act_plain⟩) (.inr hok) h
  have hx : ∃ xs : List ActR, ys = xs.map ActR.cells ∧ ∀ a ∈ xs, a.ok := by
    clear hel hvI
    induction ys with
    | nil => exact ⟨[], rfl, fun a ha => by cases ha⟩
    | cons c ys ih =>
      obtain ⟨xs, rfl, h2⟩ := ih (fun c hc => hys c (by simp [hc]))
      obtain ⟨n, y, hy⟩ := hys c (by simp)
      obtain ⟨a, ha, hok⟩ := trod_act hy
      refine ⟨a :: xs, ?_, fun b hb => ?_⟩
      · rw [List.map_cons, ← (show a.cells = c from by apply Array.ext'; exact ha.symm)]
      · rcases List.mem_cons.1 hb with rfl | hb
        · exact hok
        · exact h2 b hb
  obtain ⟨xs, rfl, hxs⟩ := hx
  refine ⟨β, σ, vI, xs, hR, hv, hxs, vb, vc, by simpa using hvI, fun i hi => ?_⟩
  obtain ⟨b, o, c, e, fz, h1, h2, h3, h4⟩ := hel i (by simpa using hi)
  exact ⟨b, o, c, e, fz, h1, h2, h3, by simpa using h4⟩
end
end Go.Proofs.Ytplcocifndpplaa
