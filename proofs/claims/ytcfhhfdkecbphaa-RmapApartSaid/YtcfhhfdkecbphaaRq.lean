/-
  Rmap's calls that come as an argument.
-/
import Derived.Test.YtcfhhfdkecbphaaRows
import Derived.Test.YtcfhhfdkecbphaaRk
import Derived.Test.YtcfhhfdkecbphaaJp
namespace Go.Proofs.Ytcfhhfdkecbphaa
open Go Go.Ideal Go.ChangeShapes

theorem laidOut : laidOutB Try.prog = true := by kernel_rfl
theorem own : ownKnob Try.prog.godebug = none := by kernel_rfl
theorem cellsOf3 : Try.prog.cellsOf 3 = 1 := by kernel_rfl
theorem cellsOf27 : Try.prog.cellsOf 27 = 2 := by kernel_rfl
theorem cellsOf29 : Try.prog.cellsOf 29 = 5 := by kernel_rfl
theorem under3 : Try.prog.underlying 3 = some (.int .i64) := Try.underlying3
theorem under22 : Try.prog.underlying 22 = some (.slice 29) := by kernel_rfl

section
variable {H : Type} {enc : TypeId × Value → H} {W : World} {base fuel : Nat} {sp : Nat → Bool} {hd : Bool}
theorem list4 {α : Type} {l : List α} (h : l.length = 4) : ∃ a b c d, l = [a, b, c, d] := by
  match l, h with
  | [a, b, c, d], _ => exact ⟨a, b, c, d, rfl⟩
theorem list5 {α : Type} {l : List α} (h : l.length = 5) : ∃ a b c d e, l = [a, b, c, d, e] := by
  match l, h with
  | [a, b, c, d, e], _ => exact ⟨a, b, c, d, e, rfl⟩
theorem list2 {α : Type} {l : List α} (h : l.length = 2) : ∃ a b, l = [a, b] := by
  match l, h with
  | [a, b], _ => exact ⟨a, b, rfl⟩
theorem trod_i64 {m : Nat} {v : Value} {y : DataW H × List MemPlace} (h : DataW.trod enc Try.prog W base sp hd m 3 [v] = some y) : ∃ n, v = n64 n := by
  obtain ⟨n, h1, _, _⟩ := DataW.trod_int under3 h
  simp only [List.cons.injEq, and_true] at h1
  exact ⟨n, h1⟩
theorem trod_spot {m : Nat} {cs : List Value} {y : DataW H × List MemPlace} (h : DataW.trod enc Try.prog W base sp hd m 27 cs = some y) : ∃ a b, cs = [n64 a, n64 b] := by
  obtain ⟨xs, m, _, _, hl, hn, hf⟩ := DataW.trod_struct Try.underlying27 h
  rw [cellsOf27] at hl
  obtain ⟨a, b, rfl⟩ := list2 hl
  obtain ⟨x0, x1, rfl⟩ := list2 (show xs.length = 2 from hn)
  have h0 := hf 0 _ rfl
  have h1 := hf 1 _ rfl
  simp [cellsOf3] at h0 h1
  obtain ⟨a, rfl⟩ := trod_i64 h0
  obtain ⟨b, rfl⟩ := trod_i64 h1
  exact ⟨a, b, rfl⟩

/-- A call that comes. -/
theorem trod_act {cs : List Value} {y : DataW H × List MemPlace} (h : DataW.trod enc Try.prog W base sp hd fuel 29 cs = some y) : ∃ a : ActR, cs = a.cells.toList := by
  obtain ⟨xs, m, _, _, hl, hn, hf⟩ := DataW.trod_struct Try.underlying29 h
  rw [cellsOf29] at hl
  obtain ⟨a, b, c, d, e, rfl⟩ := list5 hl
  obtain ⟨x0, x1, x2, x3, rfl⟩ := list4 (show xs.length = 4 from hn)
  have h0 := hf 0 _ rfl
  have h1 := hf 1 _ rfl
  have h2 := hf 2 _ rfl
  have h3 := hf 3 _ rfl
  simp [cellsOf3, cellsOf27] at h0 h1 h2 h3
  obtain ⟨a, rfl⟩ := trod_i64 h0
  obtain ⟨b, rfl⟩ := trod_i64 h1
  obtain ⟨c, rfl⟩ := trod_i64 h2
  obtain ⟨s, p, hsp⟩ := trod_spot h3
  simp only [List.cons.injEq, and_true] at hsp
  obtain ⟨rfl, rfl⟩ := hsp
  exact ⟨⟨a, b, c, s, p⟩, rfl⟩
theorem act_plain {a : ActR} : ∀ v ∈ a.cells.toList, selfD 4 v = true := by
  intro v hv
  simp [ActR.cells] at hv
  rcases hv with rfl | rfl | rfl | rfl | rfl <;> rfl

theorem froz_start {P : Program} {σ : World} {β : Beta} (hR : R P W.heap.size (Base.of W) β σ W) (v : Value) : Froz σ v := by
  intro b o vl vc c e fz _ hc hn hz
  subst hz
  have hb : σ.heap[b]? = some (.cells c e (0, 0)) := by
    unfold cellsOf? at hc
    split at hc
    · rename_i h; simp only [Option.some.injEq, Prod.mk.injEq] at hc; obtain ⟨rfl, rfl, rfl⟩ := hc; exact h
    · cases hc
  obtain ⟨bi, hbi⟩ := hR.cov b (Array.getElem?_eq_some_iff.1 hb).1
  have h1 := hR.new _ _ _ hb hbi rfl
  have h2 := hR.lt hb hbi rfl
  omega

/-- What a row of calls holds. -/
theorem acts_rows (ys : List (Array Value)) (h : ∀ c ∈ ys, ∃ n y, DataW.trod enc Try.prog W 0 (fun _ => true) true n 29 c.toList = some y) : ∃ xs : List ActR, ys = xs.map ActR.cells := by
  induction ys with
  | nil => exact ⟨[], rfl⟩
  | cons c ys ih =>
    obtain ⟨xs, rfl⟩ := ih (fun c hc => h c (by simp [hc]))
    obtain ⟨n, y, hy⟩ := h c (by simp)
    obtain ⟨a, ha⟩ := trod_act hy
    refine ⟨a :: xs, ?_⟩
    rw [List.map_cons, ← (show a.cells = c from by apply Array.ext'; exact ha.symm)]

/-- Calls that come. -/
theorem acts_start {v : Value} {y : DataW H × List MemPlace} (hok : ∃ base, Cell.okWide Try.prog W .any base 22 v) (h : DataW.trod enc Try.prog W 0 (fun _ => true) true fuel 22 [v] = some y) :
    ∃ β σ vI xs, R Try.prog W.heap.size (Base.of W) β σ W ∧ VR β vI v ∧ ActsR σ vI xs := by
  obtain ⟨β, σ, vI, ys, hR, hv, ⟨vb, vc, hvI, hel⟩, hys⟩ := slice_start (es := 5) under22 cellsOf29 (by decide) (fun n cs y hy => by
    obtain ⟨a, rfl⟩ := trod_act hy
    exact ⟨rfl, act_plain⟩) (.inr hok) h
  obtain ⟨xs, rfl⟩ := acts_rows ys hys
  have hfr := froz_start hR vI
  refine ⟨β, σ, vI, xs, hR, hv, vb, vc, by simpa using hvI, fun i hi => ?_⟩
  obtain ⟨b, o, c, e, fz, h1, h2, h3, h4⟩ := hel i (by simpa using hi)
  subst h1
  exact ⟨b, o, c, e, fz, rfl, h2, hfr b o _ _ c e fz hvI h2 (by omega), h3, by simpa using h4⟩
end
set_option maxRecDepth 100000 in
theorem i64_ok {W : World} {base : Nat} {v : Value} (h : Value.okWide Try.prog W .any base 3 v) : ∃ n, v = n64 n := by
  unfold Value.okWide at h
  rw [under3] at h
  exact int_cell under3 rfl h
set_option maxRecDepth 100000 in
theorem acts_ok {W : World} {base : Nat} {v : Value} (h : Value.okWide Try.prog W .any base 22 v) : Cell.okWide Try.prog W .any base 22 v := by
  unfold Value.okWide at h
  rw [under22] at h
  exact h
set_option maxRecDepth 100000 in
theorem acts_one {W : World} {base : Nat} {v : Value} (h : Cell.okWide Try.prog W .any base 22 v) : v.cells.toList = [v] := by
  unfold Cell.okWide at h
  rw [under22] at h
  cases v <;> first | rfl | (simp [Cell.ok] at h)
set_option maxRecDepth 100000 in
theorem agg_ok {W : World} {base : Nat} {v : Value} (h : Value.okWide Try.prog W .any base 29 v) : ∃ cs, v = .agg cs := by
  unfold Value.okWide at h
  rw [Try.underlying29] at h
  obtain ⟨cs, rfl, _⟩ := h
  exact ⟨cs, rfl⟩
end Go.Proofs.Ytcfhhfdkecbphaa
