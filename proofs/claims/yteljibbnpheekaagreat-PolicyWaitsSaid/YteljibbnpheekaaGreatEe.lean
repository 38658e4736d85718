/-
  Steps that come as an argument.
-/
import Derived.Test.YteljibbnpheekaaGreatEa
import Derived.Test.YteljibbnpheekaaGreatEl
import Derived.SizedLaws
namespace Go.Proofs.YteljibbnpheekaaGreat
open Go Go.Ideal Go.ChangeShapes

theorem own : ownKnob Tryz.prog.godebug = none := by kernel_rfl
theorem mixed : Tryz.prog.follows .mixedOrders = true := by kernel_rfl
theorem cellsOf3 : Tryz.prog.cellsOf 3 = 1 := by kernel_rfl
theorem cellsOf35 : Tryz.prog.cellsOf 35 = 1 := by kernel_rfl
theorem cellsOf37 : Tryz.prog.cellsOf 37 = 9 := by kernel_rfl
theorem cellsOf39 : Tryz.prog.cellsOf 39 = 12 := by kernel_rfl
theorem under3 : Tryz.prog.underlying 3 = some (.int .i64) := by kernel_rfl
theorem under35 : Tryz.prog.underlying 35 = some (.int .u64) := by kernel_rfl
theorem under90 : Tryz.prog.underlying 90 = some (.slice 39) := by kernel_rfl
theorem bytes39 : Tryz.prog.bytesOf 39 = 96 := by kernel_rfl

section
variable {H : Type} {enc : TypeId × Value → H} {W : World} {base fuel : Nat} {sp : Nat → Bool} {hd : Bool}
theorem list4 {α : Type} {l : List α} (h : l.length = 4) : ∃ a b c d, l = [a, b, c, d] := by
  match l, h with
  | [a, b, c, d], _ => exact ⟨a, b, c, d, rfl⟩
theorem list9 {α : Type} {l : List α} (h : l.length = 9) : ∃ a b c d e f g i j, l = [a, b, c, d, e, f, g, i, j] := by
  match l, h with
  | [a, b, c, d, e, f, g, i, j], _ => exact ⟨a, b, c, d, e, f, g, i, j, rfl⟩
theorem list12 {α : Type} {l : List α} (h : l.length = 12) : ∃ x y z m, l = x :: y :: z :: m ∧ m.length = 9 := by
  match l, h with
  | x :: y :: z :: m, h => exact ⟨x, y, z, m, rfl, by simpa using h⟩
theorem trod_i64 {m : Nat} {v : Value} {y : DataW H × List MemPlace} (h : DataW.trod enc Tryz.prog W base sp hd m 3 [v] = some y) : ∃ n, v = .int .i64 n := by
  obtain ⟨n, h1, _, _⟩ := DataW.trod_int under3 h
  simp only [List.cons.injEq, and_true] at h1
  exact ⟨n, h1⟩
theorem trod_u64 {m : Nat} {v : Value} {y : DataW H × List MemPlace} (h : DataW.trod enc Tryz.prog W base sp hd m 35 [v] = some y) : ∃ n, v = .int .u64 n := by
  obtain ⟨n, h1, _, _⟩ := DataW.trod_int under35 h
  simp only [List.cons.injEq, and_true] at h1
  exact ⟨n, h1⟩
theorem trod_op {m : Nat} {cs : List Value} {y : DataW H × List MemPlace} (h : DataW.trod enc Tryz.prog W base sp hd m 37 cs = some y) : ∃ o : Opn, cs = opL o := by
  obtain ⟨xs, m, _, _, hl, hn, hf⟩ := DataW.trod_struct Tryz.underlying37 h
  rw [cellsOf37] at hl
  obtain ⟨a, b, c, d, e, f, g, i, j, rfl⟩ := list9 hl
  obtain ⟨x0, x1, x2, x3, x4, x5, x6, x7, x8, rfl⟩ := list9 (show xs.length = 9 from hn)
  have h0 := hf 0 _ rfl
  have h1 := hf 1 _ rfl
  have h2 := hf 2 _ rfl
  have h3 := hf 3 _ rfl
  have h4 := hf 4 _ rfl
  have h5 := hf 5 _ rfl
  have h6 := hf 6 _ rfl
  have h7 := hf 7 _ rfl
  have h8 := hf 8 _ rfl
  simp [cellsOf3, cellsOf35] at h0 h1 h2 h3 h4 h5 h6 h7 h8
  obtain ⟨a, rfl⟩ := trod_i64 h0
  obtain ⟨b, rfl⟩ := trod_i64 h1
  obtain ⟨c, rfl⟩ := trod_i64 h2
  obtain ⟨d, rfl⟩ := trod_i64 h3
  obtain ⟨e, rfl⟩ := trod_i64 h4
  obtain ⟨f, rfl⟩ := trod_i64 h5
  obtain ⟨g, rfl⟩ := trod_i64 h6
  obtain ⟨i, rfl⟩ := trod_i64 h7
  obtain ⟨j, rfl⟩ := trod_u64 h8
  exact ⟨⟨a, b, c, d, e, f, g, i, j⟩, rfl⟩
theorem trod_step {m : Nat} {cs : List Value} {y : DataW H × List MemPlace} (h : DataW.trod enc Tryz.prog W base sp hd m 39 cs = some y) : ∃ s : Stp, cs = stL s := by
  obtain ⟨xs, m, _, _, hl, hn, hf⟩ := DataW.trod_struct Tryz.underlying39 h
  rw [cellsOf39] at hl
  obtain ⟨a, b, c, r, rfl, hr⟩ := list12 hl
  obtain ⟨x0, x1, x2, x3, rfl⟩ := list4 (show xs.length = 4 from hn)
  have h0 := hf 0 _ rfl
  have h1 := hf 1 _ rfl
  have h2 := hf 2 _ rfl
  have h3 := hf 3 _ rfl
  simp [cellsOf3, cellsOf37] at h0 h1 h2 h3
  obtain ⟨a, rfl⟩ := trod_i64 h0
  obtain ⟨b, rfl⟩ := trod_i64 h1
  obtain ⟨c, rfl⟩ := trod_i64 h2
  rw [List.take_of_length_le (by omega)] at h3
  obtain ⟨o, rfl⟩ := trod_op h3
  exact ⟨⟨a, b, c, o⟩, rfl⟩
theorem step_plain (s : Stp) : ∀ v ∈ stL s, selfD 4 v = true := by
  intro v hv
  simp only [stL, opL, List.mem_cons, List.not_mem_nil, or_false] at hv
  rcases hv with rfl | rfl | rfl | rfl | rfl | rfl | rfl | rfl | rfl | rfl | rfl | rfl <;> rfl
theorem steps_rows (ys : List (Array Value)) (h : ∀ c ∈ ys, ∃ n y, DataW.trod enc Tryz.prog W 0 (fun _ => true) true n 39 c.toList = some y) : ∃ xs : List Stp, ys = xs.map fun s => (stL s).toArray := by
  induction ys with
  | nil => exact ⟨[], rfl⟩
  | cons c ys ih =>
    obtain ⟨xs, rfl⟩ := ih (fun c hc => h c (by simp [hc]))
    obtain ⟨n, y, hy⟩ := h c (by simp)
    obtain ⟨s, hs⟩ := trod_step hy
    refine ⟨s :: xs, ?_⟩
    rw [List.map_cons, ← (show (stL s).toArray = c from by apply Array.ext'; simpa using hs.symm)]

/-- Elements that lie one behind the other. -/
theorem flat_extract {α : Type} (E : En α) (c : Array Value) : ∀ (xs : List α) (o : Nat), (∀ (i : Nat) (h : i < xs.length), o + i * E.es + E.es ≤ c.size ∧ c.extract (o + i * E.es) (o + i * E.es + E.es) = (E.enc xs[i]).toArray) → o + xs.length * E.es ≤ c.size ∨ xs = [] → c.toList.extract o (o + xs.length * E.es) = flat E xs
  | [], o, _, _ => by simp [flat]
  | a :: xs, o, h, hle => by
    have hle : o + (xs.length + 1) * E.es ≤ c.size := by rcases hle with h | h; exact h; cases h
    have e1 : (xs.length + 1) * E.es = E.es + xs.length * E.es := by rw [Nat.succ_mul]; omega
    have h0 := congrArg Array.toList (h 0 (Nat.zero_lt_succ _)).2
    have ih := flat_extract E c xs (o + E.es) (fun i hi => by
      obtain ⟨h1, h2⟩ := h (i + 1) (by simpa using hi)
      have e2 : o + (i + 1) * E.es = o + E.es + i * E.es := by rw [Nat.succ_mul]; omega
      rw [e2] at h1 h2
      exact ⟨h1, by simpa using h2⟩) (.inl (by omega))
    simp only [Nat.zero_mul, Nat.add_zero, Array.toList_extract, List.getElem_cons_zero] at h0
    simp only [List.length_cons, e1, flat]
    rw [← ih, ← h0]
    simp only [List.extract_eq_take_drop]
    rw [show o + (E.es + xs.length * E.es) - o = E.es + xs.length * E.es by omega, show o + E.es - o = E.es by omega, show o + E.es + xs.length * E.es - (o + E.es) = xs.length * E.es by omega, List.take_add, List.drop_drop]

/-- A row that came from without. -/
def ArgE (w : World) (v : Value) (xs : List Stp) : Prop := (v = .slice none 0 0 ∧ xs = []) ∨ ∃ k c e fz, v = .slice (some ⟨k, 0, none⟩) xs.length (OPEN + 1) ∧ cellsOf? w k = some (c, e, fz) ∧ fz ≠ (0, 0) ∧ 0 + xs.length * 12 ≤ c.size ∧ c.toList.extract 0 (0 + xs.length * 12) = flat ESt xs
theorem ArgE.src {w : World} {v : Value} {xs : List Stp} (h : ArgE w v xs) : SrcE ESt w v xs := by
  rcases h with ⟨rfl, rfl⟩ | ⟨k, c, e, fz, rfl, hc, _, h1, h2⟩
  · exact .inl ⟨0, rfl, rfl⟩
  · exact .inr ⟨k, 0, _, c, e, fz, rfl, hc, h1, h2⟩
theorem cut60 {w : World} {v : Value} {xs : List Stp} (h : ArgE w v xs) (hl : 60 < xs.length) : ∃ v', sliceS 39 12 v none (some (.int .i64 60)) none w = .ret (v', w) ∧ SrcE ESt w v' (xs.take 60) := by
  rcases h with ⟨_, rfl⟩ | ⟨k, c, e, fz, rfl, hc, hz, h1, h2⟩
  · simp at hl
  · refine ⟨.slice (some ⟨k, 0, none⟩) 60 (OPEN + 1), ?_, .inr ⟨k, 0, OPEN + 1, c, e, fz, ?_, hc, ?_, ?_⟩⟩
    · unfold sliceS
      simp only [intO]
      rw [if_neg (by omega)]
      simp only [hc]
      split
      · rename_i he
        simp only [Option.some.injEq, Prod.mk.injEq] at he
        exact absurd he.2.2 hz
      · rw [if_pos ⟨Nat.lt_succ_self _, trivial, trivial, by omega, by omega⟩]
        rfl
    · rw [List.length_take, Nat.min_eq_left (by omega)]
    · rw [List.length_take, Nat.min_eq_left (by omega)]
      simp only [ESt]
      omega
    · rw [List.length_take, Nat.min_eq_left (by omega)]
      have h3 := flat_take ESt xs 60
      rw [← h3, ← h2]
      simp only [List.extract_eq_take_drop, ESt]
      rw [List.take_take]
      congr 1
      omega
/-- Steps that come. -/
theorem steps_seen2 {v : Value} {y : DataW H × List MemPlace} (hok : ∃ base, Cell.okWide Tryz.prog W .any base 90 v) (h : DataW.trod enc Tryz.prog W 0 (fun _ => true) true fuel 90 [v] = some y) :
    ∃ (o : Obj) (bi : BI) (F : Nat → Value) (xs : List Stp), Seen Tryz.prog W o bi ∧ (∀ (β : Beta) (k : Nat), β k = some bi → VR β (F k) v) ∧ (∀ (σ : World) (k : Nat), σ.heap[k]? = some o → ArgE σ (F k) xs) ∧ (xs = [] ∨ ∃ elems rest pl, y = (.slice elems rest, pl) ∧ elems.length = xs.length) := by
  obtain ⟨o, bi, F, ys, h1, h2, h3, h4, h5, h6⟩ := slice_seen2 (es := 12) under90 cellsOf39 (by decide) (fun n cs y hy => by
    obtain ⟨s, rfl⟩ := trod_step hy
    exact ⟨rfl, step_plain s⟩) (.inr hok) h
  obtain ⟨xs, rfl⟩ := steps_rows ys h4
  refine ⟨o, bi, F, xs, h1, h2, fun σ k hk => ?_, by simpa using h5⟩
  rcases h6 with ⟨hF, hx⟩ | ⟨hF, c, e, fz, rfl⟩
  · have : xs = [] := by simpa using hx
    subst this
    exact .inl ⟨hF k, rfl⟩
  · obtain ⟨vb, vc, hv, hel⟩ := h3 σ k hk
    rw [hF k] at hv ⊢
    simp only [Value.slice.injEq, List.length_map, true_and] at hv
    obtain ⟨rfl, rfl⟩ := hv
    simp only [List.length_map] at hel ⊢
    have hc : cellsOf? σ k = some (c, e, fz) := by rw [cellsOf?, hk]
    have hall : ∀ (i : Nat) (h : i < xs.length), 0 + i * 12 + 12 ≤ c.size ∧ c.extract (0 + i * 12) (0 + i * 12 + 12) = (stL xs[i]).toArray := fun i hi => by
      obtain ⟨b', o', c', e', fz', q1, q2, q3, q4⟩ := hel i hi
      simp only [Option.some.injEq, Addr.mk.injEq, and_true] at q1
      obtain ⟨rfl, rfl⟩ := q1
      rw [hc] at q2
      simp only [Option.some.injEq, Prod.mk.injEq] at q2
      obtain ⟨rfl, rfl, rfl⟩ := q2
      exact ⟨q3, by simpa using q4⟩
    have htot : 0 + xs.length * 12 ≤ c.size := by
      by_cases hz : xs.length = 0
      · omega
      · have := (hall (xs.length - 1) (by omega)).1
        omega
    have hnw : fz ≠ (0, 0) := by
      have := h1.nw
      simpa [wr] using this
    exact .inr ⟨k, c, e, fz, by simp, hc, hnw, htot, flat_extract ESt c xs 0 hall (.inl htot)⟩
theorem steps_seen {v : Value} {y : DataW H × List MemPlace} (hok : ∃ base, Cell.okWide Tryz.prog W .any base 90 v) (h : DataW.trod enc Tryz.prog W 0 (fun _ => true) true fuel 90 [v] = some y) :
    ∃ (o : Obj) (bi : BI) (F : Nat → Value) (xs : List Stp), Seen Tryz.prog W o bi ∧ (∀ (β : Beta) (k : Nat), β k = some bi → VR β (F k) v) ∧ (∀ (σ : World) (k : Nat), σ.heap[k]? = some o → SrcE ESt σ (F k) xs) ∧ (xs = [] ∨ ∃ elems rest pl, y = (.slice elems rest, pl) ∧ elems.length = xs.length) := by
  obtain ⟨o, bi, F, xs, h1, h2, h3, h4⟩ := steps_seen2 hok h
  exact ⟨o, bi, F, xs, h1, h2, fun σ k hk => (h3 σ k hk).src, h4⟩
end
set_option maxRecDepth 100000 in
theorem steps_ok {W : World} {base : Nat} {v : Value} (h : Value.okWide Tryz.prog W .any base 90 v) : Cell.okWide Tryz.prog W .any base 90 v := by
  unfold Value.okWide at h
  rw [under90] at h
  exact h
set_option maxRecDepth 100000 in
theorem steps_one {W : World} {base : Nat} {v : Value} (h : Cell.okWide Tryz.prog W .any base 90 v) : v.cells.toList = [v] := by
  unfold Cell.okWide at h
  rw [under90] at h
  cases v <;> first | rfl | (simp [Cell.ok] at h)
end Go.Proofs.YteljibbnpheekaaGreat
