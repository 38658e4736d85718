/-
  Rmap: the program's calls.
-/
import Derived.Test.YtcfhhfdkecbphaaRg
namespace Go.Proofs.Ytcfhhfdkecbphaa
open Go Go.Ideal

theorem lookR {w : World} {r : Nat} {m : MapL} (h : MapAt w r m) (f : Int) : lookupS .i64 (.slice none 0 0) (.map (some r)) (.int .i64 f) false w = .ret (rowOf m f, w) := by
  rw [lookup_map h.is]
  unfold rowOf
  cases getM m f <;> rfl
theorem row27 (s : Sp) (w : World) : rowS 27 2 1 #[.int .i64 0, .int .i64 0] [(0, spV s)] w = .ret (.slice (some ⟨w.heap.size, 0, none⟩) 1 1, World.push w (.cells #[.int .i64 s.1, .int .i64 s.2] 27)) := rfl
theorem srcSp {w : World} {r : Nat} {s : Sp} (h : cellsOf? w r = some (#[.int .i64 s.1, .int .i64 s.2], 27, (0, 0))) : SrcE ESp w (.slice (some ⟨r, 0, none⟩) 1 1) [s] :=
  .inr ⟨r, 0, 1, _, 27, (0, 0), rfl, h, by simp [ESp], by simp [ESp, flat]⟩

/-- Insert, Delete and the sort, answered. -/
def rowH : HeapAns := orH (sortH 26) (orH (insH 24) (delH 25))
theorem rowL : LaidH Try.prog rowH := sort26.or (ins_laid.or del_laid)

structure Ins (K : Kont) : Prop where
  go : ∀ {w : World} {v : Value} {l : List Sp}, RowE ESp w v l → l.length ≤ 900000 → ∀ {s : Sp} {vb i : Nat}, i ≤ l.length → cellsOf? w vb = some (#[.int .i64 s.1, .int .i64 s.2], 27, (0, 0)) → blkOf v ≠ some vb →
    (K.enter 24 #[v, .int .i64 i, .slice (some ⟨vb, 0, none⟩) 1 1] w).all fun z => RowE ESp z.2 z.1 (l.take i ++ s :: l.drop i) ∧ Keeps w z.2 (fun j => blkOf v = some j) ∧ blkOf z.1 = some w.heap.size
  del : ∀ {w : World} {v : Value} {l : List Sp}, RowE ESp w v l → l.length ≤ 900000 → ∀ {i : Nat}, i < l.length →
    (K.enter 25 #[v, .int .i64 i, .int .i64 ((i : Int) + 1)] w).all fun z => RowE ESp z.2 z.1 (l.take i ++ l.drop (i + 1)) ∧ Keeps w z.2 (fun j => blkOf v = some j) ∧ blkOf z.1 = some w.heap.size
  sort : ∀ v w, K.enter 26 #[v] w = sortS #[v] w

theorem run24 {K : Kont} {fuel : Nat} {w : World} {v : Value} {l : List Sp} (hv : RowE ESp w v l) (hn : l.length ≤ 900000) {s : Sp} {vb : Nat} (hvb : cellsOf? w vb = some (#[.int .i64 s.1, .int .i64 s.2], 27, (0, 0))) :
    wpGFn Try.prog K fuel 24 g24 #[v, .int .i64 l.length, .slice (some ⟨vb, 0, none⟩) 1 1] w fun u w' => RowE ESp w' u (l ++ [s]) ∧ Keeps w w' (fun j => blkOf v = some j) ∧ blkOf u = some w.heap.size := by
  rw [gfn_start]
  have hlen := fun w' => hv.lenS (w' := w')
  have htl := tail_eq (k := .i64) (i := l.length) (n := l.length) hv (Nat.le_refl _) (by omega) rfl
  simp only [ESp] at htl
  have hl1 : ∀ a w', lenS (.slice (some a) 1 1) w' = .ret (.int .i64 1, w') := fun a w' => rfl
  simp -implicitDefEqProofs [g24, hlen, htl, hl1]
  refine appE (E := ESp) (by_ := 16) hv (srcSp hvb) (by simp; omega) (by decide) (fun v4 w4 hr4 hk4 _ hb4 => ?_)
  simp -implicitDefEqProofs
  exact ⟨hr4, hk4, hb4 (by simp)⟩

theorem take_all (l : List Sp) (s : Sp) : l.take l.length ++ s :: l.drop l.length = l ++ [s] := by simp
theorem ins_none {n cap : Nat} {b : Option Addr} {vb : Nat} {w : World} : insS #[.slice b n cap, .int .i64 n, .slice (some ⟨vb, 0, none⟩) 1 1] w = none := by
  unfold insS
  split
  · rename_i h
    simp only [List.cons.injEq, Value.slice.injEq, Value.int.injEq, and_true, true_and] at h
    rw [if_neg (by omega)]
  · rfl
end Go.Proofs.Ytcfhhfdkecbphaa
