/-
  Erase: steps, operations; how they lie; small words; when operations are equal.
-/
import Derived.Test.YteljibbnpheekaaGreatJr
import Derived.Test.YteljibbnpheekaaGreatJq
import Derived.Test.YteljibbnpheekaaGreatJs
import Derived.Test.YteljibbnpheekaaGreatJt
import Derived.Test.YteljibbnpheekaaGreatFe
import Derived.Test.YteljibbnpheekaaGreatRows
import Derived.KernelRfl
namespace Go.Proofs.YteljibbnpheekaaGreat
open Go Go.Ideal Go.Ideal.W Go.Proofs
-- pantile/pantilelaw29.EraseErases
def h6 : GFn := ⟨34, [⟨2, none⟩], sq (og [mv 2 (.const (.bool false))]) (sq (og [mv 6 (.tmp 0), e 7 (.call 52 #[.tmp 6]), mv 8 (.tmp 0), e 9 (.call 53 #[.tmp 8]), mv 3 (.tmp 7), mv 4 (.tmp 9)]) (sq (sq (.ops [gr [mv 10 (.tmp 3), e 11 (.len (.tmp 10)), mv 12 (.tmp 4), e 13 (.len (.tmp 12)), e 14 (.bin .neq 3 (.tmp 11) (.tmp 13)), mv 15 (.tmp 14)], .grp (some ((some 15), false)) [e 16 (.call 54 #[]), e 17 (.un .not (.tmp 16))], gr [e 18 (.pick (.tmp 15) (.const (.bool true)) (.tmp 17))]]) (.cond (.tmp 18) (sq (og [mv 2 (.const (.bool false))]) .ret) .skip)) (sq (sq (og [mv 5 (.const (.int .i64 0))]) (.block 0 (.loop (sq (sq (og [mv 19 (.tmp 5), mv 20 (.tmp 3), e 21 (.len (.tmp 20)), e 22 (.bin .lss 3 (.tmp 19) (.tmp 21))]) (.cond (.tmp 22) .skip (.exit 0))) (sq (.block 1 (sq (og [mv 25 (.tmp 3), mv 26 (.tmp 5), e 27 (.iaddr 9 (.tmp 25) (.tmp 26)), e 28 (.load (some 9) (.tmp 27)), mv 29 (.tmp 4), mv 30 (.tmp 5), e 31 (.iaddr 9 (.tmp 29) (.tmp 30)), e 32 (.load (some 9) (.tmp 31)), e 33 (.bin .neq 37 (.tmp 28) (.tmp 32))]) (.cond (.tmp 33) (sq (og [mv 2 (.const (.bool false))]) .ret) .skip))) (og [mv 23 (.tmp 5), e 24 (.bin .add 3 (.tmp 23) (.const (.int .i64 1))), mv 5 (.tmp 24)])))))) (sq (og [mv 2 (.const (.bool true))]) .ret))))⟩
def hA : GC := og [e 4 (.zero 37 #[.int .i64 0, .int .i64 0, .int .i64 0, .int .i64 0, .int .i64 0, .int .i64 0, .int .i64 0, .int .i64 0, .int .u64 0]), e0 (.store 9 (.tmp 4) (.tmp 7))]
def hB : GC := .block 1 (og [ld 8 (.tmp 3), e 9 (.load (some 9) (.tmp 4)), e 10 (.row 37 9 1 #[.int .i64 0, .int .i64 0, .int .i64 0, .int .i64 0, .int .i64 0, .int .i64 0, .int .i64 0, .int .i64 0, .int .u64 0] [(0, .tmp 9)]), e 11 (.append 37 9 72 (.tmp 8) (.tmp 10)), e0 (.store 1 (.tmp 3) (.tmp 11))])
structure Opn where
  (k s a n h p t c v : Int)
noncomputable instance : DecidableEq Opn := fun _ _ => Classical.propDecidable _
structure Stp where
  (k a b : Int)
  op : Opn
def opL (o : Opn) : List Value := [.int .i64 o.k, .int .i64 o.s, .int .i64 o.a, .int .i64 o.n, .int .i64 o.h, .int .i64 o.p, .int .i64 o.t, .int .i64 o.c, .int .u64 o.v]
def stL (s : Stp) : List Value := .int .i64 s.k :: .int .i64 s.a :: .int .i64 s.b :: opL s.op
def ESt : En Stp := ⟨12, 39, stL, fun _ => rfl, fun s v hv => by
  simp only [stL, opL, List.mem_cons, List.not_mem_nil, or_false] at hv
  rcases hv with rfl | rfl | rfl | rfl | rfl | rfl | rfl | rfl | rfl | rfl | rfl | rfl <;> rfl, by decide⟩
structure OutE {α : Type} (E : En α) (w w' : World) (u : Value) (xs : List α) : Prop where
  row : RowE E w' u xs
  k : Keeps w w' (fun _ => False)
  new : ∀ j, blkOf u = some j → w.heap.size ≤ j
theorem OutE.keep {α : Type} {E : En α} {w w' w2 : World} {u : Value} {xs : List α} (h : OutE E w w' u xs) (hk : Keeps w' w2 (fun _ => False)) : OutE E w w2 u xs :=
  ⟨h.row.keep hk (fun _ _ h => h), h.k.trans hk (fun _ _ h => h) (fun _ _ h => h), h.new⟩
theorem OutE.app {α : Type} {E : En α} {w w' : World} {u s : Value} {xs ms : List α} {by_ : Nat} {Q : Value × World → Prop} (h : OutE E w w' u xs) (hs : SrcE E w' s ms) (hbig : (xs.length + ms.length) * by_ ≤ 140737488355328)
    (hq : ∀ v' w2, OutE E w w2 v' (xs ++ ms) → (ms ≠ [] → blkOf v' = some w'.heap.size) → Q (v', w2)) : (appendS E.te E.es by_ u s w').all Q :=
  appEw h.row hs hbig fun v' w2 hr hk he hn => hq v' w2 ⟨hr, h.k.trans hk (fun _ _ h => h) (fun j hj hb => by have := h.new j hb; omega), fun j hj => by
    by_cases hm : ms = []
    · rw [(he hm).1] at hj; exact h.new j hj
    · rw [hn hm] at hj; simp at hj; have := h.k.1; omega⟩ hn
theorem OutE.nil {α : Type} (E : En α) (w : World) : OutE E w w (.slice none 0 0) [] := ⟨RowE.nil w, Keeps.refl _ _, fun j h => by cases h⟩
end Go.Proofs.YteljibbnpheekaaGreat
