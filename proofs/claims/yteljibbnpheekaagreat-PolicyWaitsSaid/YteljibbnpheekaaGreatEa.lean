/-
  Erase: steps, operations; how they lie; small words; when operations are equal.
-/
import Derived.Test.YteljibbnpheekaaGreatJr
import Derived.Test.YteljibbnpheekaaGreatJq
import Derived.Test.YteljibbnpheekaaGreatJs
import Derived.Test.YteljibbnpheekaaGreatJt
import Derived.Test.YteljibbnpheekaaGreatFe
import Derived.Test.YteljibbnpheekaaGreatRows
import Derived.KernelRfl
namespace Go.Proofs.YteljibbnpheekaaGreat
open Go Go.Ideal Go.Ideal.W Go.Proofs

-- pantile/pantilelaw29.EraseErases
def h6 : GFn := ⟨34, [⟨2, none⟩], sq (og [mv 2 (.const (.bool false))]) (sq (og [mv 6 (.tmp 0), e 7 (.call 52 #[.tmp 6]), mv 8 (.tmp 0), e 9 (.call 53 #[.tmp 8]), mv 3 (.tmp 7), mv 4 (.tmp 9)]) (sq (sq (.ops [gr [mv 10 (.tmp 3), e 11 (.len (.tmp 10)), mv 12 (.tmp 4), e 13 (.len (.tmp 12)), e 14 (.bin .neq 3 (.tmp 11) (.tmp 13)), mv 15 (.tmp 14)], .grp (some ((some 15), false)) [e 16 (.call 54 #[]), e 17 (.un .not (.tmp 16))], gr [e 18 (.pick (.tmp 15) (.const (.bool true)) (.tmp 17))]]) (.cond (.tmp 18) (sq (og [mv 2 (.const (.bool false))]) .ret) .skip)) (sq (sq (og [mv 5 (.const (.int .i64 0))]) (.block 0 (.loop (sq (sq (og [mv 19 (.tmp 5), mv 20 (.tmp 3), e 21 (.len (.tmp 20)), e 22 (.bin .lss 3 (.tmp 19) (.tmp 21))]) (.cond (.tmp 22) .skip (.exit 0))) (sq (.block 1 (sq (og [mv 25 (.tmp 3), mv 26 (.tmp 5), e 27 (.iaddr 9 (.tmp 25) (.tmp 26)), e 28 (.load (some 9) (.tmp 27)), mv 29 (.tmp 4), mv 30 (.tmp 5), e 31 (.iaddr 9 (.tmp 29) (.tmp 30)), e 32 (.load (some 9) (.tmp 31)), e 33 (.bin .neq 37 (.tmp 28) (.tmp 32))]) (.cond (.tmp 33) (sq (og [mv 2 (.const (.bool false))]) .ret) .skip))) (og [mv 23 (.tmp 5), e 24 (.bin .add 3 (.tmp 23) (.const (.int .i64 1))), mv 5 (.tmp 24)])))))) (sq (og [mv 2 (.const (.bool true))]) .ret))))⟩
theorem lw6 : lowG Tryz.prog 6 = some h6 := by kernel_rfl
-- pantile/erase.Erase
noncomputable def h52 : GFn := ⟨13, [⟨2, none⟩], sq (og [mv 2 (.const (.slice none 0 0))]) (sq (og [e 3 (.zero 91 #[.slice none 0 0])]) (sq (sq (og [mv 5 (.tmp 0), e 6 (.call 139 #[.tmp 5])]) (.block 0 (.rangeFunc (.tmp 6) #[7] (rangeOf Tryz.prog 52).1 (rangeOf Tryz.prog 52).2))) (sq (og [ld 12 (.tmp 3), mv 2 (.tmp 12)]) .ret)))⟩
theorem lw52 : lowG Tryz.prog 52 = some h52 := by kernel_rfl
-- pantile/pantileref29.Erase
def h53 : GFn := ⟨26, [⟨2, none⟩], sq (og [mv 2 (.const (.slice none 0 0))]) (sq (og [mv 3 (.const (.slice none 0 0))]) (sq (sq (og [mv 4 (.const (.int .i64 0))]) (.block 0 (.loop (sq (sq (og [mv 5 (.tmp 4), mv 6 (.tmp 0), e 7 (.len (.tmp 6)), e 8 (.bin .lss 3 (.tmp 5) (.tmp 7))]) (.cond (.tmp 8) .skip (.exit 0))) (sq (.block 1 (sq (og [mv 11 (.tmp 0), mv 12 (.tmp 4), e 13 (.iaddr 12 (.tmp 11) (.tmp 12)), fa 14 0 (.tmp 13), ld 15 (.tmp 14), e 16 (.bin .eql 3 (.tmp 15) (.const (.int .i64 1)))]) (.cond (.tmp 16) (og [mv 17 (.tmp 3), mv 18 (.tmp 0), mv 19 (.tmp 4), e 20 (.iaddr 12 (.tmp 18) (.tmp 19)), fa 21 3 (.tmp 20), e 22 (.load (some 9) (.tmp 21)), e 23 (.row 37 9 1 #[.int .i64 0, .int .i64 0, .int .i64 0, .int .i64 0, .int .i64 0, .int .i64 0, .int .i64 0, .int .i64 0, .int .u64 0] [(0, .tmp 22)]), e 24 (.append 37 9 72 (.tmp 17) (.tmp 23)), mv 3 (.tmp 24)]) .skip))) (og [mv 9 (.tmp 4), e 10 (.bin .add 3 (.tmp 9) (.const (.int .i64 1))), mv 4 (.tmp 10)])))))) (sq (og [mv 25 (.tmp 3), mv 2 (.tmp 25)]) .ret)))⟩
theorem lw53 : lowG Tryz.prog 53 = some h53 := by kernel_rfl
-- pantile/erase.ops
def h139 : GFn := ⟨4, [⟨2, none⟩], sq (og [e 1 (.box 90 (.tmp 0)), mv 2 (.const .nilFunc)]) (sq (og [e 3 (.fn 265 #[.tmp 1]), mv 2 (.tmp 3)]) .ret)⟩
theorem lw139 : lowG Tryz.prog 139 = some h139 := by kernel_rfl
-- pantile/erase.ops$1
def h265 : GFn := ⟨22, [], sq (og [ld 5 (.tmp 1), e 6 (.len (.tmp 5)), mv 7 (.const (.int .i64 0))]) (.block 0 (.loop (sq (og [e 8 (.bin .lss 3 (.tmp 7) (.tmp 6))]) (sq (.cond (.tmp 8) .skip (.exit 0)) (sq (.block 1 (sq (og [e 9 (.iaddr 12 (.tmp 5) (.tmp 7)), e 10 (.load (some 12) (.tmp 9)), e 4 (.zero 39 #[.int .i64 0, .int .i64 0, .int .i64 0, .int .i64 0, .int .i64 0, .int .i64 0, .int .i64 0, .int .i64 0, .int .i64 0, .int .i64 0, .int .i64 0, .int .u64 0]), e0 (.store 12 (.tmp 4) (.tmp 10))]) (sq (.ops [gr [fa 11 0 (.tmp 4), ld 12 (.tmp 11), e 13 (.bin .eql 3 (.tmp 12) (.const (.int .i64 1))), mv 14 (.tmp 13)], .grp (some ((some 14), true)) [mv 15 (.tmp 0), fa 16 3 (.tmp 4), e 17 (.load (some 9) (.tmp 16)), e 18 (.callv (.tmp 15) #[.tmp 17]), e 19 (.un .not (.tmp 18))], gr [e 20 (.pick (.tmp 14) (.tmp 19) (.const (.bool false)))]]) (.cond (.tmp 20) .ret .skip)))) (og [e 21 (.bin .add 3 (.tmp 7) (.const (.int .i64 1))), mv 7 (.tmp 21)]))))))⟩
theorem lw265 : lowG Tryz.prog 265 = some h265 := by kernel_rfl
def hA : GC := og [e 4 (.zero 37 #[.int .i64 0, .int .i64 0, .int .i64 0, .int .i64 0, .int .i64 0, .int .i64 0, .int .i64 0, .int .i64 0, .int .u64 0]), e0 (.store 9 (.tmp 4) (.tmp 7))]
def hB : GC := .block 1 (og [ld 8 (.tmp 3), e 9 (.load (some 9) (.tmp 4)), e 10 (.row 37 9 1 #[.int .i64 0, .int .i64 0, .int .i64 0, .int .i64 0, .int .i64 0, .int .i64 0, .int .i64 0, .int .i64 0, .int .u64 0] [(0, .tmp 9)]), e 11 (.append 37 9 72 (.tmp 8) (.tmp 10)), e0 (.store 1 (.tmp 3) (.tmp 11))])
theorem lowR52 : lowRange Tryz.prog 52 = (13, hA, hB) := by kernel_rfl

/-! ### Operations and steps -/
structure Opn where
  (k s a n h p t c v : Int)
noncomputable instance : DecidableEq Opn := fun _ _ => Classical.propDecidable _
structure Stp where
  (k a b : Int)
  op : Opn
def opL (o : Opn) : List Value := [.int .i64 o.k, .int .i64 o.s, .int .i64 o.a, .int .i64 o.n, .int .i64 o.h, .int .i64 o.p, .int .i64 o.t, .int .i64 o.c, .int .u64 o.v]
abbrev opV (o : Opn) : Value := .agg #[.int .i64 o.k, .int .i64 o.s, .int .i64 o.a, .int .i64 o.n, .int .i64 o.h, .int .i64 o.p, .int .i64 o.t, .int .i64 o.c, .int .u64 o.v]
def stL (s : Stp) : List Value := .int .i64 s.k :: .int .i64 s.a :: .int .i64 s.b :: opL s.op
def EOp : En Opn := ⟨9, 37, opL, fun _ => rfl, fun o v hv => by
  simp only [opL, List.mem_cons, List.not_mem_nil, or_false] at hv
  rcases hv with rfl | rfl | rfl | rfl | rfl | rfl | rfl | rfl | rfl <;> rfl, by decide⟩
def ESt : En Stp := ⟨12, 39, stL, fun _ => rfl, fun s v hv => by
  simp only [stL, opL, List.mem_cons, List.not_mem_nil, or_false] at hv
  rcases hv with rfl | rfl | rfl | rfl | rfl | rfl | rfl | rfl | rfl | rfl | rfl | rfl <;> rfl, by decide⟩
/-- The operations of steps. -/
def opsOf : List Stp → List Opn
  | [] => []
  | s :: l => if s.k = 1 then s.op :: opsOf l else opsOf l
theorem opsOf_append : ∀ l m : List Stp, opsOf (l ++ m) = opsOf l ++ opsOf m
  | [], _ => rfl
  | s :: l, m => by
    simp only [List.cons_append, opsOf, opsOf_append l m]
    split <;> rfl
theorem opsOf_len : ∀ l : List Stp, (opsOf l).length ≤ l.length
  | [] => Nat.le_refl _
  | s :: l => by
    have := opsOf_len l
    simp only [opsOf, List.length_cons]
    split <;> simp <;> omega
theorem opsOf_take (l : List Stp) {i : Nat} (hi : i < l.length) : opsOf (l.take (i + 1)) = if l[i].k = 1 then opsOf (l.take i) ++ [l[i].op] else opsOf (l.take i) := by
  rw [List.take_succ_eq_append_getElem hi, opsOf_append]
  simp only [opsOf]
  split <;> simp

set_option maxRecDepth 100000 in
theorem eq37 (c d : Opn) (w : World) : (Op.equalIn 10000 37 (opV c) (opV d)).run Tryz.prog w = .ok (decide (c = d)) w := by
  have u3 := Tryz.underlying3
  have u35 : Tryz.prog.underlying 35 = some (.int .u64) := by kernel_rfl
  have hS : Tryz.prog.underlying 37 = some (.struct (Tryz.prog.fieldsOf 37)) := by kernel_rfl
  have hp : Tryz.prog.stoodInHeld 37 = false := by kernel_rfl
  rw [show (10000 : Nat) = 9999 + 1 from rfl, run_equalIn_agg w 9999 37 _ _ hS hp]
  simp only [Program.fieldsOf, Tryz.underlying37]
  obtain ⟨k, s, a, n, h, p, t, c, v⟩ := c
  obtain ⟨k', s', a', n', h', p', t', c', v'⟩ := d
  go_simp
  by_cases h1 : k = k'
  case neg => simp [h1]
  by_cases h2 : s = s'
  case neg => simp [h2]
  by_cases h3 : a = a'
  case neg => simp [h3]
  by_cases h4 : n = n'
  case neg => simp [h4]
  by_cases h5 : h = h'
  case neg => simp [h5]
  by_cases h6 : p = p'
  case neg => simp [h6]
  by_cases h7 : t = t'
  case neg => simp [h7]
  by_cases h8 : c = c'
  case neg => simp [h8]
  by_cases h9 : v = v'
  case neg => simp [h9]
  simp [h1, h2, h3, h4, h5, h6, h7, h8, h9]
theorem op_fit (c d : Opn) : binFit Tryz.prog .neq 37 (opV c) (opV d) = true := by
  have he : eqTy Tryz.prog 5 37 = true := by kernel_rfl
  have hg : ∀ c : Opn, groundD 4 (opV c) = true := fun c => by simp [groundD]
  simp [binFit, he, eqFit, hg]
theorem op_ne {o1 o2 : Operand} {c d : Opn} {w : World} : binS Tryz.prog .neq 37 o1 o2 (opV c) (opV d) w = .ret (.bool (!decide (c = d)), w) := by
  have hm : Tryz.prog.eqGuardType Tryz.prog.depth 37 = false := by kernel_rfl
  have h := eq37 c d w
  unfold binS
  simp only [op_fit c d, if_true]
  simp only [Sem.run_bind, run_eqGuard_agg w _ _ _ _ _ _ hm, Result.andThen, run_neq_struct, h, ofRun]

theorem row37 (o : Opn) (w : World) : rowS 37 9 1 #[.int .i64 0, .int .i64 0, .int .i64 0, .int .i64 0, .int .i64 0, .int .i64 0, .int .i64 0, .int .i64 0, .int .u64 0] [(0, .agg (opL o).toArray)] w = .ret (.slice (some ⟨w.heap.size, 0, none⟩) 1 1, World.push w (.cells (opL o).toArray 37)) := by
  have h : Instr.fill (fun i => some (i * 9, 9)) #[.int .i64 0, .int .i64 0, .int .i64 0, .int .i64 0, .int .i64 0, .int .i64 0, .int .i64 0, .int .i64 0, .int .u64 0] [(0, .agg (opL o).toArray)] = some (opL o).toArray := by
    simp [Instr.fill, opL]
  unfold rowS
  rw [h]
theorem srcOp {w : World} {r : Nat} {o : Opn} (h : cellsOf? w r = some ((opL o).toArray, 37, (0, 0))) : SrcE EOp w (.slice (some ⟨r, 0, none⟩) 1 1) [o] :=
  .inr ⟨r, 0, 1, _, 37, (0, 0), rfl, h, by simp [EOp, opL], by simp [EOp, flat, opL]⟩
/-- A step, and its parts, read. -/
theorem srcSt {w : World} {v : Value} {l : List Stp} (h : SrcE ESt w v l) {i : Nat} (hi : i < l.length) : ∃ b o cap c e fz, v = .slice (some ⟨b, o, none⟩) l.length cap ∧ cellsOf? w b = some (c, e, fz) ∧ o + i * 12 + 12 ≤ c.size ∧
    c.extract (o + i * 12) (o + i * 12 + 12) = (stL l[i]).toArray ∧ c[o + i * 12]? = some (.int .i64 l[i].k) ∧ c.extract (o + i * 12 + 3) (o + i * 12 + 12) = (opL l[i].op).toArray := by
  obtain ⟨b, o, cap, c, e, fz, h1, h2, h3, h4, h5⟩ := h.at hi
  simp only [ESt] at h3 h4 h5
  refine ⟨b, o, cap, c, e, fz, h1, h2, h3, h4, h5 0 (by omega), ?_⟩
  apply Array.ext_getElem?
  intro j
  rw [Array.getElem?_extract]
  by_cases h : j < 9
  · rw [if_pos (by omega), Nat.add_assoc (o + i * 12) 3 j, h5 (3 + j) (by omega)]
    simp only [stL, List.getElem?_toArray]
    rw [show 3 + j = j + 1 + 1 + 1 by omega]
    simp only [List.getElem?_cons_succ]
  · rw [if_neg (by omega), Array.getElem?_eq_none (by simp [opL]; omega)]
theorem rowOp {w : World} {v : Value} {l : List Opn} (h : RowE EOp w v l) {i : Nat} (hi : i < l.length) : ∃ b o cap c, v = .slice (some ⟨b, o, none⟩) l.length cap ∧ cellsOf? w b = some (c, 37, (0, 0)) ∧ o + i * 9 + 9 ≤ c.size ∧
    c.extract (o + i * 9) (o + i * 9 + 9) = (opL l[i]).toArray := by
  obtain ⟨b, o, cap, c, h1, h2, h3, h4, _⟩ := h.at hi
  exact ⟨b, o, cap, c, h1, h2, h3, h4⟩

/-- A row that is being built. -/
structure OutE {α : Type} (E : En α) (w w' : World) (u : Value) (xs : List α) : Prop where
  row : RowE E w' u xs
  k : Keeps w w' (fun _ => False)
  new : ∀ j, blkOf u = some j → w.heap.size ≤ j
theorem OutE.keep {α : Type} {E : En α} {w w' w2 : World} {u : Value} {xs : List α} (h : OutE E w w' u xs) (hk : Keeps w' w2 (fun _ => False)) : OutE E w w2 u xs :=
  ⟨h.row.keep hk (fun _ _ h => h), h.k.trans hk (fun _ _ h => h) (fun _ _ h => h), h.new⟩
theorem OutE.app {α : Type} {E : En α} {w w' : World} {u s : Value} {xs ms : List α} {by_ : Nat} {Q : Value × World → Prop} (h : OutE E w w' u xs) (hs : SrcE E w' s ms) (hbig : (xs.length + ms.length) * by_ ≤ 140737488355328)
    (hq : ∀ v' w2, OutE E w w2 v' (xs ++ ms) → (ms ≠ [] → blkOf v' = some w'.heap.size) → Q (v', w2)) : (appendS E.te E.es by_ u s w').all Q :=
  appEw h.row hs hbig fun v' w2 hr hk he hn => hq v' w2 ⟨hr, h.k.trans hk (fun _ _ h => h) (fun j hj hb => by have := h.new j hb; omega), fun j hj => by
    by_cases hm : ms = []
    · rw [(he hm).1] at hj; exact h.new j hj
    · rw [hn hm] at hj; simp at hj; have := h.k.1; omega⟩ hn
theorem OutE.nil {α : Type} (E : En α) (w : World) : OutE E w w (.slice none 0 0) [] := ⟨RowE.nil w, Keeps.refl _ _, fun j h => by cases h⟩

/-! ### The document's -/
theorem run53 {K : Kont} {fuel : Nat} {w : World} {u : Value} {l : List Stp} (hu : SrcE ESt w u l) (hl : l.length * 72 ≤ 140737488355328) (hf : l.length < fuel) : wpGFn Tryz.prog K fuel 53 h53 #[u] w fun z w' => OutE EOp w w' z (opsOf l) := by
  rw [gfn_start]
  have hlu := fun w' => hu.lenS (w' := w')
  simp -implicitDefEqProofs [h53, W.e, W.mv, W.sq, W.og, W.gr, W.fa, W.ld]
  refine loop_go (fun i ρ w' => ∃ q : Nat, i = l.length - q ∧ q ≤ l.length ∧ ρ 0 = u ∧ ρ 4 = n64 q ∧ OutE EOp w w' (ρ 3) (opsOf (l.take q))) ?_ (i := l.length) ?_ (by show l.length < fuel; omega)
  · rintro i ρ w' ⟨q, rfl, hq, e0, e4, hO⟩
    have x1 : IntKind.i64.wrap ((q : Int) + 1) = (q : Int) + 1 := by rw [IntKind.wrap_i64]; omega
    by_cases h : q < l.length
    · obtain ⟨b1, o1, p1, c1, te1, fz1, hve1, hc1, hs1, hx1, hk1, hop1⟩ := srcSt (hu.keep hO.k (fun _ _ h => h)) h
      have h3 := opsOf_take l h
      by_cases hk : l[q].k = 1
      · rw [if_pos hk] at h3
        simp -implicitDefEqProofs [e0, e4, h, hve1, hc1, hs1, hx1, hk1, hop1, x1, hk, row37]
        refine valA_of (R := fun r => OutE EOp w r.2 r.1 (opsOf (l.take q) ++ [l[q].op])) ((hO.keep (Keeps.push _ _ _)).app (E := EOp) (ms := [l[q].op]) (srcOp (by simp)) ?_ (fun v2 w2 h _ => h)) (fun v2 w2 hO2 => ?_)
        · have := opsOf_len (l.take q)
          rw [List.length_take] at this
          simp only [List.length_cons, List.length_nil]
          omega
        · simp only at hO2
          rw [← h3] at hO2
          simp -implicitDefEqProofs [e0, e4, x1]
          exact ⟨l.length - (q + 1), by omega, q + 1, rfl, by omega, hve1.symm ▸ rfl, by omega, hO2⟩
      · rw [if_neg hk] at h3
        rw [← h3] at hO
        simp -implicitDefEqProofs [e0, e4, h, hve1, hc1, hs1, hx1, hk1, hop1, x1, hk]
        exact ⟨l.length - (q + 1), by omega, q + 1, rfl, by omega, by omega, hO⟩
    · have hq2 : q = l.length := by omega
      subst hq2
      rw [List.take_length] at hO
      simp -implicitDefEqProofs [e0, e4, hlu]
      exact hO
  · exact ⟨0, by simp, Nat.zero_le _, by simp, by simp, by simpa [opsOf] using OutE.nil EOp w⟩
end Go.Proofs.YteljibbnpheekaaGreat
