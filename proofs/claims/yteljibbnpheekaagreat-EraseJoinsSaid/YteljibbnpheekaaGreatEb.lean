/-
  Erase: the program's: a range over a function.
-/
import Derived.Test.YteljibbnpheekaaGreatEa
namespace Go.Proofs.YteljibbnpheekaaGreat
open Go Go.Ideal Go.Ideal.W Go.Proofs

theorem callV_yield {P : Program} {K : Kont} {l : Nat} {r : Loop} {args : Array Value} {w : World} (h : w.heap[l]? = some (.loop r)) (hs : args.size = r.params.size) :
    callV P K (.func (.yield l) #[] #[]) args w = K.round l r.fn ((r.params.zip args).foldl (fun tmps (t, a) => tmps.setIfInBounds t a) r.tmps) r.assign r.body w := by
  unfold callV
  simp only [h]
  rw [if_pos ⟨rfl, hs⟩]
theorem fold_one {A : Array Value} {t : Tmp} {a : Value} : (#[t].zip #[a]).foldl (fun tmps (t, a) => tmps.setIfInBounds t a) A = A.setIfInBounds t a := by simp

theorem run139 {K : Kont} {fuel : Nat} {w : World} {u : Value} (hc : u.cells = #[u]) : wpGFn Tryz.prog K fuel 139 h139 #[u] w fun v w' => v = .func (.func 265) #[] #[pt w.heap.size] ∧ w' = World.push w (.cells #[u] 90) := by
  rw [gfn_start]
  simp [h139, W.e, W.mv, W.sq, W.og, W.gr, W.fa, W.ld, hc]

theorem stL_len (s : Stp) : (stL s).length = 12 := rfl
theorem opL_len (s : Opn) : (opL s).length = 9 := rfl
theorem stL_one (s : Stp) : ∀ x ∈ stL s, one1 x = true := ESt.one s
theorem opL_one (s : Opn) : ∀ x ∈ opL s, one1 x = true := EOp.one s
theorem stL_put (s : Stp) : Ideal.putCells #[.int .i64 0, .int .i64 0, .int .i64 0, .int .i64 0, .int .i64 0, .int .i64 0, .int .i64 0, .int .i64 0, .int .i64 0, .int .i64 0, .int .i64 0, .int .u64 0] 0 (stL s) = (stL s).toArray := by
  simp [Ideal.putCells, stL, opL]
theorem opL_put (s : Opn) : Ideal.putCells #[.int .i64 0, .int .i64 0, .int .i64 0, .int .i64 0, .int .i64 0, .int .i64 0, .int .i64 0, .int .i64 0, .int .u64 0] 0 (opL s) = (opL s).toArray := by
  simp [Ideal.putCells, opL]
theorem stL_0 (s : Stp) : (stL s)[0]? = some (.int .i64 s.k) := rfl
theorem stL_g0 (s : Stp) (h : 0 < (stL s).length) : (stL s)[0]'h = .int .i64 s.k := rfl
theorem stL_all (s : Stp) : (∀ x, x ∈ stL s → one1 x = true) ↔ True := iff_true_intro (stL_one s)
theorem opL_all (s : Opn) : (∀ x, x ∈ opL s → one1 x = true) ↔ True := iff_true_intro (opL_one s)
theorem stL_op (s : Stp) : List.take 9 (List.drop 3 (stL s)) = opL s.op := rfl

theorem run265 {K : Kont} {fuel : Nat} {w : World} {l q0 : Nat} {u : Value} {xs : List Stp} {r : Loop} (hf : xs.length < fuel) (hx : xs.length * 72 ≤ 140737488355328) (hpar : r.params.size = 1)
    (J : Nat → World → Prop) (hJ : ∀ i w', J i w' → w'.heap[l]? = some (.loop r) ∧ cellsOf? w' q0 = some (#[u], 90, (0, 0)) ∧ SrcE ESt w' u xs) (hpush : ∀ i w' w'', J i w' → Keeps w' w'' (fun _ => False) → J i w'')
    (hskip : ∀ i w' (hi : i < xs.length), ¬ xs[i].k = 1 → J i w' → J (i + 1) w')
    (hround : ∀ i w' (hi : i < xs.length), xs[i].k = 1 → J i w' → (K.round l r.fn ((r.params.zip #[.agg (opL xs[i].op).toArray]).foldl (fun tmps (t, a) => tmps.setIfInBounds t a) r.tmps) r.assign r.body w').all fun x => x.1 = .bool true ∧ J (i + 1) x.2)
    (h0 : J 0 w) : wpGFn Tryz.prog K fuel 265 h265 #[.func (.yield l) #[] #[], pt q0] w fun _ w' => J xs.length w' := by
  rw [gfn_start]
  obtain ⟨hl0, hq0, hs0⟩ := hJ 0 w h0
  have hlu := fun w' => hs0.lenS (w' := w')
  simp -implicitDefEqProofs [h265, W.e, W.e0, W.mv, W.sq, W.og, W.gr, W.fa, W.ld, hq0, hlu]
  refine loop_go (fun i ρ w' => ∃ q : Nat, i = xs.length - q ∧ q ≤ xs.length ∧ ρ 0 = .func (.yield l) #[] #[] ∧ ρ 5 = u ∧ ρ 6 = n64 xs.length ∧ ρ 7 = n64 q ∧ J q w') ?_ (i := xs.length) ?_ (by show xs.length < fuel; omega)
  · rintro i ρ w' ⟨q, rfl, hq, e0, e5, e6, e7, hj⟩
    have x1 : IntKind.i64.wrap ((q : Int) + 1) = (q : Int) + 1 := by rw [IntKind.wrap_i64]; omega
    by_cases h : q < xs.length
    · obtain ⟨hl, hq1, hs⟩ := hJ q w' hj
      obtain ⟨b1, o1, p1, c1, te1, fz1, hve1, hc1, hs1, hx1, hk1, hop1⟩ := srcSt hs h
      have hk1 : Keeps w' (World.set (World.push w' (.cells #[.int .i64 0, .int .i64 0, .int .i64 0, .int .i64 0, .int .i64 0, .int .i64 0, .int .i64 0, .int .i64 0, .int .i64 0, .int .i64 0, .int .i64 0, .int .u64 0] 39)) w'.heap.size (.cells (stL xs[q]).toArray 39)) (fun _ => False) :=
        (Keeps.push w' _ (fun _ => False)).trans (Keeps.set _ w'.heap.size _ (F := fun j => j = w'.heap.size) (fun _ => rfl)) (fun _ _ h => h) (fun j hj h => by omega)
      have hjn := hpush q w' _ hj hk1
      have hln := (hJ q _ hjn).1
      by_cases hk : xs[q].k = 1
      · simp -implicitDefEqProofs [e0, e5, e6, e7, h, hve1, hc1, hs1, hx1, hop1, x1, hk, stL_len, stL_all, stL_put, stL_g0, stL_op]
        rw [callV_yield hln (by simp [hpar])]
        refine valA_of (hround q _ h hk hjn) (fun v2 w2 hq2 => ?_)
        obtain ⟨hv2, hj2⟩ := hq2
        simp only at hv2 hj2
        subst hv2
        simp -implicitDefEqProofs [e0, e5, e6, e7, x1]
        exact ⟨xs.length - (q + 1), by omega, q + 1, rfl, by omega, hve1.symm ▸ rfl, by omega, hj2⟩
      · simp -implicitDefEqProofs [e0, e5, e6, e7, h, hve1, hc1, hs1, hx1, hop1, x1, hk, stL_len, stL_all, stL_put, stL_g0, stL_op]
        exact ⟨xs.length - (q + 1), by omega, q + 1, rfl, by omega, by omega, hskip q _ h hk hjn⟩
    · have hq2 : q = xs.length := by omega
      subst hq2
      simp -implicitDefEqProofs [e6, e7]
      exact hj
  · exact ⟨0, by simp, Nat.zero_le _, by simp, by simp, by simp, by simp, h0⟩
end Go.Proofs.YteljibbnpheekaaGreat
