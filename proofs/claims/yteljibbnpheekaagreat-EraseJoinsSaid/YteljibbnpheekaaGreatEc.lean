/-
  Erase: the program's Erase.
-/
import Derived.Test.YteljibbnpheekaaGreatEb
namespace Go.Proofs.YteljibbnpheekaaGreat
open Go Go.Ideal Go.Ideal.W Go.Proofs

noncomputable def rfA (f : Nat) : Code := (rangeOf Tryz.prog f).1
noncomputable def rfB (f : Nat) : Code := (rangeOf Tryz.prog f).2
theorem lowA52 : grpC (lowC Tryz.prog 13 (pcOf (rfA 52))) = hA ∧ grpC (lowC Tryz.prog 13 (pcOf (rfB 52))) = hB := by
  have h := lowR52
  simp only [lowRange, Prod.mk.injEq] at h
  obtain ⟨h1, h2, h3⟩ := h
  rw [h1] at h2 h3
  exact ⟨h2, h3⟩
theorem body265 : (Tryz.prog.funcs[265]?).any (fun fn => fn.body.isSome && fn.name != "runtime.NumGoroutine") = true := by kernel_rfl

theorem opL_t (o : Opn) : List.take 9 (opL o) = opL o := rfl
/-- What is gathered so far. -/
structure Acc (w0 w : World) (M l : Nat) (r : Loop) (xs : List Opn) : Prop where
  k : Keeps w0 w (fun j => j = M ∨ j = l)
  lp : w.heap[l]? = some (.loop r)
  row : ∃ s, cellsOf? w M = some (#[s], 91, (0, 0)) ∧ RowE EOp w s xs ∧ ∀ j, blkOf s = some j → w0.heap.size ≤ j
theorem Acc.keep {w0 w w' : World} {M l : Nat} {r : Loop} {xs : List Opn} (h : Acc w0 w M l r xs) (hk : Keeps w w' (fun _ => False)) : Acc w0 w' M l r xs := by
  obtain ⟨s, h1, h2, h3⟩ := h.row
  exact ⟨h.k.trans hk (fun _ _ h => h) (fun _ _ h => h.elim), hk.at h.lp (fun h => h), s, hk.cells h1 (fun h => h), h2.keep hk (fun _ _ h => h), h3⟩

set_option maxRecDepth 100000 in
theorem round52 {K3 : Kont} {f3 : Nat} {w0 w : World} {l M : Nat} {o : Opn} {ρ0 : Env} {xs : List Opn} {r : Loop} (h3 : ρ0 3 = pt M) (hA : Acc w0 w M l r xs) (hr : r.state = .ready ∧ r.pending = none)
    (hn : (xs.length + 1) * 72 ≤ 140737488355328) :
    (iround Tryz.prog K3 f3 l 52 ((arr 13 ρ0).setIfInBounds 7 (.agg (opL o).toArray)) (rfA 52) (rfB 52) w).all fun x => x.1 = .bool true ∧ Acc w0 x.2 M l r (xs ++ [o]) := by
  obtain ⟨s, hc, hrow, hnew⟩ := hA.row
  have hMw := cells_lt hc
  have hlw := (Array.getElem?_eq_some_iff.1 hA.lp).1
  have hMl : M ≠ l := fun e => by
    have := cellsOf?_spec hc
    rw [e, hA.lp] at this; cases this
  have hsl : ∀ j, blkOf s = some j → j ≠ l := fun j hj e => by
    rcases hrow with ⟨rfl, _⟩ | ⟨b, o, cap, c, rfl, hcc, _⟩
    · cases hj
    · simp only [blkOf, Option.some.injEq] at hj
      have := cellsOf?_spec hcc
      rw [hj, e, hA.lp] at this; cases this
  have hsM : ∀ j, blkOf s = some j → j ≠ M := fun j hj e => by
    rcases hrow with ⟨rfl, _⟩ | ⟨b, o, cap, c, rfl, hcc, _⟩
    · cases hj
    · simp only [blkOf, Option.some.injEq] at hj
      rw [hj, e, hc] at hcc
      simp [EOp] at hcc
  apply round_rule (n := 13) lowA52.1 lowA52.2
  · simp
  rw [code_start]
  simp -implicitDefEqProofs [YteljibbnpheekaaGreat.hA, W.e, W.e0, W.mv, W.sq, W.og, W.gr, W.fa, W.ld, opL_len, opL_all, opL_put, -of_at]
  generalize hW1 : World.set (World.push _ _) _ _ = W1
  have k1 : Keeps w W1 (fun _ => False) := by
    rw [← hW1]
    exact (Keeps.push w _ (fun _ => False)).trans (Keeps.set _ w.heap.size _ (F := fun j => j = w.heap.size) (fun _ => rfl)) (fun _ _ h => h) (fun j hj h => by omega)
  have hX : cellsOf? W1 w.heap.size = some ((opL o).toArray, 37, (0, 0)) := by rw [← hW1]; simp
  clear hW1
  refine ⟨r, k1.at hA.lp (fun h => h), hr.1, ?_⟩
  generalize hW2 : World.set W1 l _ = W2
  have k2 : Keeps W1 W2 (fun j => j = l) := by rw [← hW2]; exact Keeps.set _ _ _ fun _ => rfl
  have hl2 : W2.heap[l]? = some (.loop { r with state := .busy }) := by
    rw [← hW2, at_set, if_pos ⟨rfl, (Array.getElem?_eq_some_iff.1 (k1.at hA.lp (fun h => h))).1⟩]
  clear hW2
  have hsz1 := k1.1
  have hsz2 := k2.1
  have k12 : Keeps w W2 (fun j => j = l) := k1.trans k2 (fun _ _ h => h.elim) (fun _ _ h => h)
  have hX2 := k2.cells hX (by omega)
  have hc2 := k12.cells hc hMl
  have hrow2 := hrow.keep k12 hsl
  rw [code_start]
  simp -implicitDefEqProofs [hB, W.e, W.e0, W.mv, W.sq, W.og, W.gr, W.fa, W.ld, h3, hX2, hc2, opL_len, opL_all, opL_t, row37, -of_at]
  have k3 : Keeps W2 (World.push W2 (.cells (opL o).toArray 37)) (fun _ => False) := Keeps.push _ _ _
  have hrow3 := hrow2.keep k3 (fun _ _ h => h)
  refine valA_of (R := fun x => RowE EOp x.2 x.1 (xs ++ [o]) ∧ Keeps W2 x.2 (fun j => blkOf s = some j) ∧ blkOf x.1 = some (W2.heap.size + 1)) (appEw (E := EOp) (ms := [o]) hrow3 (srcOp (by simp)) (by simpa using hn) fun v' w' hr' hk' _ hb' => ?_) (fun v4 w4 hq => ?_)
  · refine ⟨hr', k3.trans hk' (fun _ _ h => h.elim) (fun _ _ h => h), ?_⟩
    have := hb' (by simp)
    simpa using this
  · obtain ⟨hr4, hk4, hb4⟩ := hq
    simp only at hr4 hk4 hb4
    have hc4 := hk4.cells hc2 (fun h => hsM M h rfl)
    have hl4 := hk4.at hl2 (fun h => hsl l h rfl)
    obtain ⟨hcc, hone⟩ := hr4.cell
    simp -implicitDefEqProofs [h3, hc4, hcc, hone, -of_at]
    have hsz4 := hk4.1
    have hM4 := cells_lt hc4
    have hl4' := (Array.getElem?_eq_some_iff.1 hl4).1
    refine ⟨{ r with state := .busy }, by rw [at_set, if_neg (fun h => hMl h.1.symm)]; exact hl4, ?_⟩
    generalize hW5 : World.set w4 M _ = W5
    have k5 : Keeps w4 W5 (fun j => j = M) := by rw [← hW5]; exact Keeps.set _ _ _ fun _ => rfl
    have hc5 : cellsOf? W5 M = some (#[v4], 91, (0, 0)) := by rw [← hW5]; simp [hM4]
    clear hW5
    generalize hW6 : World.set W5 l _ = W6
    have k6 : Keeps W5 W6 (fun j => j = l) := by rw [← hW6]; exact Keeps.set _ _ _ fun _ => rfl
    have hl6 : W6.heap[l]? = some (.loop r) := by
      rw [← hW6, at_set, if_pos ⟨rfl, Nat.lt_of_lt_of_le hl4' k5.1⟩]
      obtain ⟨st, pd, _, _, _, _, _, _⟩ := r
      simp only at hr
      obtain ⟨rfl, rfl⟩ := hr
      rfl
    clear hW6
    have hall : Keeps w W6 (fun j => j = l ∨ j = M ∨ blkOf s = some j) :=
      ((k12.trans hk4 (H := fun j => j = l ∨ blkOf s = some j) (fun _ _ h => .inl h) (fun _ _ h => .inr h)).trans (k5.trans k6 (H := fun j => j = M ∨ j = l) (fun _ _ h => .inl h) (fun _ _ h => .inr h)) (fun _ _ h => h.elim .inl (fun h => .inr (.inr h))) (fun _ _ h => h.elim (fun h => .inr (.inl h)) .inl))
    refine ⟨hA.k.trans hall (fun _ _ h => h) (fun j hj h => ?_), hl6, v4, k6.cells hc5 hMl, (hr4.keep k5 fun j hj e => ?_).keep k6 fun j hj e => ?_, fun j hj => ?_⟩
    · rcases h with h | h | h
      · exact .inr h
      · exact .inl h
      · have := hnew j h; omega
    · rw [hb4] at hj; simp only [Option.some.injEq] at hj; omega
    · rw [hb4] at hj; simp only [Option.some.injEq] at hj; omega
    · rw [hb4] at hj; simp only [Option.some.injEq] at hj; have := hA.k.1; omega

/-- Its parts. -/
structure HasRange (K : Kont) (rd : Nat → FuncId → Array Value → Code → Code → World → T (Value × World)) (N : Nat) : Prop where
  h139 : ∀ {w : World} {u : Value}, u.cells = #[u] → (K.enter 139 #[u] w).all fun x => x.1 = .func (.func 265) #[] #[pt w.heap.size] ∧ x.2 = World.push w (.cells #[u] 90)
  h265 : ∀ {w : World} {l q0 : Nat} {u : Value} {xs : List Stp} {r : Loop}, xs.length < N → xs.length * 72 ≤ 140737488355328 → r.params.size = 1 →
    ∀ (J : Nat → World → Prop), (∀ i w', J i w' → w'.heap[l]? = some (.loop r) ∧ cellsOf? w' q0 = some (#[u], 90, (0, 0)) ∧ SrcE ESt w' u xs) → (∀ i w' w'', J i w' → Keeps w' w'' (fun _ => False) → J i w'') →
    (∀ i w' (hi : i < xs.length), ¬ xs[i].k = 1 → J i w' → J (i + 1) w') →
    (∀ i w' (hi : i < xs.length), xs[i].k = 1 → J i w' → (rd l r.fn ((r.params.zip #[.agg (opL xs[i].op).toArray]).foldl (fun tmps (t, a) => tmps.setIfInBounds t a) r.tmps) r.assign r.body w').all fun x => x.1 = .bool true ∧ J (i + 1) x.2) →
    J 0 w → (K.enter 265 #[.func (.yield l) #[] #[], pt q0] w).all fun x => J xs.length x.2

set_option maxHeartbeats 1000000 in
set_option maxRecDepth 100000 in
theorem run52 {K : Kont} {fuel N : Nat} {K3 : Kont} {f3 : Nat} (hH : HasRange K (iround Tryz.prog K3 f3) N) {w : World} {u : Value} {xs : List Stp} (hu : SrcE ESt w u xs) (hN : xs.length < N) (hx : xs.length * 72 ≤ 140737488355328) :
    wpGFn Tryz.prog K fuel 52 YteljibbnpheekaaGreat.h52 #[u] w fun z w' => OutE EOp w w' z (opsOf xs) := by
  rw [gfn_start]
  have huc : u.cells = #[u] := by obtain ⟨_, _, rfl⟩ := hu.shape; rfl
  generalize hA : (rangeOf Tryz.prog 52).1 = A0
  generalize hB : (rangeOf Tryz.prog 52).2 = B0
  simp -implicitDefEqProofs [YteljibbnpheekaaGreat.h52, W.e, W.e0, W.mv, W.sq, W.og, W.gr, W.fa, W.ld, hA, hB]
  refine valA_of (hH.h139 huc) (fun v1 w1 hq => ?_)
  obtain ⟨hv1, hw1⟩ := hq
  simp only at hv1 hw1
  subst hv1
  simp -implicitDefEqProofs
  have g0 : w1.heap.size = w.heap.size + 2 := by simp [hw1]
  have gM : cellsOf? w1 w.heap.size = some (#[.slice none 0 0], 91, (0, 0)) := by simp [hw1]
  have gq : cellsOf? w1 (w.heap.size + 1) = some (#[u], 90, (0, 0)) := by simp [hw1]
  have gk : Keeps w w1 (fun _ => False) := ⟨by omega, fun j hj _ => by
    have h0 : ¬ j = w.heap.size := by omega
    have h1 : ¬ j = w.heap.size + 1 := by omega
    simp [hw1, at_push, h0, h1]⟩
  clear hw1
  refine range_go (f := 265) (first := #[]) (captured := #[pt (w.heap.size + 1)]) rfl (show 6 < 13 by decide) ?_ rfl body265 ?_
  · simp
  · generalize hρ : Env.put _ (some 6) _ = ρ0
    have r3 : ρ0 3 = pt w.heap.size := by rw [← hρ]; simp
    clear hρ
    subst hA hB
    generalize hW : World.push (World.push _ _) _ = W1
    have k1 : Keeps w1 W1 (fun _ => False) := by rw [← hW]; exact (Keeps.push _ _ _).trans (Keeps.push _ _ _) (fun _ _ h => h) (fun _ _ h => h)
    have hsz : W1.heap.size = w.heap.size + 4 := by rw [← hW]; simp [g0]
    have hd : W1.heap[w.heap.size + 2]? = some (.deferred (some [])) := by rw [← hW, at_push, if_neg (by simp; omega), at_push, if_pos g0.symm]
    have hloop : W1.heap[w.heap.size + 3]? = some (.loop ⟨.ready, none, 52, arr 13 ρ0, #[7], rfA 52, rfB 52, w.heap.size + 2⟩) := by rw [← hW, at_push, if_pos (by simp; omega)]; simp only [g0]; rfl
    clear hW
    have gM := k1.cells gM (fun h => h)
    have gq := k1.cells gq (fun h => h)
    have gk : Keeps w W1 (fun _ => False) := gk.trans k1 (fun _ _ h => h) (fun _ _ h => h)
    clear k1
    rw [g0]
    have hu1 := hu.keep gk (fun _ _ h => h)
    have hub : ∀ j, blkOf u = some j → j < w.heap.size := fun j hj => by
      rcases hu with ⟨cap, rfl, _⟩ | ⟨b, o, cap, c, e, fz, rfl, hc, _⟩
      · cases hj
      · simp only [blkOf, Option.some.injEq] at hj; subst hj; exact cells_lt hc
    refine T.all_mono (fun r hr2 => ?_) (hH.h265 (w := W1) (l := w.heap.size + 3) (q0 := w.heap.size + 1) (u := u) (xs := xs) (r := ⟨.ready, none, 52, arr 13 ρ0, #[7], rfA 52, rfB 52, w.heap.size + 2⟩) hN hx rfl
      (fun i w' => Acc W1 w' w.heap.size (w.heap.size + 3) ⟨.ready, none, 52, arr 13 ρ0, #[7], rfA 52, rfB 52, w.heap.size + 2⟩ (opsOf (xs.take i))) ?_ ?_ ?_ ?_ ?_)
    · rw [List.take_length] at hr2
      refine ⟨_, hr2.lp, by simp, ?_⟩
      obtain ⟨s, hs1, hs2, hs3⟩ := hr2.row
      have hk := hr2.k
      have hs := hk.1
      generalize hw2 : World.set r.2 _ _ = w2
      have k2 : Keeps r.2 w2 (fun j => j = w.heap.size + 3) := by rw [← hw2]; exact Keeps.set _ _ _ fun _ => rfl
      clear hw2
      have hs1' := k2.cells hs1 (by omega)
      have hd2 := k2.at (hk.at hd (by omega)) (by omega)
      have hrow2 := hs2.keep k2 (fun j hj e => by have := hs3 j hj; omega)
      have hcc := hrow2.cells1
      have hone := hrow2.one
      simp -implicitDefEqProofs [r3, hs1', hcc, hone, -of_at]
      refine finPost_mark hd2 ?_
      generalize hw3 : World.set w2 _ _ = w3
      have k3 : Keeps w2 w3 (fun j => j = w.heap.size + 2) := by rw [← hw3]; exact Keeps.set _ _ _ fun _ => rfl
      clear hw3
      have hrow3 := hrow2.keep k3 (fun j hj e => by have := hs3 j hj; omega)
      have kk : Keeps W1 w3 (fun j => w.heap.size ≤ j) := (hk.trans k2 (H := fun j => w.heap.size ≤ j) (fun _ _ h => by omega) (fun _ _ h => by omega)).trans k3 (fun _ _ h => h) (fun _ _ h => by omega)
      simp -implicitDefEqProofs [-of_at]
      exact ⟨hrow3, gk.trans kk (fun _ _ h => h) (fun j hj h => by omega), fun j hj => by have := hs3 j hj; omega⟩
    · rintro i w' hA
      exact ⟨hA.lp, hA.k.cells gq (by omega), hu1.keep hA.k (fun j hj => by have := hub j hj; omega)⟩
    · rintro i w' w'' hA hk
      exact hA.keep hk
    · rintro i w' hi hk hA
      rw [opsOf_take xs hi, if_neg hk]
      exact hA
    · rintro i w' hi hk hA
      rw [fold_one, opsOf_take xs hi, if_pos hk]
      refine round52 r3 hA ⟨rfl, rfl⟩ ?_
      have := opsOf_len (xs.take i)
      rw [List.length_take] at this
      omega
    · exact ⟨Keeps.refl _ _, hloop, .slice none 0 0, gM, by simpa [opsOf] using RowE.nil W1, fun j h => by cases h⟩
end Go.Proofs.YteljibbnpheekaaGreat
