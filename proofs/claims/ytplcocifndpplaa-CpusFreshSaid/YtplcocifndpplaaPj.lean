/-
  The program's buffer: Drop; what a range over its lines comes to.
-/
import Derived.Test.YtplcocifndpplaaPe
import Derived.Test.YtplcocifndpplaaJp
namespace Go.Proofs.Ytplcocifndpplaa
open Go Go.Ideal

theorem run25 {K : Kont} {fuel : Nat} {w : World} {b : Nat} {size : Int} {ls : List Line} (hb : Buf w 89 b size ls) (hl : ls.length ≤ 1000) (i : Int) (hi : In64 i) :
    wpGFn Try.prog K fuel 25 g25 #[ptr b, i64 i] w fun v w' => ((i < 0 ∨ (ls.length : Int) ≤ i) ∧ v = i64 3 ∧ Lay w w' 89 b size ls) ∨ ((0 ≤ i ∧ i < ls.length) ∧ v = i64 0 ∧ Lay w w' 89 b size (dropL ls i.toNat)) := by
  rw [gfn_start]
  obtain ⟨v, hv, hlns, hne⟩ := id hb
  obtain ⟨vb, vc, hve⟩ := hlns.shape
  by_cases h1 : i < 0
  · simp [g25, h1, nil25]
    exact ⟨hb, Moves.refl _ _⟩
  · by_cases h2 : (ls.length : Int) ≤ i
    · simp [g25, h1, nil25, hv, hlns.len, h2]
      exact ⟨hb, Moves.refl _ _⟩
    · obtain ⟨q, rfl⟩ : ∃ q : Nat, i = q := ⟨i.toNat, by omega⟩
      have hql : q < ls.length := by omega
      have w1 : IntKind.i64.wrap ((q : Int) + 1) = (q : Int) + 1 := by rw [IntKind.wrap_i64]; omega
      have hp1 : Keeps w (World.push w (.cells #[] 31)) (fun _ => False) := Keeps.push _ _ _
      have hl1 := hlns.keep hp1 (fun _ _ h => h)
      have a0 := fun w (h : Lns w v ls) => cutA_eq (k := .i64) (n := (q : Int)) h (Nat.le_of_lt hql) (by omega) rfl
      have b0 := fun w (h : Lns w v ls) => cutB_eq (k := .i64) (i := q + 1) (n := (q : Int) + 1) h hql (by omega) (by omega)
      have sA := cutA_src hlns (Nat.le_of_lt hql) (by omega)
      obtain ⟨sB, bB⟩ := cutB_lns (i := q + 1) hlns hql (by omega)
      have vA := veq_slice_self (v := cutA v q) (by obtain ⟨x, y, h⟩ := sA.shape; exact ⟨_, _, _, h⟩)
      have vB := veq_slice_self (v := cutB v (q + 1)) (by obtain ⟨x, y, h⟩ := sB.shape; exact ⟨_, _, _, h⟩)
      have vV := veq_slice_self (v := v) ⟨_, _, _, hve⟩
      have e2 : ¬ b = w.heap.size := Nat.ne_of_lt (cells_lt hv)
      have hempty : Lns (World.push w (.cells #[] 31)) (.slice (some ⟨w.heap.size, 0, none⟩) 0 0) [] := .inr ⟨w.heap.size, 0, 0, #[], rfl, by simp, Nat.zero_le _, .inl ⟨rfl, rfl⟩⟩
      simp [g25, h1, nil25, hv, hlns.len, h2, w1, a0 _ hlns, b0 _ hlns, a0 _ hl1, b0 _ hl1, row_none, e2, vA, vB, vV]
      refine app hempty (sA.keep hp1) (by simp; omega) (fun v4 w4 hl4 hk4 hnil hnn => ?_)
      rw [List.nil_append] at hl4
      have hk4' : Keeps w w4 (fun _ => False) := hp1.trans hk4 (fun _ _ h => h) (fun j hj hb => by simp [blockOf] at hb; omega)
      have hb4 : ∀ j, blockOf v4 = some j → w.heap.size ≤ j := fun j hj => by
        by_cases hm : ls.take q = []
        · rw [(hnil hm).1] at hj; simp [blockOf] at hj; omega
        · rw [hnn hm] at hj; simp at hj; omega
      have hv4 := hk4'.cells hv (fun h => h)
      have hl44 := hlns.keep hk4' (fun _ _ h => h)
      simp [hv4, b0 _ hl44, vB, vV]
      refine app hl4 (sB.src.keep hk4') (by simp; omega) (fun v5 w5 hl5 hk5 hnil5 hnn5 => ?_)
      have hk5' : Keeps w w5 (fun _ => False) := hk4'.trans hk5 (fun _ _ h => h) (fun j hj hb => by have := hb4 j hb; omega)
      have hv5 := hk5'.cells hv (fun h => h)
      obtain ⟨hc5, ho5⟩ := hl5.cell
      simp [hv5, hc5, ho5]
      refine ⟨hql, lay_set hv (hk5'.mono (fun _ _ h => h.elim)) hl5 (fun j hj => .inl ?_)⟩
      by_cases hm : ls.drop (q + 1) = []
      · rw [(hnil5 hm).1] at hj; exact hb4 j hj
      · rw [hnn5 hm] at hj
        simp only [Option.some.injEq] at hj
        have := hk4'.1
        omega

def hit (c : Line) (s p n : Int) : Bool := decide (c.s = s) && !(decide (c.p < p) && decide (sizeOf c.o ≤ p - c.p)) && !(decide (p ≤ c.p) && decide (n ≤ c.p - p))

theorem hit_eq {c : Line} {s p n : Int} (hp : 0 ≤ p) (hn : 1 ≤ n) : hit c s p n = meets c s p n := by
  have hs := size_cases c.o
  have hp' : ¬ p < 0 := by omega
  rw [Bool.eq_iff_iff]
  simp [hit, meets, hp']
  omega

theorem run45 {K : Kont} {fuel : Nat} {w : World} {b : Nat} (s p n : Int) :
    wpGFn Try.prog K fuel 45 g45 #[ptr b, i64 s, i64 p, i64 n] w fun v w' => v = .func (.func 64) #[] #[ptr w.heap.size, ptr (w.heap.size + 2), ptr (w.heap.size + 3), ptr (w.heap.size + 1)] ∧
      w' = World.push (World.push (World.push (World.push w (.cells #[ptr b] 25)) (.cells #[i64 s] 3)) (.cells #[i64 p] 3)) (.cells #[i64 n] 3) := by
  rw [gfn_start]
  simp [g45]

theorem callV_yield {P : Program} {K : Kont} {l : Nat} {r : Loop} {args : Array Value} {w : World} (h : w.heap[l]? = some (.loop r)) (hs : args.size = r.params.size) :
    callV P K (.func (.yield l) #[] #[]) args w = K.round l r.fn ((r.params.zip args).foldl (fun tmps (t, a) => tmps.setIfInBounds t a) r.tmps) r.assign r.body w := by
  unfold callV
  simp only [h]
  rw [if_pos ⟨rfl, hs⟩]

/-- What a range over the lines is about. -/
structure Rng (w : World) (l q0 q1 q2 q3 b : Nat) (size s p n : Int) (ls : List Line) (v : Value) (r : Loop) : Prop where
  loop : w.heap[l]? = some (.loop r)
  t : cellsOf? w q0 = some (#[ptr b], 25, (0, 0))
  p : cellsOf? w q1 = some (#[i64 p], 3, (0, 0))
  n : cellsOf? w q2 = some (#[i64 n], 3, (0, 0))
  s : cellsOf? w q3 = some (#[i64 s], 3, (0, 0))
  b : cellsOf? w b = some (#[i64 size, v], 89, (0, 0))
  ls : Lns w v ls

end Go.Proofs.Ytplcocifndpplaa
/-! What a range over its lines comes to. -/
namespace Go.Proofs.Ytplcocifndpplaa
open Go Go.Ideal

@[simp] theorem line_g0 (c : Line) (h : 0 < c.cells.size) : c.cells[0] = i64 c.s := rfl
@[simp] theorem line_g1 (c : Line) (h : 1 < c.cells.size) : c.cells[1] = i64 c.p := rfl
@[simp] theorem line_g2 (c : Line) (h : 2 < c.cells.size) : c.cells[2] = i64 c.o := rfl
@[simp] theorem line_g3 (c : Line) (h : 3 < c.cells.size) : c.cells[3] = i64 c.f := rfl
@[simp] theorem line_g4 (c : Line) (h : 4 < c.cells.size) : c.cells[4] = .bool c.w := rfl
theorem shl_line {o : Int} (h : o = 0 ∨ o = 3 ∨ o = 6) : arith .shl .i64 1 o = .ret (i64 (sizeOf o)) := by
  rcases h with h | h | h <;> rw [h] <;> rfl


theorem run64 {K : Kont} {fuel : Nat} (hf : 2000 ≤ fuel) {w : World} {l q0 q1 q2 q3 b : Nat} {size s p n : Int} {ls : List Line} {v : Value} {r : Loop} (hr : ∀ c ∈ ls, lineRight c = true) (hl : ls.length ≤ 1000) (hp : 0 ≤ p ∧ p < 9223372036854775808) (_hn : 1 ≤ n ∧ n < 9223372036854775808) (hpar : r.params.size = 2)
    (J : Nat → World → Prop) (E : World → Prop) (hJ : ∀ i w', J i w' → Rng w' l q0 q1 q2 q3 b size s p n ls v r) (hpush : ∀ i w' w'', J i w' → Keeps w' w'' (fun _ => False) → J i w'')
    (hskip : ∀ i w' (hi : i < ls.length), hit ls[i] s p n = false → J i w' → J (i + 1) w')
    (hround : ∀ i w' (hi : i < ls.length), hit ls[i] s p n = true → J i w' → (K.round l r.fn ((r.params.zip #[i64 i, .agg ls[i].cells]).foldl (fun tmps (t, a) => tmps.setIfInBounds t a) r.tmps) r.assign r.body w').all fun x => (x.1 = .bool true ∧ J (i + 1) x.2) ∨ (x.1 = .bool false ∧ E x.2))
    (h0 : J 0 w) : wpGFn Try.prog K fuel 64 g64 #[.func (.yield l) #[] #[], ptr q0, ptr q1, ptr q2, ptr q3] w fun _ w' => J ls.length w' ∨ E w' := by
  rw [gfn_start]
  have R0 := hJ 0 w h0
  simp [g64, R0.t, R0.b, R0.ls.len]
  refine loop_go (fun i ρ w' => ∃ (q : Nat), i = ls.length - q ∧ q ≤ ls.length ∧ ρ 0 = .func (.yield l) #[] #[] ∧ ρ 2 = ptr q1 ∧ ρ 3 = ptr q2 ∧ ρ 4 = ptr q3 ∧ ρ 13 = v ∧ ρ 14 = i64 ls.length ∧ ρ 15 = i64 q ∧ J q w') ?_ (i := ls.length) ?_ (by simp; omega)
  · rintro i ρ w' ⟨q, rfl, hq, e0, e2, e3, e4, e13, e14, e15, hj⟩
    have Rw := hJ q w' hj
    have w1 : IntKind.i64.wrap ((q : Int) + 1) = (q : Int) + 1 := by rw [IntKind.wrap_i64]; omega
    by_cases hql : q < ls.length
    · obtain ⟨lb, o, cap, c, hve, hc, hsz, hext⟩ := Rw.ls.line hql
      obtain ⟨ho, _, hc1, hc2, _⟩ := lineRight_spec (hr ls[q] (List.getElem_mem hql))
      have hsz' := size_cases ls[q].o
      have n1 : ¬ q1 = w'.heap.size := Nat.ne_of_lt (cells_lt Rw.p)
      have n2 : ¬ q2 = w'.heap.size := Nat.ne_of_lt (cells_lt Rw.n)
      have n3 : ¬ q3 = w'.heap.size := Nat.ne_of_lt (cells_lt Rw.s)
      have nl : ¬ l = w'.heap.size := Nat.ne_of_lt (Array.getElem?_eq_some_iff.1 Rw.loop).1
      have o2 : arith .shl .i64 1 ls[q].o = .ret (i64 (sizeOf ls[q].o)) := shl_line ho
      have o3 : IntKind.i64.wrap (p - ls[q].p) = p - ls[q].p := by rw [IntKind.wrap_i64]; omega
      have o4 : IntKind.i64.wrap (ls[q].p - p) = ls[q].p - p := by rw [IntKind.wrap_i64]; omega
      have hk1 : Keeps w' (World.set (World.push w' (.cells zeroL.cells 31)) w'.heap.size (.cells ls[q].cells 31)) (fun _ => False) :=
        (Keeps.push w' (.cells zeroL.cells 31) (fun _ => False)).trans (Keeps.set _ w'.heap.size _ (F := fun j => j = w'.heap.size) (fun _ => rfl)) (fun _ _ h => h) (fun j hj h => by omega)
      have hjn := hpush q w' _ hj hk1
      have done : hit ls[q] s p n = false → ∃ i', i' < ls.length - q ∧ ∃ q_1, i' = ls.length - q_1 ∧ q_1 ≤ ls.length ∧ (q : Int) + 1 = (q_1 : Int) ∧ J q_1 (World.set (World.push w' (.cells zeroL.cells 31)) w'.heap.size (.cells ls[q].cells 31)) := fun hh =>
        ⟨ls.length - (q + 1), by omega, q + 1, rfl, hql, by omega, hskip q _ hql hh hjn⟩
      have loopN := (hJ q _ hjn).loop
      have go := hround q (World.set (World.push w' (.cells zeroL.cells 31)) w'.heap.size (.cells ls[q].cells 31)) hql
      by_cases hs : ls[q].s = s
      · by_cases h1 : ls[q].p < p
        · have h1' : ¬ p ≤ ls[q].p := by omega
          by_cases h2 : sizeOf ls[q].o ≤ p - ls[q].p
          · have hh : hit ls[q] s p n = false := by simp [hit, h1, h2]
            simp -implicitDefEqProofs [e0, e2, e3, e4, e13, e14, e15, hve, hc, hsz, hext, hql, Rw.p, Rw.s, n1, n3, o2, o3, w1, -ar_shl, hs, h1, h1', h2]
            exact done hh
          · have hh : hit ls[q] s p n = true := by simp [hit, hs, h1, h1', h2]
            simp -implicitDefEqProofs [e0, e2, e4, e13, e14, e15, hve, hc, hsz, hext, hql, Rw.p, Rw.s, n1, n3, o2, o3, -ar_shl, hs, h1, h1', h2]
            rw [callV_yield loopN (by simp [hpar])]
            refine valA_of (go hh hjn) (fun v2 w2 hq2 => ?_)
            rcases hq2 with ⟨hv2, hj2⟩ | ⟨hv2, hE2⟩
            · simp only at hv2 hj2
              subst hv2
              simp -implicitDefEqProofs [e0, e2, e3, e4, e13, e14, e15, w1]
              exact ⟨ls.length - (q + 1), by omega, q + 1, rfl, hql, hve.symm ▸ rfl, by omega, hj2⟩
            · simp only at hv2 hE2
              subst hv2
              simp -implicitDefEqProofs
              exact .inr hE2
        · have h1' : p ≤ ls[q].p := by omega
          by_cases h2 : n ≤ ls[q].p - p
          · have hh : hit ls[q] s p n = false := by simp [hit, h1', h2]
            simp -implicitDefEqProofs [e0, e2, e3, e4, e13, e14, e15, hve, hc, hsz, hext, hql, Rw.p, Rw.n, Rw.s, n1, n2, n3, o4, w1, -ar_shl, hs, h1, h1', h2]
            exact done hh
          · have hh : hit ls[q] s p n = true := by simp [hit, hs, h1, h1', h2]
            simp -implicitDefEqProofs [e0, e2, e3, e4, e13, e14, e15, hve, hc, hsz, hext, hql, Rw.p, Rw.n, Rw.s, n1, n2, n3, o4, -ar_shl, hs, h1, h1', h2]
            rw [callV_yield loopN (by simp [hpar])]
            refine valA_of (go hh hjn) (fun v2 w2 hq2 => ?_)
            rcases hq2 with ⟨hv2, hj2⟩ | ⟨hv2, hE2⟩
            · simp only at hv2 hj2
              subst hv2
              simp -implicitDefEqProofs [e0, e2, e3, e4, e13, e14, e15, w1]
              exact ⟨ls.length - (q + 1), by omega, q + 1, rfl, hql, hve.symm ▸ rfl, by omega, hj2⟩
            · simp only at hv2 hE2
              subst hv2
              simp -implicitDefEqProofs
              exact .inr hE2
      · have hh : hit ls[q] s p n = false := by simp [hit, hs]
        by_cases h1 : ls[q].p < p
        · have h1' : ¬ p ≤ ls[q].p := by omega
          simp -implicitDefEqProofs [e0, e2, e3, e4, e13, e14, e15, hve, hc, hsz, hext, hql, Rw.p, Rw.s, n1, n3, o2, o3, w1, -ar_shl, hs, h1, h1']
          exact done hh
        · have h1' : p ≤ ls[q].p := by omega
          simp -implicitDefEqProofs [e0, e2, e3, e4, e13, e14, e15, hve, hc, hsz, hext, hql, Rw.p, Rw.n, Rw.s, n1, n2, n3, o4, w1, -ar_shl, hs, h1, h1']
          exact done hh
    · have hqe : q = ls.length := by omega
      subst hqe
      simp [e14, e15]
      exact .inl hj
  · exact ⟨0, rfl, Nat.zero_le _, by simp, by simp, by simp, by simp, by simp, by simp, by simp, h0⟩
end Go.Proofs.Ytplcocifndpplaa
/-! The program's drop. -/
namespace Go.Proofs.Ytplcocifndpplaa
open Go Go.Ideal

/-- The places of lines that are to go. -/
def goneM (ls : List Line) (s p n : Int) : Nat → MapL
  | 0 => []
  | i + 1 => if ls[i]?.any (fun c => hit c s p n) then putM (goneM ls s p n i) i (i64 1) else goneM ls s p n i

theorem getM_gone (ls : List Line) (s p n : Int) (i : Nat) (j : Int) : getM (goneM ls s p n i) j = if 0 ≤ j ∧ j < i ∧ ls[j.toNat]?.any (fun c => hit c s p n) = true then some (i64 1) else none := by
  induction i with
  | zero => rw [if_neg (by omega)]; rfl
  | succ i ih =>
    simp only [goneM]
    by_cases h : ls[i]?.any (fun c => hit c s p n) = true
    · rw [if_pos h, getM_put, ih]
      by_cases hj : j = i
      · subst hj
        rw [if_pos rfl, if_pos ⟨by omega, by omega, by simpa using h⟩]
      · rw [if_neg hj]
        by_cases h2 : 0 ≤ j ∧ j < i ∧ ls[j.toNat]?.any (fun c => hit c s p n) = true
        · rw [if_pos h2, if_pos ⟨h2.1, by omega, h2.2.2⟩]
        · rw [if_neg h2, if_neg (fun hh => h2 ⟨hh.1, by omega, hh.2.2⟩)]
    · rw [if_neg h, ih]
      by_cases h2 : 0 ≤ j ∧ j < i ∧ ls[j.toNat]?.any (fun c => hit c s p n) = true
      · rw [if_pos h2, if_pos ⟨h2.1, by omega, h2.2.2⟩]
      · rw [if_neg h2, if_neg]
        rintro ⟨h3, h4, h5⟩
        refine h2 ⟨h3, ?_, h5⟩
        by_cases hj : j = i
        · subst hj; exact absurd (by simpa using h5) h
        · omega

theorem len_gone (ls : List Line) (s p n : Int) (i : Nat) (hi : i ≤ ls.length) : (goneM ls s p n i).length + ((ls.take i).filter fun c => !hit c s p n).length = i := by
  induction i with
  | zero => simp [goneM]
  | succ i ih =>
    have ih := ih (by omega)
    have hil : i < ls.length := by omega
    have he : ls[i]? = some ls[i] := List.getElem?_eq_getElem hil
    rw [List.take_succ_eq_append_getElem hil, List.filter_append]
    simp only [goneM, he, Option.any_some]
    cases h : hit ls[i] s p n with
    | true =>
      rw [if_pos rfl, len_put]
      · simp [h]; omega
      · rw [getM_gone, if_neg (by omega)]
    | false => simp [h]; omega

theorem body64 : (Try.prog.funcs[64]?).any (fun fn => fn.body.isSome && fn.name != "runtime.NumGoroutine") = true := by kernel_rfl

abbrev RoundF := Nat → FuncId → Array Value → Code → Code → World → T (Value × World)

/-- Ranges over lines are as they should be. -/
structure HasHold (K : Kont) (rd : RoundF) : Prop where
  h45 : ∀ {w : World} {b : Nat} (s p n : Int), (K.enter 45 #[ptr b, i64 s, i64 p, i64 n] w).all fun r => r.1 = .func (.func 64) #[] #[ptr w.heap.size, ptr (w.heap.size + 2), ptr (w.heap.size + 3), ptr (w.heap.size + 1)] ∧
      r.2 = World.push (World.push (World.push (World.push w (.cells #[ptr b] 25)) (.cells #[i64 s] 3)) (.cells #[i64 p] 3)) (.cells #[i64 n] 3)
  h64 : ∀ {w : World} {l q0 q1 q2 q3 b : Nat} {size s p n : Int} {ls : List Line} {v : Value} {r : Loop}, (∀ c ∈ ls, lineRight c = true) → ls.length ≤ 1000 → (0 ≤ p ∧ p < 9223372036854775808) → (1 ≤ n ∧ n < 9223372036854775808) → r.params.size = 2 →
    ∀ (J : Nat → World → Prop) (E : World → Prop), (∀ i w', J i w' → Rng w' l q0 q1 q2 q3 b size s p n ls v r) → (∀ i w' w'', J i w' → Keeps w' w'' (fun _ => False) → J i w'') →
    (∀ i w' (hi : i < ls.length), hit ls[i] s p n = false → J i w' → J (i + 1) w') →
    (∀ i w' (hi : i < ls.length), hit ls[i] s p n = true → J i w' → (rd l r.fn ((r.params.zip #[i64 i, .agg ls[i].cells]).foldl (fun tmps (t, a) => tmps.setIfInBounds t a) r.tmps) r.assign r.body w').all fun x => (x.1 = .bool true ∧ J (i + 1) x.2) ∨ (x.1 = .bool false ∧ E x.2)) →
    J 0 w → (K.enter 64 #[.func (.yield l) #[] #[], ptr q0, ptr q1, ptr q2, ptr q3] w).all fun x => J ls.length x.2 ∨ E x.2

theorem hasHold (m : Nat) (hm : 2000 ≤ m) : HasHold (runA Try.prog sp5 (m + 2)) (iround Try.prog (runA Try.prog sp5 m) (m + 1)) where
  h45 := fun s p n => enter_ok low45 rfl (run45 s p n)
  h64 := fun hr hl hp hn hpar J E hJ hpush hskip hround h0 => enter_ok low64 rfl (run64 (K := runA Try.prog sp5 (m + 1)) (by omega) hr hl hp hn hpar J E hJ hpush hskip hround h0)

theorem lowA47 : grpC (lowC Try.prog 49 (pcOf (rfA 47))) = ga47 ∧ grpC (lowC Try.prog 49 (pcOf (rfB 47))) = gb47 := by
  have h := lowR47
  simp only [lowRange, Prod.mk.injEq] at h
  obtain ⟨h1, h2, h3⟩ := h
  rw [h1] at h2 h3
  exact ⟨h2, h3⟩

theorem round47 {K3 : Kont} {f3 : Nat} {w : World} {l M : Nat} {i : Int} {c : Value} {ρ0 : Env} {m : MapL} {r : Loop} (h9 : ρ0 9 = ptr (M + 1)) (hl : w.heap[l]? = some (.loop r)) (hr : r.state = .ready ∧ r.pending = none)
    (hc : cellsOf? w (M + 1) = some (#[.map (some M)], 96, (0, 0))) (hm : MapIs w M m) (hl0 : l ≠ M) (hl1 : l ≠ M + 1) :
    (iround Try.prog K3 f3 l 47 (((arr 49 ρ0).setIfInBounds 20 (i64 i)).setIfInBounds 21 c) (rfA 47) (rfB 47) w).all fun x => x.1 = .bool true ∧ x.2.heap[l]? = some (.loop r) ∧ MapIs x.2 M (putM m i (i64 1)) ∧ Keeps w x.2 (fun j => j = M ∨ j = l) := by
  apply round_rule (n := 49) lowA47.1 lowA47.2
  · simp
  rw [code_start]
  simp -implicitDefEqProofs [ga47, -of_at]
  refine ⟨r, hl, hr.1, ?_⟩
  rw [code_start]
  have hk1 : Keeps w (World.set w l (.loop { r with state := .busy })) (fun j => j = l) := Keeps.set _ _ _ fun _ => rfl
  have hc1 := hk1.cells hc (fun h => hl1 h.symm)
  have hm1 := hm.keep hk1 (fun h => hl0 h.symm)
  have hll := (Array.getElem?_eq_some_iff.1 hl).1
  simp -implicitDefEqProofs [gb47, h9, hc1, -of_at]
  refine update_go hm1 (fun es n hm2 => ?_)
  simp -implicitDefEqProofs
  refine ⟨_, by rw [at_set, if_neg (fun h => hl0 h.1), at_set, if_pos ⟨rfl, hll⟩], ?_, ?_, ?_⟩
  · rw [at_set, if_pos ⟨rfl, by simpa using hll⟩]
    obtain ⟨st, pd, _, _, _, _, _, _⟩ := r
    simp only at hr
    obtain ⟨rfl, rfl⟩ := hr
    rfl
  · exact hm2.keep (Keeps.set _ l _ (F := fun j => j = l) fun _ => rfl) (fun h => hl0 h.symm)
  · exact (hk1.trans (Keeps.set _ M _ (F := fun j => j = M) fun _ => rfl) (fun _ _ h => .inr h) (fun _ _ h => .inl h)).trans (Keeps.set _ l _ (F := fun j => j = l) fun _ => rfl) (fun _ _ h => h) (fun _ _ h => .inr h)

theorem fold_two (A : Array Value) (a b : Tmp) (x y : Value) : ((#[a, b].zip #[x, y]).foldl (fun tmps (t, v) => tmps.setIfInBounds t v) A) = (A.setIfInBounds a x).setIfInBounds b y := by simp

theorem Lay.keep {w w' w'' : World} {e : TypeId} {b : Nat} {size : Int} {ls : List Line} {F : Nat → Prop} (h : Lay w w' e b size ls) (hk : Keeps w' w'' F) (hn : ∀ j, F j → w.heap.size ≤ j ∧ ¬ foot w' b j) : Lay w w'' e b size ls := by
  obtain ⟨hb, hm⟩ := h
  obtain ⟨hb', hf⟩ := hb.keep hk (fun j hj hF => (hn j hF).2 hj)
  exact ⟨hb', hm.1.trans hk (fun _ _ h => h) (fun j hj hF => absurd (hn j hF).1 (by omega)), fun j hj => hm.2 j ((hf j).1 hj)⟩

noncomputable def t47 : List FI := match g47.body with
  | .seq _ (.seq _ (.seq (.seq _ _) r)) => [.blk 0, .code r]
  | _ => []

theorem row_one' (c : Line) (w : World) : rowS 31 5 1 zeroL.cells [(0, .agg c.cells)] w = .ret (.slice (some ⟨w.heap.size, 0, none⟩) 1 1, World.push w (.cells c.cells 31)) := row_one c w

theorem tail47 {K : Kont} {fuel : Nat} {w w2 : World} {b : Nat} {size s p n : Int} {ls : List Line} {v : Value} {ρ0 : Env} (_hb : Buf w 89 b size ls) (hl : ls.length ≤ 1000) (hp : 0 ≤ p ∧ p < 9223372036854775808) (hn : 1 ≤ n ∧ n < 9223372036854775808)
    (r0 : ρ0 0 = ptr b) (r9 : ρ0 9 = ptr (w.heap.size + 1)) (hk : Keeps w w2 (fun _ => False)) (hsz : w.heap.size + 8 ≤ w2.heap.size) (hm : MapIs w2 w.heap.size (goneM ls s p n ls.length)) (h9 : cellsOf? w2 (w.heap.size + 1) = some (#[.map (some w.heap.size)], 96, (0, 0)))
    (hd : w2.heap[w.heap.size + 6]? = some (.deferred (some []))) (hv : cellsOf? w b = some (#[i64 size, v], 89, (0, 0))) (hlns : Lns w v ls) (hf : 2000 ≤ fuel) :
    rangeQ ⟨Try.prog, K, fuel, 47, none, 49, finPost Try.prog [⟨8, none⟩] fun v w' => v = i64 ((ls.length : Int) - ((flushL ls s p n).length : Int)) ∧ Lay w w' 89 b size (flushL ls s p n)⟩ t47 (Env.of (arr 49 ρ0)) [⟨.collected (w.heap.size + 6), #[]⟩] w2 none := by
  have hv2 := hk.cells hv (fun h => h)
  have hl2 := hlns.keep hk (fun _ _ h => h)
  obtain ⟨vb, vc, hve⟩ := hlns.shape
  simp -implicitDefEqProofs [t47, g47, -of_at, r0, hv2, hlns.len]
  have hblt := cells_lt hv
  have hfl : flushL ls s p n = ls.filter fun c => !hit c s p n := by
    simp only [flushL, if_neg (show ¬ n < 1 by omega)]
    congr 1
    funext c
    rw [hit_eq hp.1 hn.1]
  refine loop_go (fun i ρ w' => ∃ (q : Nat) (v9 : Value), i = ls.length - q ∧ q ≤ ls.length ∧ ρ 0 = ptr b ∧ ρ 9 = ptr (w.heap.size + 1) ∧ ρ 11 = v9 ∧ ρ 27 = v ∧ ρ 28 = i64 ls.length ∧ ρ 29 = i64 q ∧ Lns w' v9 ((ls.take q).filter fun c => !hit c s p n) ∧
      (∀ j, blockOf v9 = some j → w2.heap.size ≤ j) ∧ Keeps w2 w' (fun _ => False)) ?_ (i := ls.length) ?_ (by simp; omega)
  · rintro i ρ w' ⟨q, v9, rfl, hq, e0, e9, e11, e27, e28, e29, hl9, hf9, hk'⟩
    have hv' := hk'.cells hv2 (fun h => h)
    have hls' := hl2.keep hk' (fun _ _ h => h)
    have hm' := hm.keep hk' (fun h => h)
    have h9' := hk'.cells h9 (fun h => h)
    have w1 : IntKind.i64.wrap ((q : Int) + 1) = (q : Int) + 1 := by rw [IntKind.wrap_i64]; omega
    by_cases hql : q < ls.length
    · obtain ⟨lb, o, cap, c, hve', hc, hcsz, hext⟩ := hls'.line hql
      have htake : ls.take (q + 1) = ls.take q ++ [ls[q]] := by rw [List.take_succ_eq_append_getElem hql]
      have hk1 : Keeps w' (World.set (World.push w' (.cells zeroL.cells 31)) w'.heap.size (.cells ls[q].cells 31)) (fun _ => False) :=
        (Keeps.push w' (.cells zeroL.cells 31) (fun _ => False)).trans (Keeps.set _ w'.heap.size _ (F := fun j => j = w'.heap.size) (fun _ => rfl)) (fun _ _ h => h) (fun j hj h => by omega)
      have hlk := lookup_map (z := i64 0) (i := (q : Int)) (ok := false) (hm'.keep hk1 (fun h => h))
      have n1 : ¬ w.heap.size + 1 = w'.heap.size := Nat.ne_of_lt (cells_lt h9')
      rw [getM_gone] at hlk
      cases hh : hit ls[q] s p n with
      | true =>
        simp [hql, hh] at hlk
        simp -implicitDefEqProofs [e0, e9, e11, e27, e28, e29, hve', hc, hcsz, hext, hql, n1, h9', hlk, w1]
        exact ⟨ls.length - (q + 1), by omega, q + 1, rfl, hql, by omega, by rw [htake, List.filter_append]; simpa [hh] using hl9.keep hk1 (fun _ _ h => h), hf9, hk'.trans hk1 (fun _ _ h => h) (fun _ _ h => h)⟩
      | false =>
        simp [hql, hh] at hlk
        simp -implicitDefEqProofs [e9, e11, e27, e28, e29, hve', hc, hcsz, hext, hql, n1, h9', hlk, row_one']
        have hk2 : Keeps w' (World.push (World.set (World.push w' (.cells zeroL.cells 31)) w'.heap.size (.cells ls[q].cells 31)) (.cells ls[q].cells 31)) (fun _ => False) := hk1.trans (Keeps.push _ _ (fun _ => False)) (fun _ _ h => h) (fun _ _ h => h)
        refine app (ls := (ls.take q).filter fun c => !hit c s p n) (ms := [ls[q]]) (hl9.keep hk2 (fun _ _ h => h)) (src_one (r := w'.heap.size + 1) (by simp)) (by have := List.length_filter_le (fun c => !hit c s p n) (ls.take q); have := List.length_take_le q ls; simp only [List.length_cons, List.length_nil]; omega) (fun v' w'' hl' hk3 _ hb' => ?_)
        have hb' := hb' (by simp)
        simp -implicitDefEqProofs [e0, e9, e27, e28, e29, w1]
        have hk4 : Keeps w2 w'' (fun _ => False) := hk'.trans ((hk2.trans hk3 (fun _ _ h => h.elim) (fun _ _ h => h)) : Keeps w' w'' (fun j => blockOf v9 = some j)) (fun _ _ h => h) (fun j hj hbj => by have := hf9 j hbj; omega)
        refine ⟨ls.length - (q + 1), by omega, q + 1, rfl, hql, hve', by omega, by rw [htake, List.filter_append]; simpa [hh] using hl', fun j hj => ?_, hk4⟩
        rw [hb'] at hj
        simp only [Option.some.injEq] at hj
        have := hk'.1
        simp at hj
        omega
    · have hqe : q = ls.length := by omega
      subst hqe
      rw [List.take_length] at hl9
      obtain ⟨hc9, ho9⟩ := hl9.cell
      have n2 : ¬ w.heap.size + 1 = b := by omega
      have hks : Keeps w' (World.set w' b (.cells #[i64 size, v9] 89)) (fun j => j = b) := Keeps.set _ _ _ fun _ => rfl
      have hlen := len_map (hm'.keep hks (by omega))
      have hlay := lay_set hv ((hk.trans hk' (fun _ _ h => h) (fun _ _ h => h)).mono (fun _ _ h => h.elim)) hl9 (fun j hj => .inl (by have := hf9 j hj; have := hk.1; omega))
      have hblt' := cells_lt hv'
      simp -implicitDefEqProofs [e0, e9, e11, e28, e29, hve, hv', hc9, ho9, h9', n2, hlen]
      have n6 : ¬ w.heap.size + 6 = b := by omega
      have hlg := len_gone ls s p n ls.length (Nat.le_refl _)
      rw [List.take_length] at hlg
      refine finPost_mark (by rw [at_set, if_neg (by omega)]; exact hk'.at hd (fun h => h)) ?_
      rw [hfl]
      simp
      refine ⟨by omega, hlay.keep (Keeps.set _ _ _ (F := fun j => j = w.heap.size + 6) fun _ => rfl) ?_⟩
      rintro j rfl
      refine ⟨by omega, ?_⟩
      rintro (h | ⟨s', u, e', fz, hc', hu⟩)
      · omega
      · rw [cells_set, if_pos ⟨rfl, hblt'⟩] at hc'
        simp only [Option.some.injEq, Prod.mk.injEq] at hc'
        obtain ⟨hc', _⟩ := hc'
        have : u = v9 := by
          have h2 := congrArg (fun a => a[1]?) hc'
          simpa using h2.symm
        subst this
        have := hf9 _ hu
        omega
  · exact ⟨0, .slice none 0 0, rfl, Nat.zero_le _, by simp [r0, -of_at], by simp [r9, -of_at], by simp, by simp, by simp, by simp, .inl ⟨rfl, by simp⟩, (fun j h => by cases h), Keeps.refl _ _⟩

theorem run47 {K K3 : Kont} {fuel f3 : Nat} (hf : 2000 ≤ fuel) (hH : HasHold K (iround Try.prog K3 f3)) {w : World} {b : Nat} {size : Int} {ls : List Line} (hb : Buf w 89 b size ls) (hr : ∀ c ∈ ls, lineRight c = true) (hl : ls.length ≤ 1000) (s p n : Int) (hp : 0 ≤ p ∧ p < 9223372036854775808) (hn : 1 ≤ n ∧ n < 9223372036854775808) :
    wpGFn Try.prog K fuel 47 g47 #[ptr b, i64 s, i64 p, i64 n] w fun v w' => v = i64 ((ls.length : Int) - ((flushL ls s p n).length : Int)) ∧ Lay w w' 89 b size (flushL ls s p n) := by
  rw [gfn_start]
  obtain ⟨v, hv, hlns, hne⟩ := id hb
  have hblt := cells_lt hv
  unfold g47
  generalize hA : rfA 47 = A
  generalize hB : rfB 47 = B
  simp -implicitDefEqProofs
  refine valA_of (hH.h45 s p n) (fun v1 w1 hq => ?_)
  obtain ⟨hv1, hw1⟩ := hq
  simp only at hv1 hw1
  subst hv1
  simp -implicitDefEqProofs
  have g0 : w1.heap.size = w.heap.size + 6 := by simp [hw1]
  have gM : MapIs w1 w.heap.size [] := ⟨#[], 0, by simp [hw1]; omega, rfl, by simp [keysM]⟩
  have g9 : cellsOf? w1 (w.heap.size + 1) = some (#[.map (some w.heap.size)], 96, (0, 0)) := by simp [hw1]
  have gt : cellsOf? w1 (w.heap.size + 2) = some (#[ptr b], 25, (0, 0)) := by simp [hw1]
  have gs : cellsOf? w1 (w.heap.size + 3) = some (#[i64 s], 3, (0, 0)) := by simp [hw1]
  have gp : cellsOf? w1 (w.heap.size + 4) = some (#[i64 p], 3, (0, 0)) := by simp [hw1]
  have gn : cellsOf? w1 (w.heap.size + 5) = some (#[i64 n], 3, (0, 0)) := by simp [hw1]
  have gk : Keeps w w1 (fun _ => False) := ⟨by omega, fun j hj _ => by
    have h0 : ¬ j = w.heap.size := by omega
    have h1 : ¬ j = w.heap.size + 1 := by omega
    have h2 : ¬ j = w.heap.size + 1 + 1 := by omega
    have h3 : ¬ j = w.heap.size + 1 + 1 + 1 := by omega
    have h4 : ¬ j = w.heap.size + 1 + 1 + 1 + 1 := by omega
    have h5 : ¬ j = w.heap.size + 1 + 1 + 1 + 1 + 1 := by omega
    simp [hw1, at_push, at_set, h0, h1, h2, h3, h4, h5]⟩
  clear hw1
  refine range_go (f := 64) (first := #[]) (captured := #[ptr (w.heap.size + 2), ptr (w.heap.size + 2 + 2), ptr (w.heap.size + 2 + 3), ptr (w.heap.size + 2 + 1)]) rfl (show 19 < 49 by decide) ?_ body64 ?_
  · simp
  · generalize hρ : Env.put _ (some 19) _ = ρ0
    have r0 : ρ0 0 = ptr b := by rw [← hρ]; simp
    have r9 : ρ0 9 = ptr (w.heap.size + 1) := by rw [← hρ]; simp
    clear hρ
    subst hA hB
    generalize hW : World.push (World.push _ _) _ = W1
    have k1 : Keeps w1 W1 (fun _ => False) := by rw [← hW]; exact (Keeps.push _ _ _).trans (Keeps.push _ _ _) (fun _ _ h => h) (fun _ _ h => h)
    have hsz : W1.heap.size = w.heap.size + 8 := by rw [← hW]; simp [g0]
    have hd : W1.heap[w.heap.size + 6]? = some (.deferred (some [])) := by rw [← hW, at_push, if_neg (by simp; omega), at_push, if_pos g0.symm]
    have hloop : W1.heap[w.heap.size + 7]? = some (.loop ⟨.ready, none, 47, arr 49 ρ0, #[20, 21], rfA 47, rfB 47, w.heap.size + 6⟩) := by rw [← hW, at_push, if_pos (by simp; omega)]; simp only [g0]
    clear hW
    have gM := gM.keep k1 (fun h => h)
    have g9 := k1.cells g9 (fun h => h)
    have gt := k1.cells gt (fun h => h)
    have gs := k1.cells gs (fun h => h)
    have gp := k1.cells gp (fun h => h)
    have gn := k1.cells gn (fun h => h)
    have gk : Keeps w W1 (fun _ => False) := gk.trans k1 (fun _ _ h => h) (fun _ _ h => h)
    clear k1
    rw [g0]
    have hv1 := gk.cells hv (fun h => h)
    have hl1 := hlns.keep gk (fun _ _ h => h)
    refine T.all_mono (fun r hr2 => ?_) (hH.h64 (w := W1) (l := w.heap.size + 7) (q0 := w.heap.size + 2) (q1 := w.heap.size + 4) (q2 := w.heap.size + 5) (q3 := w.heap.size + 3) (b := b) (size := size) (s := s) (v := v) hr hl hp hn
      (r := ⟨.ready, none, 47, arr 49 ρ0, #[20, 21], rfA 47, rfB 47, w.heap.size + 6⟩) rfl
      (fun i w' => Keeps W1 w' (fun j => j = w.heap.size ∨ j = w.heap.size + 7) ∧ w'.heap[w.heap.size + 7]? = some (.loop ⟨.ready, none, 47, arr 49 ρ0, #[20, 21], rfA 47, rfB 47, w.heap.size + 6⟩) ∧ MapIs w' w.heap.size (goneM ls s p n i)) (fun _ => False) ?_ ?_ ?_ ?_ ?_)
    · rcases hr2 with ⟨hk, hlp, hm⟩ | hE
      · refine ⟨_, hlp, by simp, ?_⟩
        generalize hw2 : World.set r.2 _ _ = w2
        have hk2 : Keeps W1 w2 (fun j => j = w.heap.size ∨ j = w.heap.size + 7) := by rw [← hw2]; exact hk.trans (Keeps.set _ _ _ (F := fun j => j = w.heap.size + 7) fun _ => rfl) (fun _ _ h => h) (fun _ _ h => .inr h)
        have hm2 : MapIs w2 w.heap.size (goneM ls s p n ls.length) := by rw [← hw2]; exact hm.keep (Keeps.set _ _ _ (F := fun j => j = w.heap.size + 7) fun _ => rfl) (by omega)
        clear hw2 hm hlp hk
        exact tail47 hb hl hp hn r0 r9 (gk.trans hk2 (fun _ _ h => h) (fun j hj h => by omega)) (by have := hk2.1; omega) hm2 (hk2.cells g9 (by omega)) (hk2.at hd (by omega)) hv hlns hf
      · exact hE.elim
    · rintro i w' ⟨hk, hlp, hm⟩
      exact ⟨hlp, hk.cells gt (by omega), hk.cells gp (by omega), hk.cells gn (by omega), hk.cells gs (by omega), hk.cells hv1 (by omega), hl1.keep hk (fun j hj => by have := hlns.block_lt hj; omega)⟩
    · rintro i w' w'' ⟨hk, hlp, hm⟩ hk2
      exact ⟨hk.trans hk2 (fun _ _ h => h) (fun _ _ h => h.elim), hk2.at hlp (fun h => h), hm.keep hk2 (fun h => h)⟩
    · rintro i w' hi hh ⟨hk, hlp, hm⟩
      refine ⟨hk, hlp, ?_⟩
      simpa [goneM, List.getElem?_eq_getElem hi, hh] using hm
    · rintro i w' hi hh ⟨hk, hlp, hm⟩
      rw [fold_two]
      refine T.all_mono (fun x hx => ?_) (round47 (c := .agg ls[i].cells) r9 hlp ⟨rfl, rfl⟩ (hk.cells g9 (by omega)) hm (by omega) (by omega))
      obtain ⟨hx1, hx2, hx3, hx4⟩ := hx
      refine .inl ⟨hx1, hk.trans hx4 (fun _ _ h => h) (fun _ _ h => h), hx2, ?_⟩
      simpa [goneM, List.getElem?_eq_getElem hi, hh] using hx3
    · exact ⟨Keeps.refl _ _, hloop, gM⟩
end Go.Proofs.Ytplcocifndpplaa
