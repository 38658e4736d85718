/-
  EraseErases: the walk.
-/
import Derived.Test.YteljibbnpheekaaGreatEc
import Derived.Test.YteljibbnpheekaaGreatHd
namespace Go.Proofs.YteljibbnpheekaaGreat
open Go Go.Ideal Go.Ideal.W Go.Proofs

theorem op_neL {o1 o2 : Operand} {c d : Opn} {w : World} : binS Tryz.prog .neq 37 o1 o2 (.agg (opL c).toArray) (.agg (opL d).toArray) w = .ret (.bool (!decide (c = d)), w) := op_ne
/-- 'awake' as an answer. -/
def eraH : HeapAns := fun f a w => if f = 54 ∧ a.size = 0 then some (.ret (.bool true, w)) else none
theorem eraL : LaidH Tryz.prog eraH where
  calls := fun {B w0 β σ w f args args' t Q} hR ha hf hQ => by
    unfold eraH at hf
    split at hf
    · rename_i h
      simp only [Option.some.injEq] at hf
      subst hf
      obtain ⟨rfl, h0⟩ := h
      have h1 : args' = #[] := by
        have := ha.1
        apply Array.eq_empty_of_size_eq_zero
        omega
      subst h1
      refine (awake29_calls w).mono fun e w' he => ?_
      obtain ⟨rfl, hb⟩ := he
      exact ⟨β, .bool true, σ, .refl _, hR.grow hb, .bool _, hQ⟩
    · cases hf
theorem e0_ {f : FuncId} {a : Array Value} {w : World} (h : f ≠ 54) : eraH f a w = none := by simp [eraH, h]
noncomputable abbrev KE (m : Nat) : Kont := runH Tryz.prog eraH m

structure Eras (K : Kont) (N : Nat) : Prop where
  awake : ∀ w, (K.enter 54 #[] w).all fun x => x.1 = .bool true ∧ x.2 = w
  e52 : ∀ {w : World} {u : Value} {xs : List Stp}, SrcE ESt w u xs → xs.length < N → xs.length * 72 ≤ 140737488355328 → (K.enter 52 #[u] w).all fun x => OutE EOp w x.2 x.1 (opsOf xs)
  e53 : ∀ {w : World} {u : Value} {xs : List Stp}, SrcE ESt w u xs → xs.length < N → xs.length * 72 ≤ 140737488355328 → (K.enter 53 #[u] w).all fun x => OutE EOp w x.2 x.1 (opsOf xs)
set_option maxRecDepth 100000 in
theorem rangeK (m : Nat) : HasRange (KE (m + 2)) (iround Tryz.prog (KE m) (m + 1)) m where
  h139 := fun hc => enter_okH (m := m + 1) lw139 (e0_ (by decide)) (run139 hc)
  h265 := fun hN hx hp J hJ h1 h2 h3 h0 => enter_okH (m := m + 1) lw265 (e0_ (by decide)) (run265 (K := KE (m + 1)) (by omega) hx hp J hJ h1 h2 h3 h0)
set_option maxRecDepth 100000 in
theorem eras (m : Nat) : Eras (KE (m + 3)) m where
  awake := fun w => by simp [runH, eraH]
  e52 := fun hu hN hx => enter_okH (m := m + 2) lw52 (e0_ (by decide)) (run52 (rangeK m) hu hN hx)
  e53 := fun hu hN hx => enter_okH (m := m + 2) lw53 (e0_ (by decide)) (run53 hu hx (by omega))

set_option maxRecDepth 100000 in
theorem run6 {K : Kont} {fuel N : Nat} (hK : Eras K N) {w : World} {u : Value} {xs : List Stp} (hu : SrcE ESt w u xs) (hN : xs.length < N) (hf : xs.length < fuel) (hx : xs.length * 72 ≤ 140737488355328) :
    wpGFn Tryz.prog K fuel 6 h6 #[u] w fun z _ => z = .bool true := by
  rw [gfn_start]
  simp -implicitDefEqProofs [h6, W.e, W.e0, W.mv, W.sq, W.og, W.gr, W.fa, W.ld]
  refine valA_of (hK.e52 hu hN hx) (fun v1 w1 h1 => ?_)
  simp only at h1
  simp -implicitDefEqProofs
  refine valA_of (hK.e53 (hu.keep h1.k (fun _ _ h => h)) hN hx) (fun v2 w2 h2 => ?_)
  simp only at h2
  have r1 := h1.row.keep h2.k (fun _ _ h => h)
  have r2 := h2.row
  have hl1 := fun w' => r1.lenS (w' := w')
  have hl2 := fun w' => r2.lenS (w' := w')
  have hol := opsOf_len xs
  generalize opsOf xs = os at *
  simp -implicitDefEqProofs [hl1, hl2]
  refine valA_of (hK.awake _) (fun v3 w3 h3 => ?_)
  obtain ⟨hv3, hw3⟩ := h3
  simp only at hv3 hw3
  subst hv3 hw3
  simp -implicitDefEqProofs
  refine loop_go (fun i ρ w' => ∃ q : Nat, i = os.length - q ∧ q ≤ os.length ∧ ρ 3 = v1 ∧ ρ 4 = v2 ∧ ρ 5 = n64 q ∧ w' = w3) ?_ (i := os.length) ?_ (by show os.length < fuel; omega)
  · rintro i ρ w' ⟨q, rfl, hq, e3, e4, e5, rfl⟩
    have x1 : IntKind.i64.wrap ((q : Int) + 1) = (q : Int) + 1 := by rw [IntKind.wrap_i64]; omega
    by_cases h : q < os.length
    · obtain ⟨b1, o1, p1, c1, hve1, hc1, hs1, hx1⟩ := rowOp r1 h
      obtain ⟨b2, o2, p2, c2, hve2, hc2, hs2, hx2⟩ := rowOp r2 h
      simp -implicitDefEqProofs [e3, e4, e5, h, hve1, hve2, hc1, hc2, hs1, hs2, hx1, hx2, x1, op_neL]
      exact ⟨os.length - (q + 1), by omega, q + 1, rfl, by omega, by omega⟩
    · have hq2 : q = os.length := by omega
      subst hq2
      simp -implicitDefEqProofs [e3, e5, hl1]
  · exact ⟨0, by simp, Nat.zero_le _, by simp, by simp, by simp, rfl⟩
end Go.Proofs.YteljibbnpheekaaGreat
