/-
  Objects: the document's Frames, Len, Make, Hold, Set.
-/
import Derived.Test.YtkplodhjceieeaaZa
namespace Go.Proofs.Ytkplodhjceieeaa
open Go Go.Ideal

theorem run29 {K : Kont} {fuel : Nat} (hK : Ref2 K) (hf : 4000 ≤ fuel) {w : World} {x : Nat} {vh vl : Value} {s : OS} (hp : RefO w x vh vl s) (hs : s.lok) (id : Int) :
    wpGFn Try.prog K fuel 29 g29 #[pt x, n64 id] w fun v w' => RowE (EInt 3) w' v (framesA s id) ∧ Keeps w w' (fun _ => False) ∧ ∀ j, blkOf v = some j → w.heap.size ≤ j := by
  rw [gfn_start]
  simp -implicitDefEqProofs [g29]
  refine loop_go (fun i ρ w' => ∃ (n : Nat) (v : Value), i = 1024 - n ∧ n ≤ 1024 ∧ ρ 0 = pt x ∧ ρ 1 = n64 id ∧ ρ 5 = v ∧ ρ 6 = n64 n ∧ RowE (EInt 3) w' v (atN (fIs s id) 1 n) ∧ Keeps w w' (fun _ => False) ∧ ∀ j, blkOf v = some j → w.heap.size ≤ j) ?_ (i := 1024) ?_ (by show 1024 < fuel; omega)
  · rintro i ρ w' ⟨n, v, rfl, hn, e0, e1, e5, e6, hv, hk, hvb⟩
    subst e5
    have hp' := hp.keep hk (fun _ _ h => h)
    have w1 : IntKind.i64.wrap ((n : Int) + 1) = (n : Int) + 1 := by rw [IntKind.wrap_i64]; omega
    by_cases hlt : n < 1024
    · have h2 : (n : Int) < 1024 := by omega
      have hnx : atN (fIs s id) 1 (n + 1) = if hasF s id n = true then atN (fIs s id) 1 n ++ [(n : Int)] else atN (fIs s id) 1 n := by
        simp only [atN]
        rw [fIs_at s id hlt]
        cases hasF s id n <;> simp
      simp -implicitDefEqProofs [e0, e6, h2]
      refine valA_of (hK.of hp' hs n) (fun u w2 hq => ?_)
      obtain ⟨hq, hw⟩ := hq
      simp only at hq hw
      subst hw
      have done1 : hasF s id n = false → ∃ i', i' < 1024 - n ∧ ∃ m, i' = 1024 - m ∧ m ≤ 1024 ∧ n + 1 = m ∧ RowE (EInt 3) w2 (ρ 5) (atN (fIs s id) 1 m) ∧ Keeps w w2 (fun _ => False) := fun hh => by
        rw [hh] at hnx
        exact ⟨1024 - (n + 1), by omega, n + 1, rfl, hlt, rfl, by rw [hnx]; exact hv, hk⟩
      rcases hq with ⟨g1, hu⟩ | ⟨i, hi, g1, hu⟩
      · subst hu
        have hh : hasF s id n = false := by unfold hasF; rw [g1]
        simp -implicitDefEqProofs [e6, w1]
        obtain ⟨i', a1, m, a2, a3, a4, a5, a6⟩ := done1 hh
        exact ⟨i', a1, m, a2, a3, e0, e1, by omega, a5, a6, hvb⟩
      · subst hu
        obtain ⟨bb, oo, cap, c, t, z, hvv, hc, hsz, _, ha⟩ := hp'.l.src.at hi
        have a0 := ha 0 (by decide)
        simp [EOn] at a0
        by_cases he : s.l[i].id = id
        · have hh : hasF s id n = true := hasF_iff.2 ⟨_, g1, he⟩
          rw [if_pos hh] at hnx
          simp -implicitDefEqProofs [e0, e1, e6, hp'.cell, hvv, hc, a0, hi, he, row1]
          have hll := atN_len (fIs s id) 1 n
          have hkp : Keeps w2 (World.push w2 (.cells #[.int .i64 (n : Int)] 3)) (fun _ => False) := Keeps.push _ _ _
          refine appE (E := EInt 3) (by_ := 8) (hv.keep hkp (fun _ _ h => h)) (src_int (c := 3) (n := n) (by simp)) (by simp; omega) (by decide) (fun v4 w4 hr4 hk4 _ hb4 => ?_)
          have hk24 := hkp.trans hk4 (H := fun j => blkOf (ρ 5) = some j) (fun _ _ h => h.elim) (fun _ _ h => h)
          simp -implicitDefEqProofs [e0, e1, e6, w1]
          refine ⟨1024 - (n + 1), by omega, n + 1, rfl, hlt, by omega, by rw [hnx]; exact hr4, hk.trans hk24 (fun _ _ h => h) (fun j hj h => by have := hvb j h; omega), fun j hj => ?_⟩
          rw [hb4 (by simp)] at hj
          simp at hj
          have := hk.1
          omega
        · have hh : hasF s id n = false := by unfold hasF; rw [g1]; simp [he]
          simp -implicitDefEqProofs [e0, e1, e6, hp'.cell, hvv, hc, a0, hi, he, w1]
          obtain ⟨i', b1, m, b2, b3, b4, b5, b6⟩ := done1 hh
          exact ⟨i', b1, m, b2, b3, by omega, b5, b6, hvb⟩
    · have : n = 1024 := by omega
      subst this
      simp -implicitDefEqProofs [e6]
      exact ⟨hv, hk, hvb⟩
  · exact ⟨0, .slice none 0 0, rfl, Nat.zero_le _, by simp, by simp, by simp, by simp, RowE.nil _, Keeps.refl _ _, fun j hj => by cases hj⟩

theorem lenN (s : OS) (n : Nat) : ((List.range (n + 1)).filter fun i : Nat => decide (0 < heldA s (i : Int))).length = ((List.range n).filter fun i : Nat => decide (0 < heldA s (i : Int))).length + (if 0 < heldA s n then 1 else 0) := by
  rw [List.range_succ, List.filter_append, List.length_append]
  by_cases h : 0 < heldA s n <;> simp [h]

theorem run23 {K : Kont} {fuel : Nat} (hf : 4000 ≤ fuel) {w : World} {x : Nat} {vh vl : Value} {s : OS} {B : Nat} (hp : RefO w x vh vl s) (hs : s.ok B) (hB : B ≤ 1000) :
    wpGFn Try.prog K fuel 23 g23 #[pt x] w fun v w' => v = n64 (lenA s) ∧ w' = w := by
  rw [gfn_start]
  have hll := hs.len
  simp -implicitDefEqProofs [g23]
  refine loop_go (fun i ρ w' => ∃ (q : Nat), i = s.held.length - q ∧ q ≤ s.held.length ∧ w' = w ∧ ρ 0 = pt x ∧ ρ 3 = n64 ((List.range q).filter fun i : Nat => decide (0 < heldA s (i : Int))).length ∧ ρ 4 = n64 q) ?_ (i := s.held.length) ?_ (by show s.held.length < fuel; omega)
  · rintro i ρ w' ⟨q, rfl, hq, rfl, e0, e3, e4⟩
    have w1 : IntKind.i64.wrap ((q : Int) + 1) = (q : Int) + 1 := by rw [IntKind.wrap_i64]; omega
    have hc : ((List.range q).filter fun i : Nat => decide (0 < heldA s (i : Int))).length ≤ q := by
      have := List.length_filter_le (fun i : Nat => decide (0 < heldA s (i : Int))) (List.range q)
      simpa using this
    have hln := lenN s q
    generalize hcc : ((List.range q).filter fun i : Nat => decide (0 < heldA s (i : Int))).length = cc at *
    have w2 : IntKind.i64.wrap ((cc : Int) + 1) = (cc : Int) + 1 := by rw [IntKind.wrap_i64]; omega
    by_cases hql : q < s.held.length
    · have hql' : (q : Int) < s.held.length := by omega
      obtain ⟨bb, oo, cap, c, t, z, hv, hc2, hsz, _, ha⟩ := hp.held.src.at hql
      have a0 := ha 0 Nat.one_pos
      simp only [EInt, Nat.mul_one, Nat.add_zero, List.getElem?_cons_zero] at a0
      have hh : heldA s q = s.held[q] := by simp [heldA, hql]
      by_cases hpos : 0 < s.held[q]
      · rw [hh, if_pos hpos] at hln
        simp -implicitDefEqProofs [e0, e3, e4, hp.cell, hp.held.lenS, hql', hv, hc2, a0, hql, hpos, w1, w2]
        exact ⟨s.held.length - (q + 1), by omega, q + 1, rfl, hql, by rw [hln]; omega, by omega⟩
      · rw [hh, if_neg hpos] at hln
        simp -implicitDefEqProofs [e0, e3, e4, hp.cell, hp.held.lenS, hql', hv, hc2, a0, hql, hpos, w1]
        exact ⟨s.held.length - (q + 1), by omega, q + 1, rfl, hql, by rw [hln]; simp, by omega⟩
    · have : q = s.held.length := by omega
      subst this
      simp -implicitDefEqProofs [e0, e3, e4, hp.cell, hp.held.lenS]
      unfold lenA; omega
  · exact ⟨0, rfl, Nat.zero_le _, rfl, by simp, by simp, by simp⟩
end Go.Proofs.Ytkplodhjceieeaa
