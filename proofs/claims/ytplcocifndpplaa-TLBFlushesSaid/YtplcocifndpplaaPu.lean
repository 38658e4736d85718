/-
  TLBFlushes: what is flushed is gone.
-/
import Derived.Test.YtplcocifndpplaaPt
namespace Go.Proofs.Ytplcocifndpplaa
open Go Go.Ideal

/-- What a flush leaves begins with no page of its stretch. -/
theorem flush_gone {ls : List Line} (_hr : ∀ c ∈ ls, lineRight c = true) {s p n : Int} {c : Line} (hc : c ∈ flushL ls s p n) (h1 : 0 < n) (h2 : c.s = s) (h3 : p ≤ c.p) (h4 : 0 ≤ p) : ¬ c.p - p < n := by
  simp only [flushL, if_neg (show ¬ n < 1 by omega), List.mem_filter] at hc
  obtain ⟨hm, hc⟩ := hc
  have hs := size_cases c.o
  have hp : ¬ p < 0 := by omega
  simp [meets, hp, h2] at hc
  omega

theorem run5 {K : Kont} {fuel : Nat} (hT : Top K) (hf : 2000 ≤ fuel) {w : World} {size : Int} (hs : 0 ≤ size ∧ size < 256) {v : Value} {xs : List ActR} (hv : ActsAt w v xs) (a : ActR) (ha : a.ok) :
    wpGFn Try.prog K fuel 5 g5 #[.int .u8 size, v, .agg a.cells] w fun r _ => r = .bool true := by
  rw [gfn_start]
  obtain ⟨z1, z2, z3⟩ := size_facts hs
  have k0 : Keeps w (World.push w (.cells a.cells 44)) (fun _ => False) := Keeps.push _ _ _
  have c0 : cellsOf? (World.push w (.cells a.cells 44)) w.heap.size = some (a.cells, 44, (0, 0)) := by simp
  simp -implicitDefEqProofs [g5, z1, z2]
  refine valA_of (hT.made (hv.keep k0)) (fun v1 w1 hq => ?_)
  obtain ⟨b, x, ls, rfl, h2, hg, hl, hk⟩ := Made.good hq z3
  have c1 := hk.cells c0 (fun h => h)
  have nfoot : ∀ j, foot w1 b j ∨ foot w1 x j → j ≠ w.heap.size := by
    rcases hq with ⟨hb, _⟩ | ⟨_, b', x', he, _, _, hnew⟩
    · omega
    · simp only [Value.tuple.injEq, Array.mk.injEq, List.cons.injEq, ptr, Value.pointer.injEq, Option.some.injEq, Addr.mk.injEq, and_true] at he
      obtain ⟨rfl, rfl⟩ := he
      intro j hj e
      have := hnew j hj
      simp at this
      omega
  simp -implicitDefEqProofs [hT.api.has.awake15, nil25]
  refine valA_of (hT.api.lines h2.hb (by omega)) (fun va w2 hq2 => ?_)
  obtain ⟨hva, k2, _⟩ := hq2
  simp only at hva k2
  obtain ⟨h3, hf3, hg3⟩ := h2.keep k2 (fun _ h => h.elim)
  have c2 := k2.cells c1 (fun h => h)
  simp -implicitDefEqProofs [c2]
  refine valA_of (hT.api.flush.go h3.hb hg.right (by omega) a.s a.p a.n ha.1 ha.2) (fun v4 w4 hq4 => ?_)
  obtain ⟨hv4, hlay⟩ := hq4
  simp only at hv4 hlay
  subst hv4
  obtain ⟨h5, g5'⟩ := h3.left hlay
  have c4 := g5'.1.cells c2 (fun h => nfoot _ (h.imp (hf3 _).1 (hg3 _).1) rfl)
  have hfl := flushL_len ls a.s a.p a.n
  have hfr := flushL_right hg.right a.s a.p a.n
  have hgone := fun c hc => @flush_gone ls hg.right a.s a.p a.n c hc
  simp -implicitDefEqProofs
  refine valA_of (hT.api.lines h5.hb (by omega)) (fun vn w6 hq6 => ?_)
  obtain ⟨hvn, k6, hnvn⟩ := hq6
  simp only at hvn k6 hnvn
  obtain ⟨h7, hf7, hg7⟩ := h5.keep k6 (fun _ h => h.elim)
  have c6 := k6.cells c4 (fun h => h)
  have w9 : IntKind.i64.wrap ((ls.length : Int) - ((flushL ls a.s a.p a.n).length : Int)) = (ls.length : Int) - ((flushL ls a.s a.p a.n).length : Int) := by rw [IntKind.wrap_i64]; omega
  have hms : flushL ls a.s a.p a.n = flushL ls a.s a.p a.n := rfl
  generalize hM : flushL ls a.s a.p a.n = ms at hfl hfr hgone w9 hvn h7
  simp -implicitDefEqProofs [hva.len, hvn.len, w9]
  refine loop_go (fun i ρ w' => ∃ (q : Nat), i = ms.length - q ∧ q ≤ ms.length ∧ w' = w6 ∧ ρ 5 = ptr w.heap.size ∧ ρ 8 = ptr x ∧ ρ 12 = vn ∧ ρ 13 = i64 q) ?_ (i := ms.length) ?_ (by simp; omega)
  · rintro i ρ w' ⟨q, rfl, hq, rfl, e5, e8, e12, e13⟩
    have w1 : IntKind.i64.wrap ((q : Int) + 1) = (q : Int) + 1 := by rw [IntKind.wrap_i64]; omega
    by_cases hql : q < ms.length
    · obtain ⟨lb, o, cap, c, hve, hc, hcsz, hext⟩ := hvn.line hql
      have hmem := List.getElem_mem hql
      have d0 : c[o + q * 5]? = some (i64 ms[q].s) := by
        have := congrArg (fun a => a[0]?) hext
        simp only [Array.getElem?_extract] at this
        rw [if_pos (by omega)] at this
        exact this
      have d1 : c[o + q * 5 + 1]? = some (i64 ms[q].p) := by
        have := congrArg (fun a => a[1]?) hext
        simp only [Array.getElem?_extract] at this
        rw [if_pos (by omega)] at this
        exact this
      have hno := hgone _ hmem
      have next : ∃ i', i' < ms.length - q ∧ ∃ q_1, i' = ms.length - q_1 ∧ q_1 ≤ ms.length ∧ (q : Int) + 1 = (q_1 : Int) := ⟨ms.length - (q + 1), by omega, q + 1, rfl, hql, by omega⟩
      by_cases t1 : 0 < a.n
      · by_cases t2 : ms[q].s = a.s
        · by_cases t3 : a.p ≤ ms[q].p
          · by_cases t4 : 0 ≤ a.p
            · have t5 := hno t1 t2 t3 t4
              obtain ⟨_, _, hr1, hr2, _⟩ := lineRight_spec (hfr _ hmem)
              have w5 : IntKind.i64.wrap (ms[q].p - a.p) = ms[q].p - a.p := by rw [IntKind.wrap_i64]; obtain ⟨_, _⟩ := ha.1; omega
              simp -implicitDefEqProofs [e5, e8, e12, e13, hve, hc, hql, w1, c6, t1, t2, t3, t4, d0, d1, w5, t5]
              exact next
            · simp -implicitDefEqProofs [e5, e8, e12, e13, hve, hc, hql, w1, c6, t1, t2, t3, t4, d0, d1]
              exact next
          · simp -implicitDefEqProofs [e5, e8, e12, e13, hve, hc, hql, w1, c6, t1, t2, t3, d0, d1]
            exact next
        · simp -implicitDefEqProofs [e5, e8, e12, e13, hve, hc, hql, w1, c6, t1, t2, d0]
          exact next
      · simp -implicitDefEqProofs [e5, e8, e12, e13, hve, hql, w1, c6, t1]
        exact next
    · have hqe : q = ms.length := by omega
      subst hqe
      simp -implicitDefEqProofs [e5, e8, e12, e13, hvn.len, c6]
      refine valA_of (hT.api.flush9.go h7.hx hg.right (by omega) a.s a.p a.n ha.1 ha.2) (fun v8 w8 hq8 => ?_)
      obtain ⟨_, hlay8⟩ := hq8
      obtain ⟨vx, hvx, hlx, _⟩ := hlay8.1
      have hn8 := (h7.right hlay8).2
      simp only at hvx hlx hn8
      rw [hM] at hlx
      simp -implicitDefEqProofs [e8, e12, hvx]
      refine valA_of (hT.api.same (hvn.keep hn8.1 (fun j hj h => ?_)) hlx (by omega)) (fun v9 w9 hq9 => ?_)
      · have := h5.blt (h.imp (hf7 j).1 (hg7 j).1)
        have := hnvn j hj
        omega
      obtain ⟨hv9, _⟩ := hq9
      simp only at hv9
      subst hv9
      simp -implicitDefEqProofs
  · exact ⟨0, rfl, Nat.zero_le _, rfl, by simp, by simp, by simp, by simp⟩
end Go.Proofs.Ytplcocifndpplaa
