/-
  Processors: a call of both, walked.
-/
import Derived.Test.YtplcocifndpplaaCo
namespace Go.Proofs.Ytplcocifndpplaa
open Go Go.Ideal

def Goes (w w' : World) (c x : Nat) (a : Ad) (r : Rd) (N : Nat) (s : CS) (C : Nat) : Prop := ∃ a' r', a'.pb = a.pb ∧ r'.pb = r.pb ∧ Both w' c a' s x r' s C ∧ MvB w w' N a.pb r.pb

theorem RefAt.C {w : World} {x : Nat} {r : Rd} {s : CS} {C D : Nat} (h : RefAt w x r s C) (hCD : C ≤ D) : RefAt w x r s D := h.mono hCD

set_option maxRecDepth 20000 in
theorem run41 {K : Kont} {fuel : Nat} (hK : Cps K) {w : World} {c x C B : Nat} {a : Ad} {s : CS} {r : Rd} (h : Both w c a s x r s C) (hs : s.ok B) (hB : B ≤ 1000) (hC : C + B < 20000) (y : ActC) (hy : y.ok) :
    wpGFn Try.prog K fuel 41 g41 #[ptr c, ptr x, .agg y.cells] w fun v w' => v = .bool true ∧ Goes w w' c x a r s.N (stepC s y) (C + B + 8) := by
  rw [gfn_start]
  have k0 : Keeps w (World.push w (.cells y.cells 62)) (fun _ => False) := Keeps.push _ _ _
  have hb0 : cellsOf? (World.push w (.cells y.cells 62)) w.heap.size = some (y.cells, 62, (0, 0)) := by simp
  obtain ⟨hB0, mv0⟩ := h.new k0
  generalize hw0 : World.push w (.cells y.cells 62) = w0 at *
  have box : ∀ {w1 : World}, MvB w0 w1 s.N a.pb r.pb → cellsOf? w1 w.heap.size = some (y.cells, 62, (0, 0)) := fun mv => hB0.kept mv hb0 (.inr (by decide))
  -- both sides done
  have fin : ∀ {w1 w2 : World} {a1 : Ad} {r2 : Rd} {s' : CS} {D : Nat}, CpuAt w1 c a1 s' → a1.pb = a.pb → s'.N = s.N → MvC w0 w1 s a → RefAt w2 x r2 s' D → r2.pb = r.pb → D ≤ C + B + 8 → (∀ t : CS, t = s → MvR w1 w2 t r) → Goes w w2 c x a r s.N s' (C + B + 8) := by
    intro w1 w2 a1 r2 s' D hc hpb hN mc hx hrb hD mr
    obtain ⟨hL, m1⟩ := hB0.left hc hpb hN mc
    obtain ⟨hR, m2⟩ := hL.right (hx.mono hD) hrb hN (mr s rfl)
    rw [hN, hpb] at m2
    exact ⟨a1, r2, hpb, hrb, hR, (mv0.trans m1).trans m2⟩
  -- the program's side done
  have mid : ∀ {w1 : World} {a1 : Ad} {s' : CS}, CpuAt w1 c a1 s' → a1.pb = a.pb → s'.N = s.N → MvC w0 w1 s a → cellsOf? w1 w.heap.size = some (y.cells, 62, (0, 0)) ∧ RefAt w1 x r s C := by
    intro w1 a1 s' hc hpb hN mc
    obtain ⟨hL, m1⟩ := hB0.left hc hpb hN mc
    exact ⟨box m1, hL.x⟩
  have putN : (if isN s y.u then putA s y.u.toNat y.c else s).N = s.N := by split <;> simp
  have dropN : (if isN s y.u then dropA s y.u.toNat y.n else s).N = s.N := by split <;> simp
  have syncN : (if isN s y.u then syncA s y.u.toNat else s).N = s.N := by split <;> simp
  by_cases hk : y.k = 0 ∨ y.k = 1 ∨ y.k = 2
  · have hst : stepC s y = if isN s y.u then putA s y.u.toNat y.c else s := by unfold stepC; rw [if_pos hk]
    rw [hst]
    have e1 : y.k = 0 ∨ ¬ y.k = 0 := by omega
    have go : ∀ {w1 : World} {v1 : Value}, (v1 = i64 (putE s y.u y.c) ∧ CpuAt w1 c a (if isN s y.u then putA s y.u.toNat y.c else s) ∧ MvC w0 w1 s a) → cellsOf? w1 w.heap.size = some (y.cells, 62, (0, 0)) ∧ (K.enter 57 #[ptr x, i64 y.u, .agg y.c.cells] w1).all fun z => z.1 = i64 (putE s y.u y.c) ∧ Goes w z.2 c x a r s.N (if isN s y.u then putA s y.u.toNat y.c else s) (C + B + 8) := by
      intro w1 v1 ⟨hv, hc1, mc⟩
      obtain ⟨hb1, hx1⟩ := mid hc1 rfl putN mc
      refine ⟨hb1, T.all_mono (fun z hz => ?_) (hK.xput hx1 hs hB (by omega) y.u y.c)⟩
      obtain ⟨hv2, ⟨r2, hr2, hx2⟩, mr⟩ := hz
      exact ⟨hv2, fin hc1 rfl putN mc hx2 hr2 (by omega) fun t ht => by rw [ht]; exact mr⟩
    rcases hk with hk | hk | hk
    all_goals
      simp -implicitDefEqProofs [g41, hw0, hb0, hk]
      refine valA_of (hK.put hB0.c hs hB y.u y.c) (fun v w1 hq => ?_)
      simp only at hq
      obtain ⟨hb1, hgo⟩ := go hq
      have hv := hq.1
      subst hv
      simp -implicitDefEqProofs [hb1]
      refine valA_of hgo (fun v w2 hq2 => ?_)
      obtain ⟨hv2, hfin⟩ := hq2
      simp only at hv2 hfin
      subst hv2
      simp -implicitDefEqProofs
      exact hfin
  obtain ⟨n0, n1, n2⟩ : ¬ y.k = 0 ∧ ¬ y.k = 1 ∧ ¬ y.k = 2 := ⟨fun h => hk (.inl h), fun h => hk (.inr (.inl h)), fun h => hk (.inr (.inr h))⟩
  by_cases hk3 : y.k = 3 ∨ y.k = 4
  · have hst : stepC s y = if isN s y.u then catchA s y.u.toNat y.s else s := by unfold stepC; rw [if_neg hk, if_pos hk3]
    rw [hst]
    have lkN : (if isN s y.u then catchA s y.u.toNat y.s else s).N = s.N := by split <;> simp
    obtain ⟨res, hres⟩ : ∃ res, res = if isN s y.u then lookL ((catchA s y.u.toNat y.s).L y.u.toNat) y.s y.p else none := ⟨_, rfl⟩
    have tail : ∀ {w1 : World} {v1 : Value}, ((isN s y.u → v1 = lookV (lookL ((catchA s y.u.toNat y.s).L y.u.toNat) y.s y.p) ∧ CpuAt w1 c a (catchA s y.u.toNat y.s)) ∧ (¬ isN s y.u → v1 = lookV none ∧ CpuAt w1 c a s) ∧ MvC w0 w1 s a) → v1 = lookV res ∧ cellsOf? w1 w.heap.size = some (y.cells, 62, (0, 0)) ∧ ∃ w1', w1' = World.set (World.push w1 (.cells zeroL.cells 31)) w1.heap.size (.cells (res.getD zeroL).cells 31) ∧ cellsOf? w1' w.heap.size = some (y.cells, 62, (0, 0)) ∧ (K.enter 58 #[ptr x, i64 y.u, i64 y.s, i64 y.p] w1').all fun z => z.1 = lookV res ∧ cellsOf? z.2 w1.heap.size = some ((res.getD zeroL).cells, 31, (0, 0)) ∧
        ∀ w3, Keeps z.2 w3 (fun _ => False) → Goes w w3 c x a r s.N (if isN s y.u then catchA s y.u.toNat y.s else s) (C + B + 8) := by
      intro w1 v1 ⟨hq1, hq2, mc⟩
      have hc1 : CpuAt w1 c a (if isN s y.u then catchA s y.u.toNat y.s else s) := by
        by_cases hn : isN s y.u
        · rw [if_pos hn]; exact (hq1 hn).2
        · rw [if_neg hn]; exact (hq2 hn).2
      have hv1 : v1 = lookV res := by
        by_cases hn : isN s y.u
        · rw [hres, if_pos hn]; exact (hq1 hn).1
        · rw [hres, if_neg hn]; exact (hq2 hn).1
      obtain ⟨hL, m1⟩ := hB0.left hc1 rfl lkN mc
      have hb1 := box m1
      have kb : Keeps w1 (World.set (World.push w1 (.cells zeroL.cells 31)) w1.heap.size (.cells (res.getD zeroL).cells 31)) (fun _ => False) :=
        (Keeps.push w1 _ (fun _ => False)).trans (Keeps.set _ w1.heap.size _ (F := fun j => j = w1.heap.size) (fun _ => rfl)) (fun _ _ h => h) (fun j hj h => by omega)
      refine ⟨hv1, hb1, _, rfl, ?_⟩
      obtain ⟨hL', m1'⟩ := hL.new kb
      have hb1' := kb.cells hb1 (fun h => h)
      have hz1 : cellsOf? (World.set (World.push w1 (.cells zeroL.cells 31)) w1.heap.size (.cells (res.getD zeroL).cells 31)) w1.heap.size = some ((res.getD zeroL).cells, 31, (0, 0)) := by simp
      have nf1 : ∀ i, i < s.N → ¬ foot (World.set (World.push w1 (.cells zeroL.cells 31)) w1.heap.size (.cells (res.getD zeroL).cells 31)) (a.pb i) w1.heap.size := fun i hi hf => by
        have h5 := (hL.c.keep kb (fun _ _ h => h)).2 i (by rw [lkN]; exact hi) w1.heap.size
        have := (hL.c.buf i (by rw [lkN]; exact hi)).foot_lt (h5.1 hf); omega
      have nf2 : ∀ i, i < s.N → ¬ foot (World.set (World.push w1 (.cells zeroL.cells 31)) w1.heap.size (.cells (res.getD zeroL).cells 31)) (r.pb i) w1.heap.size := fun i hi hf => by
        have h5 := (hL.x.keep kb (fun _ _ h => h)).2 i hi w1.heap.size
        have := (hL.x.buf i hi).foot_lt (h5.1 hf); omega
      rw [lkN] at m1'
      generalize World.set (World.push w1 (.cells zeroL.cells 31)) w1.heap.size (.cells (res.getD zeroL).cells 31) = w1' at *
      refine ⟨hb1', T.all_mono (fun z hz => ?_) (hK.xlook hL'.x hs hB (by omega) y.u y.s y.p)⟩
      obtain ⟨r2, hr2, hx1, hx2, mr⟩ := hz
      have hx : RefAt z.2 x r2 (if isN s y.u then catchA s y.u.toNat y.s else s) (C + 1) := by
        by_cases hn : isN s y.u
        · rw [if_pos hn]; exact (hx1 hn).2
        · rw [if_neg hn]; exact (hx2 hn).2
      have hv2 : z.1 = lookV res := by
        by_cases hn : isN s y.u
        · rw [hres, if_pos hn]; exact (hx1 hn).1
        · rw [hres, if_neg hn]; exact (hx2 hn).1
      obtain ⟨hR, m2⟩ := hL'.right hx hr2 lkN mr
      rw [lkN] at m2
      refine ⟨hv2, ?_, fun w3 k3 => ?_⟩
      · exact hL'.keptL (by rw [lkN]; exact m2) hz1 (by rw [lkN]; exact nf1) (by rw [lkN]; exact nf2)
      · obtain ⟨hR', m3⟩ := hR.new k3
        rw [lkN, hr2] at m3
        exact ⟨a, r2, rfl, hr2, ⟨hR'.c, hR'.x.mono (by omega), hR'.n, hR'.ap⟩, (((mv0.trans m1).trans m1').trans m2).trans m3⟩
    have hzl : (#[i64 0, i64 0, i64 0, i64 0, .bool false] : Array Value) = zeroL.cells := rfl
    rcases hk3 with hk3 | hk3
    all_goals
      unfold g41
      rw [hzl]
      simp -implicitDefEqProofs [hw0, hb0, hk3]
      refine valA_of (hK.look hB0.c hs hB y.u y.s y.p) (fun v w1 hq => ?_)
      simp only at hq
      obtain ⟨hv, hb1, w1', hw1', hb1', hgo⟩ := tail hq
      subst hv
      have n1 : ¬ w.heap.size = w1.heap.size := Nat.ne_of_lt (cells_lt hb1)
      simp -implicitDefEqProofs [lookV, Line.val, hb1, n1]
      rw [← hw1']
      refine valA_of hgo (fun v w2 hq2 => ?_)
      obtain ⟨hv2, hbz, hfin⟩ := hq2
      simp only at hv2 hbz hfin
      subst hv2
      have nz : ¬ w1.heap.size = w2.heap.size := Nat.ne_of_lt (cells_lt hbz)
      have kb2 : Keeps w2 (World.set (World.push w2 (.cells zeroL.cells 31)) w2.heap.size (.cells (res.getD zeroL).cells 31)) (fun _ => False) :=
        (Keeps.push w2 _ (fun _ => False)).trans (Keeps.set _ w2.heap.size _ (F := fun j => j = w2.heap.size) (fun _ => rfl)) (fun _ _ h => h) (fun j hj h => by omega)
      simp -implicitDefEqProofs [lookV, Line.val, hbz, nz, line_eq, bool_eq]
      exact hfin _ kb2
  obtain ⟨n3, n4⟩ : ¬ y.k = 3 ∧ ¬ y.k = 4 := ⟨fun h => hk3 (.inl h), fun h => hk3 (.inr h)⟩
  by_cases hk5 : y.k = 5 ∨ y.k = 6 ∨ y.k = 7
  · have hst : stepC s y = flushA s ⟨y.s, y.p, y.n⟩ := by unfold stepC; rw [if_neg hk, if_neg hk3, if_pos hk5]
    rw [hst]
    rcases hk5 with hk5 | hk5 | hk5
    all_goals
      simp -implicitDefEqProofs [g41, hw0, hb0, hk5]
      refine valA_of (hK.flush hB0.c hs hB y.s y.p y.n) (fun v w1 hq => ?_)
      obtain ⟨a1, hc1, ha1, mc⟩ := hq
      simp only at hc1 mc
      obtain ⟨hb1, hx1⟩ := mid hc1 ha1 (by simp) mc
      simp -implicitDefEqProofs [hb1]
      refine valA_of (hK.xflush hx1 hs hB y.s y.p y.n) (fun v w2 hq2 => ?_)
      obtain ⟨⟨r2, hr2, hx2⟩, mr⟩ := hq2
      simp only at hx2 mr
      simp -implicitDefEqProofs
      exact fin hc1 ha1 (by simp) mc hx2 hr2 (by omega) fun t ht => by rw [ht]; exact mr
  obtain ⟨n5, n6, n7⟩ : ¬ y.k = 5 ∧ ¬ y.k = 6 ∧ ¬ y.k = 7 := ⟨fun h => hk5 (.inl h), fun h => hk5 (.inr (.inl h)), fun h => hk5 (.inr (.inr h))⟩
  by_cases hk8 : y.k = 8
  · have hst : stepC s y = if isN s y.u then syncA s y.u.toNat else s := by unfold stepC; rw [if_neg hk, if_neg hk3, if_neg hk5, if_pos hk8]
    rw [hst]
    simp -implicitDefEqProofs [g41, hw0, hb0, hk8]
    refine valA_of (hK.sync hB0.c hs hB y.u) (fun v w1 hq => ?_)
    obtain ⟨hv, hc1, mc⟩ := hq
    simp only at hv hc1 mc
    obtain ⟨hb1, hx1⟩ := mid hc1 rfl syncN mc
    subst hv
    simp -implicitDefEqProofs [hb1]
    refine valA_of (hK.xsync hx1 hs hB hC y.u) (fun v w2 hq2 => ?_)
    obtain ⟨hv2, ⟨r2, hr2, hx2⟩, mr⟩ := hq2
    simp only at hv2 hx2 mr
    subst hv2
    simp -implicitDefEqProofs
    exact fin hc1 rfl syncN mc hx2 hr2 (by omega) fun t ht => by rw [ht]; exact mr
  by_cases hk9 : y.k = 9
  · have hst : stepC s y = endA s s.N y.s := by unfold stepC; rw [if_neg hk, if_neg hk3, if_neg hk5, if_neg hk8, if_pos hk9]
    rw [hst]
    simp -implicitDefEqProofs [g41, hw0, hb0, hk9]
    refine valA_of (hK.end_ hB0.c hs hB y.s) (fun v w1 hq => ?_)
    obtain ⟨hc1, mc⟩ := hq
    simp only at hc1 mc
    obtain ⟨hb1, hx1⟩ := mid hc1 rfl rfl mc
    simp -implicitDefEqProofs [hb1]
    refine valA_of (hK.xend hx1 hs hB (by omega) y.s) (fun v w2 hq2 => ?_)
    obtain ⟨⟨r2, hr2, hx2⟩, mr⟩ := hq2
    simp only at hx2 mr
    simp -implicitDefEqProofs
    exact fin hc1 rfl rfl mc hx2 hr2 (by omega) fun t ht => by rw [ht]; exact mr
  · have hst : stepC s y = if isN s y.u then dropA s y.u.toNat y.n else s := by unfold stepC; rw [if_neg hk, if_neg hk3, if_neg hk5, if_neg hk8, if_neg hk9]
    rw [hst]
    simp -implicitDefEqProofs [g41, hw0, hb0, n0, n1, n2, n3, n4, n5, n6, n7, hk8, hk9]
    refine valA_of (hK.drop hB0.c hs y.u y.n hy.2.2) (fun v w1 hq => ?_)
    obtain ⟨hv, hc1, mc⟩ := hq
    simp only at hv hc1 mc
    obtain ⟨hb1, hx1⟩ := mid hc1 rfl dropN mc
    subst hv
    simp -implicitDefEqProofs [hb1]
    refine valA_of (hK.xdrop hx1 hs y.u y.n hy.2.2) (fun v w2 hq2 => ?_)
    obtain ⟨hv2, hx2, mr⟩ := hq2
    simp only at hv2 hx2 mr
    subst hv2
    simp -implicitDefEqProofs
    exact fin hc1 rfl dropN mc hx2 rfl (by omega) fun t ht => by rw [ht]; exact mr
end Go.Proofs.Ytplcocifndpplaa
