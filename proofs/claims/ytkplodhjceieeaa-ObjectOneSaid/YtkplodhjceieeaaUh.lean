/-
  Both pools behind some calls; what must come at any rate.
-/
import Derived.Test.YtkplodhjceieeaaUg
namespace Go.Proofs.Ytkplodhjceieeaa
open Go Go.Ideal

theorem nilNe {P : Program} {t : TypeId} {o1 o2 : Operand} {p : Option Addr} {w : World} (hu : P.underlying t = some (.pointer (P.pointee t))) (he : eqTy P 5 t = true) : binS P .neq t o1 o2 (.pointer p) (.pointer none) w = .ret (.bool (!p.isNone), w) := by
  have hf : binFit P .neq t (.pointer p) (.pointer none) = true := by cases p <;> simp [binFit, he, eqFit]
  unfold binS
  simp only [hf, if_true]
  rw [eqGuard_none _ _ _ _ _ _ (fun _ h => by cases h) (fun h => by cases h)]
  have h1 := run_eql_pointer_nil w t p hu
  have h2 : (binOp .neq t (.pointer p) (.pointer none)).run P w = .ok (.bool (!p.isNone)) w := by
    simp only [binOp] at h1 ⊢
    rw [Sem.run_bind] at h1 ⊢
    cases hr : (Op.equal t (.pointer p) (.pointer none)).run P w with
    | halt a b => rw [hr] at h1; cases h1
    | ok a w' =>
      rw [hr] at h1
      simp only [Result.andThen, Sem.run_pure, Result.ok.injEq, Value.bool.injEq] at h1 ⊢
      exact ⟨by rw [h1.1], h1.2⟩
  simp only [Sem.run_bind, Sem.run_pure, Result.andThen, h2, ofRun]
theorem nilNe54 {o1 o2 : Operand} {p : Option Addr} {w : World} : binS Try.prog .neq 54 o1 o2 (.pointer p) (.pointer none) w = .ret (.bool (!p.isNone), w) := nilNe (by kernel_rfl) (by kernel_rfl)
theorem nil55 {o1 o2 : Operand} {p : Option Addr} {w : World} : binS Try.prog .eql 55 o1 o2 (.pointer p) (.pointer none) w = .ret (.bool p.isNone, w) := nilEq (by kernel_rfl) (by kernel_rfl)

/-- Calls, as they lie. -/
def ActsAt (w : World) (v : Value) (xs : List ActP) : Prop := Elems w v 4 (xs.map ActP.cells)
theorem ActsAt.keep {w w' : World} {v : Value} {xs : List ActP} (h : ActsAt w v xs) (hk : Keeps w w' (fun _ => False)) : ActsAt w' v xs := by
  obtain ⟨vb, vc, h1, h2⟩ := h
  refine ⟨vb, vc, h1, fun i hi => ?_⟩
  obtain ⟨b, o, c, e, fz, g1, g2, g3, g4⟩ := h2 i hi
  exact ⟨b, o, c, e, fz, g1, hk.cells g2 (fun h => h), g3, g4⟩
theorem ActsAt.lenS {w w' : World} {v : Value} {xs : List ActP} (h : ActsAt w v xs) : Ideal.lenS v w' = .ret (.int .i64 (xs.length : Int), w') := by
  obtain ⟨vb, vc, rfl, _⟩ := h
  simp [Ideal.lenS]
theorem ActsAt.at {w : World} {v : Value} {xs : List ActP} (h : ActsAt w v xs) {i : Nat} (hi : i < xs.length) : ∃ b o cap c e fz, v = .slice (some ⟨b, o, none⟩) xs.length cap ∧ cellsOf? w b = some (c, e, fz) ∧ o + i * 4 + 4 ≤ c.size ∧ c.extract (o + i * 4) (o + i * 4 + 4) = xs[i].cells ∧ b < w.heap.size := by
  obtain ⟨vb, vc, rfl, h2⟩ := h
  obtain ⟨b, o, c, e, fz, rfl, g2, g3, g4⟩ := h2 i (by simpa using hi)
  exact ⟨b, o, vc, c, e, fz, by simp, g2, g3, by simpa using g4, cells_lt g2⟩
theorem acts_none (w : World) : ActsAt w (.slice none 0 0) [] := ⟨none, 0, rfl, fun i h => absurd h (Nat.not_lt_zero _)⟩

def runS (s : PS) : List ActP → PS
  | [] => s
  | a :: l => runS (stepA s a) l
theorem run_ok : ∀ (l : List ActP) {s : PS}, s.ok → (runS s l).ok
  | [], _, h => h
  | a :: l, _, h => run_ok l (step_ok h a)
theorem run_snoc : ∀ (l : List ActP) (s : PS) (a : ActP), runS s (l ++ [a]) = stepA (runS s l) a
  | [], _, _ => rfl
  | b :: l, s, a => run_snoc l (stepA s b) a

/-- The pools, new: nothing older is written. -/
theorem fresh_keep {w w1 w2 : World} {b r x y : Nat} (h1 : Keeps w w1 (fun _ => False)) (h2 : Keeps w1 w2 (Mv4 b r x y)) (hb : w.heap.size ≤ b) (hr : w.heap.size ≤ r) (hx : w.heap.size ≤ x) (hy : w.heap.size ≤ y) : Keeps w w2 (fun _ => False) :=
  h1.trans h2 (fun _ _ h => h) (fun j hj h => by
    rcases h with (h | h) | (h | h) <;> omega)

theorem good32 : ¬ badNew 3 2 := by unfold badNew; omega
theorem good30 : ¬ badNew 3 0 := by unfold badNew; omega

theorem run30 {K : Kont} {fuel : Nat} (hA : Api K) (hD : ∀ {w : World} {b r x y : Nat} {s : PS}, Both w b r x y s → s.ok → ∀ a : ActP, (K.enter 38 #[pt b, pt x, .agg a.cells] w).all fun z => z.1 = .bool true ∧ BothTo w z.2 b r x y (stepA s a)) (hf : 4000 ≤ fuel) {w : World} {v : Value} {xs : List ActP} (hv : ActsAt w v xs) :
    wpGFn Try.prog K fuel 30 g30 #[v] w fun u w' => ∃ b r x y, u = .tuple #[pt b, pt x] ∧ Both w' b r x y (runS (newA 3 2) (xs.take 60)) ∧ Keeps w w' (fun _ => False) ∧ w.heap.size ≤ b ∧ w.heap.size ≤ r ∧ w.heap.size ≤ x ∧ w.heap.size ≤ y := by
  rw [gfn_start]
  simp -implicitDefEqProofs [g30]
  refine valA_of (hA.new 3 2) (fun u w1 hq => ?_)
  rcases hq with ⟨hbad, _⟩ | ⟨_, b, r, hu, hp, hk1, hb, hr⟩
  · exact absurd hbad good32
  simp only at hu hp hk1
  subst hu
  simp -implicitDefEqProofs
  refine valA_of (hA.rnew 3 2) (fun u w2 hq => ?_)
  rcases hq with ⟨hbad, _⟩ | ⟨_, x, y, hu, hq2, hk2, hx, hy⟩
  · exact absurd hbad good32
  simp only at hu hq2 hk2
  subst hu
  have hx' : w.heap.size ≤ x := Nat.le_trans hk1.1 hx
  have hy' : w.heap.size ≤ y := Nat.le_trans hk1.1 hy
  have hk12 : Keeps w w2 (fun _ => False) := hk1.trans hk2 (fun _ _ h => h) (fun _ _ h => h)
  have hB : Both w2 b r x y (newA 3 2) := ⟨hp.keep hk2 (fun h => h) (fun h => h), hq2⟩
  simp -implicitDefEqProofs
  refine loop_go (fun i ρ w' => ∃ (q : Nat), i = 60 - q ∧ q ≤ 60 ∧ q ≤ xs.length ∧ ρ 0 = v ∧ ρ 4 = pt b ∧ ρ 6 = pt x ∧ ρ 8 = n64 q ∧ Both w' b r x y (runS (newA 3 2) (xs.take q)) ∧ Keeps w2 w' (Mv4 b r x y)) ?_ (i := 60) ?_ (by show 60 < fuel; omega)
  · rintro i ρ w' ⟨q, rfl, hq, hql, e0, e4, e6, e8, hB', hk'⟩
    have hkw := fresh_keep hk12 hk' hb hr hx' hy'
    have hv' := hv.keep hkw
    have w1 : IntKind.i64.wrap ((q : Int) + 1) = (q : Int) + 1 := by rw [IntKind.wrap_i64]; omega
    by_cases h1 : q < xs.length
    · have h1' : (q : Int) < xs.length := by omega
      by_cases h2 : q < 60
      · have h2' : (q : Int) < 60 := by omega
        obtain ⟨bb, o, cap, c, e, fz, hve, hc, hsz, hext, _⟩ := hv'.at h1
        simp -implicitDefEqProofs [e0, e4, e6, e8, nilNe54, hv'.lenS, h1', h2', hve, hc, hsz, hext, h1]
        refine valA_of (hD hB' (run_ok _ (new_ok (.inl rfl) (by omega))) xs[q]) (fun u w3 hq3 => ?_)
        obtain ⟨hu, hB3, hk3⟩ := hq3
        simp only at hu hB3 hk3
        subst hu
        simp -implicitDefEqProofs [e0, e4, e6, e8, w1]
        refine ⟨60 - (q + 1), by omega, q + 1, rfl, by omega, h1, hve, by omega, ?_, hk'.trans hk3 (fun _ _ h => h) (fun _ _ h => h)⟩
        rw [List.take_succ_eq_append_getElem h1, run_snoc]
        exact hB3
      · have h2' : ¬ (q : Int) < 60 := by omega
        have : q = 60 := by omega
        subst this
        have h5 : (60 : Int) < xs.length := by omega
        simp -implicitDefEqProofs [e0, e4, e6, e8, nilNe54, hv'.lenS, h5]
        exact ⟨b, r, x, ⟨rfl, rfl⟩, y, hB', hkw, hb, hr, hx', hy'⟩
    · have h1' : ¬ (q : Int) < xs.length := by omega
      have : q = xs.length := by omega
      subst this
      simp -implicitDefEqProofs [e0, e4, e6, e8, nilNe54, hv'.lenS, h1']
      refine ⟨b, r, x, ⟨rfl, rfl⟩, y, ?_, hkw, hb, hr, hx', hy'⟩
      rw [List.take_of_length_le hq]
      rw [List.take_length] at hB'
      exact hB'
  · exact ⟨0, rfl, by omega, Nat.zero_le _, by simp, by simp, by simp, by simp, by rw [List.take_zero]; exact hB, Keeps.refl _ _⟩

theorem at_eq {is l : List Int} {v : Int} (hl : is.length = 1024) (hs : l.Pairwise (· < ·)) (h : ∀ x, x ∈ l ↔ (0 ≤ x ∧ x < 1024) ∧ isAt is x = v) : atN is v 1024 = l := by
  have hp : (atN is v 1024).Perm l := (List.perm_ext_iff_of_nodup (atN_nodup _ _ _) (hs.imp (fun h => Int.ne_of_lt h))).2 fun x => by
    rw [atN_mem, h]
    constructor
    · rintro ⟨h1, h2, h3⟩
      have := isAt_some (is := is) h1 (by rw [hl]; omega)
      rw [h3] at this
      exact ⟨⟨h1, by omega⟩, by simpa using this.symm⟩
    · rintro ⟨⟨h1, h2⟩, h3⟩
      exact ⟨h1, by omega, by rw [isAt_some h1 (by rw [hl]; omega), h3]⟩
  exact hp.eq_of_pairwise (le := fun a b => a ≤ b) (fun a b _ _ h1 h2 => Int.le_antisymm h1 h2) ((atN_sorted is v 1024).imp (fun h => Int.le_of_lt h)) (hs.imp (fun h => Int.le_of_lt h))

/-! ### The pool of 'awake' -/
def i1 : List Int := zeroIs.set 8 1
def i2 : List Int := i1.set 16 1
def i3 : List Int := i2.set 8 2
def i4 : List Int := i3.set 16 2
theorem i1_at (x : Int) : isAt i1 x = if x = 8 then 1 else 0 := by
  have := isAt_set zeroIs 8 1 x (by decide) (by rw [zero_len]; decide)
  rw [zero_is] at this; exact this
theorem i2_at (x : Int) : isAt i2 x = if x = 16 then 1 else if x = 8 then 1 else 0 := by
  have := isAt_set i1 16 1 x (by decide) (by rw [i1, List.length_set, zero_len]; decide)
  rw [i1_at] at this; exact this
theorem i3_at (x : Int) : isAt i3 x = if x = 8 then 2 else if x = 16 then 1 else if x = 8 then 1 else 0 := by
  have := isAt_set i2 8 2 x (by decide) (by rw [i2, i1, List.length_set, List.length_set, zero_len]; decide)
  rw [i2_at] at this; exact this
theorem i4_at (x : Int) : isAt i4 x = if x = 16 then 2 else if x = 8 then 2 else if x = 16 then 1 else if x = 8 then 1 else 0 := by
  have := isAt_set i3 16 2 x (by decide) (by rw [i3, i2, i1, List.length_set, List.length_set, List.length_set, zero_len]; decide)
  rw [i3_at] at this; exact this
theorem f2 : freeL i2 = [8, 16] := at_eq (by simp [i2, i1, zero_len]) (by decide) fun x => by
  rw [i2_at]
  simp
  constructor
  · rintro (rfl | rfl) <;> simp
  · rintro ⟨_, h⟩
    by_cases h1 : x = 16
    · exact .inr h1
    · by_cases h2 : x = 8
      · exact .inl h2
      · simp [h1, h2] at h
theorem f3 : freeL i3 = [16] := at_eq (by simp [i3, i2, i1, zero_len]) (by decide) fun x => by
  rw [i3_at]
  simp
  constructor
  · rintro rfl; simp
  · rintro ⟨_, h⟩
    by_cases h1 : x = 16
    · exact h1
    · by_cases h2 : x = 8 <;> simp [h1, h2] at h
theorem f4 : freeL i4 = [] := at_eq (by simp [i4, i3, i2, i1, zero_len]) (by decide) fun x => by
  rw [i4_at]
  simp
  intro _ _
  by_cases h1 : x = 16
  · simp [h1]
  · by_cases h2 : x = 8 <;> simp [h1, h2]
theorem u4 : usedL i4 = [8, 16] := at_eq (by simp [i4, i3, i2, i1, zero_len]) (by decide) fun x => by
  rw [i4_at]
  simp
  constructor
  · rintro (rfl | rfl) <;> simp
  · rintro ⟨_, h⟩
    by_cases h1 : x = 16
    · exact .inr h1
    · by_cases h2 : x = 8
      · exact .inl h2
      · simp [h1, h2] at h

theorem s_grow : growA (newA 3 0) 8 = (0, ⟨3, 0, i1, 0, 0⟩) := by
  have : mayA (newA 3 0) 8 = 0 := by simp [mayA, newA, szO, zero_is]
  simp only [growA, this, if_true]; rfl
theorem s_grow2 : growA ⟨3, 0, i1, 0, 0⟩ 16 = (0, ⟨3, 0, i2, 0, 0⟩) := by
  have : mayA ⟨3, 0, i1, 0, 0⟩ 16 = 0 := by simp [mayA, szO, i1_at]
  simp only [growA, this, if_true]; rfl
theorem s_prom : promiseA ⟨3, 0, i2, 0, 0⟩ 1 = (0, ⟨3, 0, i2, 1, 0⟩) := by
  simp [promiseA, spareA, f2]
theorem s_take : takeA ⟨3, 0, i2, 1, 0⟩ false = ((8, 0), ⟨3, 0, i3, 1, 0⟩) := by
  simp [takeA, spareA, f2, headL, setA, i3]
theorem s_take2 : takeA ⟨3, 0, i3, 1, 0⟩ false = ((0, 9), ⟨3, 0, i3, 1, 0⟩) := by
  simp [takeA, spareA, f3]
theorem s_shrink : shrinkA ⟨3, 0, i3, 1, 0⟩ = ((0, 12), ⟨3, 0, i3, 1, 0⟩) := by
  simp [shrinkA, spareA, f3]
theorem s_take3 : takeA ⟨3, 0, i3, 1, 0⟩ true = ((16, 0), ⟨3, 0, i4, 0, 0⟩) := by
  simp [takeA, f3, headL, setA, i4]

theorem run31 {K : Kont} {fuel : Nat} (hA : Api K) {w : World} : wpGFn Try.prog K fuel 31 g31 #[] w fun v w' => v = .bool true ∧ Keeps w w' (fun _ => False) := by
  rw [gfn_start]
  simp -implicitDefEqProofs [g31]
  refine valA_of (hA.new 3 0) (fun u w1 hq => ?_)
  rcases hq with ⟨hbad, _⟩ | ⟨_, b, r, hu, hp1, hk1, hb, hr⟩
  · exact absurd hbad good30
  simp only at hu hp1 hk1
  subst hu
  have o0 : (newA 3 0).ok := new_ok (.inl rfl) (by omega)
  simp -implicitDefEqProofs [nil54]
  refine valA_of (hA.grow hp1 o0 8) (fun u w2 hq => ?_)
  obtain ⟨hu, hp2, hk2⟩ := hq
  have o1 := grow_ok o0 8
  simp only [s_grow] at hu hp2 hk2 o1
  subst hu
  simp -implicitDefEqProofs
  refine valA_of (hA.grow hp2 o1 16) (fun u w3 hq => ?_)
  obtain ⟨hu, hp3, hk3⟩ := hq
  have o2 := grow_ok o1 16
  simp only [s_grow2] at hu hp3 hk3 o2
  subst hu
  simp -implicitDefEqProofs
  refine valA_of (hA.promise hp3 o2 1) (fun u w4 hq => ?_)
  obtain ⟨hu, hp4, hk4⟩ := hq
  have o3 := promise_ok o2 1
  simp only [s_prom] at hu hp4 hk4 o3
  subst hu
  simp -implicitDefEqProofs
  refine valA_of (hA.take hp4 o3 false) (fun u w5 hq => ?_)
  obtain ⟨hu, hp5, hk5⟩ := hq
  have o4 := take_ok o3 false
  simp only [s_take] at hu hp5 hk5 o4
  subst hu
  simp -implicitDefEqProofs
  refine valA_of (hA.take hp5 o4 false) (fun u w6 hq => ?_)
  obtain ⟨hu, hp6, hk6⟩ := hq
  simp only [s_take2] at hu hp6 hk6
  subst hu
  simp -implicitDefEqProofs
  refine valA_of (hA.shrink hp6 o4) (fun u w7 hq => ?_)
  obtain ⟨hu, hp7, hk7⟩ := hq
  simp only [s_shrink] at hu hp7 hk7
  subst hu
  simp -implicitDefEqProofs
  refine valA_of (hA.take hp7 o4 true) (fun u w8 hq => ?_)
  obtain ⟨hu, hp8, hk8⟩ := hq
  have o5 := take_ok o4 true
  simp only [s_take3] at hu hp8 hk8 o5
  subst hu
  simp -implicitDefEqProofs
  refine valA_of (hA.l.l.total hp8 o5) (fun u w9 hq => ?_)
  obtain ⟨hu, hk9⟩ := hq
  simp only [f4, u4] at hu hk9
  subst hu
  simp -implicitDefEqProofs
  have t1 := hk2.trans hk3 (fun _ _ h => h) (fun _ _ h => h)
  have t2 := t1.trans hk4 (fun _ _ h => h) (fun _ _ h => h)
  have t3 := t2.trans hk5 (fun _ _ h => h) (fun _ _ h => h)
  have t4 := t3.trans hk6 (fun _ _ h => h) (fun _ _ h => h)
  have t5 := t4.trans hk7 (fun _ _ h => h) (fun _ _ h => h)
  have t6 := t5.trans hk8 (fun _ _ h => h) (fun _ _ h => h)
  exact (hk1.trans t6 (H := fun _ => False) (fun _ _ h => h) (fun j hj h => by rcases h with h | h <;> omega)).trans hk9 (fun _ _ h => h) (fun _ _ h => h)
end Go.Proofs.Ytkplodhjceieeaa
