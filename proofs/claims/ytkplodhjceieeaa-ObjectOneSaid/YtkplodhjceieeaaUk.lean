/-
  PoolShrinks, PoolNone: the ideal walks.
-/
import Derived.Test.YtkplodhjceieeaaUj
namespace Go.Proofs.Ytkplodhjceieeaa
open Go Go.Ideal

theorem at_len8 {is : List Int} {v : Int} (h : ∀ i : Nat, is[i]? = some v → (i : Int) % 8 = 0) (n : Nat) : (atN is v n).length ≤ (n + 7) / 8 := by
  induction n with
  | zero => simp [atN]
  | succ n ih =>
    simp only [atN]
    split
    · rename_i hn
      have := h n hn
      rw [List.length_append, List.length_singleton]
      omega
    · omega
theorem free_128 {s : PS} (h : s.ok) : (freeL s.is).length ≤ 128 := by
  have := at_len8 (is := s.is) (v := 1) (fun i hi => by
    have hlt : i < 1024 := by
      have := (List.getElem?_eq_some_iff.1 hi).1
      rw [h.len] at this; exact this
    have := (h.even i hlt (by rw [hi]; simp)).1
    rcases szO_cases s.o with e | e <;> rw [e] at this <;> omega) 1024
  exact this

theorem shrink_facts {s : PS} (h : s.ok) (h1 : ¬ spareA s < 1) : (freeL (shrinkA s).2.is).length + 1 = (freeL s.is).length ∧ (usedL (shrinkA s).2.is).length = (usedL s.is).length ∧ (shrinkA s).2.pr = s.pr ∧ (shrinkA s).1.2 = 0 := by
  have hpr := h.pr
  have hne : freeL s.is ≠ [] := fun e => by rw [spareA_set, e] at h1; simp at h1; omega
  obtain ⟨g0, g1, g2, _⟩ := free_even h (last_mem hne)
  have c1 := free_set s.is _ 0 g0 g1 h.len
  have c2 := used_set s.is _ 0 g0 g1 h.len
  simp [g2] at c1 c2
  unfold shrinkA
  rw [if_neg h1]
  simp only [setA]
  exact ⟨by omega, by omega, trivial, trivial⟩

theorem run11 {K : Kont} {fuel : Nat} (hT : Top K) (hf : 4000 ≤ fuel) {w : World} {v : Value} {xs : List ActP} (hv : ActsAt w v xs) : wpGFn Try.prog K fuel 11 g11 #[v] w fun u _ => u = .bool true := by
  rw [gfn_start]
  simp -implicitDefEqProofs [g11]
  refine valA_of (hT.made hv) (fun u w1 hq => ?_)
  obtain ⟨b, r, x, y, hu, hB, hk1, hb, hr, hx, hy⟩ := hq
  simp only at hu hB hk1
  subst hu
  have hok : (runS (newA 3 2) (xs.take 60)).ok := run_ok _ (new_ok (.inl rfl) (by omega))
  generalize runS (newA 3 2) (xs.take 60) = s at *
  simp -implicitDefEqProofs [nil54]
  refine valA_of (hT.awake _) (fun u w2 hq => ?_)
  obtain ⟨hu, hk2⟩ := hq
  simp only at hu hk2
  subst hu
  have hp2 := (hB.keep hk2).p
  have hfl := free_128 hok
  have hul : (usedL s.is).length ≤ 1024 := atN_len _ _ _
  have hpr := hok.pr
  simp -implicitDefEqProofs
  refine valA_of (hT.a.l.l.promised hp2) (fun u w3 hq => ?_)
  obtain ⟨hu, hk3⟩ := hq
  simp only at hu hk3
  subst hu
  have hp3 := hp2.keep hk3 (fun h => h) (fun h => h)
  simp -implicitDefEqProofs
  refine valA_of (hT.a.l.l.total hp3 hok) (fun u w4 hq => ?_)
  obtain ⟨hu, hk4⟩ := hq
  simp only at hu hk4
  subst hu
  have hp4 := hp3.keep hk4 (fun h => h) (fun h => h)
  simp -implicitDefEqProofs
  refine valA_of (hT.a.l.l.free hp4 hok) (fun u w5 hq => ?_)
  obtain ⟨hr5, hk5, _⟩ := hq
  simp only at hr5 hk5
  have hp5 := hp4.keep hk5 (fun h => h) (fun h => h)
  have w0 : IntKind.i64.wrap (((freeL s.is).length : Int) + (usedL s.is).length - (freeL s.is).length) = (usedL s.is).length := by rw [IntKind.wrap_i64]; omega
  have w9 : IntKind.i64.wrap (s.pr + (usedL s.is).length) = s.pr + (usedL s.is).length := by rw [IntKind.wrap_i64]; omega
  simp -implicitDefEqProofs [hr5.lenS, w0]
  refine loop_go (fun i ρ w' => ∃ (q : Nat) (s' : PS), i = 200 - q ∧ PoolAt w' b r s' ∧ s'.ok ∧ s'.pr = s.pr ∧ (freeL s'.is).length + q = (freeL s.is).length ∧ (usedL s'.is).length = (usedL s.is).length ∧ ρ 3 = pt b ∧ ρ 5 = n64 s.pr ∧ ρ 6 = n64 (usedL s.is).length ∧ ρ 7 = n64 q) ?_ (i := 200) ?_ (by show 200 < fuel; omega)
  · rintro i ρ w' ⟨q, s', rfl, hp, ho, h1, h2, h3, e3, e5, e6, e7⟩
    have hq : (q : Int) < 200 := by omega
    have w1 : IntKind.i64.wrap ((q : Int) + 1) = (q : Int) + 1 := by rw [IntKind.wrap_i64]; omega
    simp -implicitDefEqProofs [e3, e7, hq]
    refine valA_of (hT.a.shrink hp ho) (fun u w6 hq6 => ?_)
    obtain ⟨hu, hp6, _⟩ := hq6
    simp only at hu hp6
    subst hu
    by_cases h0 : spareA s' < 1
    · have hsh : shrinkA s' = ((0, 12), s') := by unfold shrinkA; rw [if_pos h0]
      have hpr' := ho.pr
      rw [hsh] at hp6
      simp -implicitDefEqProofs [hsh, e3]
      refine valA_of (hT.a.l.l.free hp6 ho) (fun u w7 hq7 => ?_)
      obtain ⟨hr7, hk7, _⟩ := hq7
      simp only at hr7 hk7
      have hp7 := hp6.keep hk7 (fun h => h) (fun h => h)
      have heq : ((freeL s'.is).length : Int) = s.pr := by rw [spareA_set] at h0; omega
      simp -implicitDefEqProofs [hr7.lenS, e3, e5, heq]
      refine valA_of (hT.a.l.l.total hp7 ho) (fun u w8 hq8 => ?_)
      obtain ⟨hu, _⟩ := hq8
      simp only at hu
      subst hu
      simp -implicitDefEqProofs [e5, e6, w9, heq, h3]
    · obtain ⟨g1, g2, g3, g4⟩ := shrink_facts ho h0
      simp -implicitDefEqProofs [g4, e3, e5, e6, e7, w1]
      exact ⟨200 - (q + 1), by omega, q + 1, rfl, (shrinkA s').2, hp6, shrink_ok ho, by omega, by omega, by omega, by omega⟩
  · exact ⟨0, s, rfl, hp5, hok, rfl, by omega, rfl, by simp, by simp, by simp, by simp⟩

/-! ### Of a nil pool -/
theorem n58 {K : Kont} {fuel : Nat} {w : World} (f : Int) : wpGFn Try.prog K fuel 58 g58 #[.pointer none, n64 f] w fun v w' => v = n64 1 ∧ w' = w := by
  rw [gfn_start]; simp -implicitDefEqProofs [g58, nil54]
theorem n33 {K : Kont} {fuel : Nat} {w : World} : wpGFn Try.prog K fuel 33 g33 #[.pointer none] w fun v w' => v = .tuple #[n64 0, n64 1] ∧ w' = w := by
  rw [gfn_start]; simp -implicitDefEqProofs [g33, nil54]
theorem n34 {K : Kont} {fuel : Nat} {w : World} (y : Bool) : wpGFn Try.prog K fuel 34 g34 #[.pointer none, .bool y] w fun v w' => v = .tuple #[n64 0, n64 1] ∧ w' = w := by
  rw [gfn_start]; simp -implicitDefEqProofs [g34, nil54]
theorem n39 {K : Kont} {fuel : Nat} {w : World} (f : Int) (y : Bool) : wpGFn Try.prog K fuel 39 g39 #[.pointer none, n64 f, .bool y] w fun v w' => v = .tuple #[.bool false, n64 1] ∧ w' = w := by
  rw [gfn_start]; simp -implicitDefEqProofs [g39, nil54]
theorem n46 {K : Kont} {fuel : Nat} {w : World} (n : Int) : wpGFn Try.prog K fuel 46 g46 #[.pointer none, n64 n] w fun v w' => v = n64 1 ∧ w' = w := by
  rw [gfn_start]; simp -implicitDefEqProofs [g46, nil54]
theorem n47 {K : Kont} {fuel : Nat} {w : World} (n : Int) : wpGFn Try.prog K fuel 47 g47 #[.pointer none, n64 n] w fun v w' => v = n64 1 ∧ w' = w := by
  rw [gfn_start]; simp -implicitDefEqProofs [g47, nil54]
theorem n36 {K : Kont} {fuel : Nat} {w : World} (h : ∀ f, (K.enter 58 #[.pointer none, n64 f] w).all fun x => x.1 = n64 1 ∧ x.2 = w) (f : Int) : wpGFn Try.prog K fuel 36 g36 #[.pointer none, n64 f] w fun v w' => v = n64 1 ∧ w' = w := by
  rw [gfn_start]
  simp -implicitDefEqProofs [g36]
  refine valA_of (h f) (fun u w1 hq => ?_)
  obtain ⟨hu, hw⟩ := hq
  simp only at hu hw
  subst hu hw
  simp -implicitDefEqProofs
theorem n37 {K : Kont} {fuel : Nat} {w : World} (h : ∀ f, (K.enter 58 #[.pointer none, n64 f] w).all fun x => x.1 = n64 1 ∧ x.2 = w) (f : Int) : wpGFn Try.prog K fuel 37 g37 #[.pointer none, n64 f] w fun v w' => v = n64 1 ∧ w' = w := by
  rw [gfn_start]
  simp -implicitDefEqProofs [g37]
  refine valA_of (h f) (fun u w1 hq => ?_)
  obtain ⟨hu, hw⟩ := hq
  simp only at hu hw
  subst hu hw
  simp -implicitDefEqProofs

structure Nils (K : Kont) : Prop where
  shrink : ∀ w, (K.enter 33 #[.pointer none] w).all fun x => x.1 = .tuple #[n64 0, n64 1] ∧ x.2 = w
  take : ∀ w y, (K.enter 34 #[.pointer none, .bool y] w).all fun x => x.1 = .tuple #[n64 0, n64 1] ∧ x.2 = w
  give : ∀ w f y, (K.enter 39 #[.pointer none, n64 f, .bool y] w).all fun x => x.1 = .tuple #[.bool false, n64 1] ∧ x.2 = w
  grow : ∀ w f, (K.enter 36 #[.pointer none, n64 f] w).all fun x => x.1 = n64 1 ∧ x.2 = w
  extra : ∀ w f, (K.enter 37 #[.pointer none, n64 f] w).all fun x => x.1 = n64 1 ∧ x.2 = w
  promise : ∀ w n, (K.enter 46 #[.pointer none, n64 n] w).all fun x => x.1 = n64 1 ∧ x.2 = w
  unpromise : ∀ w n, (K.enter 47 #[.pointer none, n64 n] w).all fun x => x.1 = n64 1 ∧ x.2 = w

theorem nils (m : Nat) : Nils (KR (m + 2)) where
  shrink := fun w => enter_okH (m := m + 1) low33 (by simp [sortH]) n33
  take := fun w y => enter_okH (m := m + 1) low34 (by simp [sortH]) (n34 y)
  give := fun w f y => enter_okH (m := m + 1) low39 (by simp [sortH]) (n39 f y)
  grow := fun w f => enter_okH (m := m + 1) low36 (by simp [sortH]) (n36 (fun f => enter_okH (m := m) low58 (by simp [sortH]) (n58 f)) f)
  extra := fun w f => enter_okH (m := m + 1) low37 (by simp [sortH]) (n37 (fun f => enter_okH (m := m) low58 (by simp [sortH]) (n58 f)) f)
  promise := fun w n => enter_okH (m := m + 1) low46 (by simp [sortH]) (n46 n)
  unpromise := fun w n => enter_okH (m := m + 1) low47 (by simp [sortH]) (n47 n)

theorem run13 {K : Kont} {fuel : Nat} (hT : Top K) (hN : Nils K) {w : World} (a : ActP) : wpGFn Try.prog K fuel 13 g13 #[.agg a.cells] w fun u _ => u = .bool true := by
  rw [gfn_start]
  have hb0 : cellsOf? (World.push w (.cells a.cells 63)) w.heap.size = some (#[n64 a.k, n64 a.f, n64 a.n, .bool a.yes], 63, (0, 0)) := by simp [ActP.cells]
  simp -implicitDefEqProofs [g13]
  generalize World.push w (.cells a.cells 63) = w0 at *
  refine valA_of (hN.shrink _) (fun u w1 hq => ?_)
  obtain ⟨hu, hw⟩ := hq
  simp only at hu hw
  subst hu hw
  simp -implicitDefEqProofs [hb0]
  refine valA_of (hN.take _ _) (fun u w1 hq => ?_)
  obtain ⟨hu, hw⟩ := hq
  simp only at hu hw
  subst hu hw
  simp -implicitDefEqProofs [hb0]
  refine valA_of (hN.give _ _ _) (fun u w1 hq => ?_)
  obtain ⟨hu, hw⟩ := hq
  simp only at hu hw
  subst hu hw
  simp -implicitDefEqProofs
  refine valA_of (hT.awake _) (fun u w2 hq => ?_)
  obtain ⟨hu, hk⟩ := hq
  simp only at hu hk
  subst hu
  have hb2 := hk.cells hb0 (fun h => h)
  have z0 : IntKind.i64.wrap 0 = 0 := by rfl
  simp -implicitDefEqProofs [z0]
  refine valA_of (hT.a.l.l.free0 _) (fun u w3 hq => ?_)
  obtain ⟨hu, hk3⟩ := hq
  simp only at hu hk3
  subst hu
  have hb3 := hk3.cells hb2 (fun h => h)
  simp -implicitDefEqProofs [z0]
  refine valA_of (hT.a.l.l.total0 _) (fun u w4 hq => ?_)
  obtain ⟨hu, hk4⟩ := hq
  simp only at hu hk4
  subst hu
  have hb4 := hk4.cells hb3 (fun h => h)
  simp -implicitDefEqProofs [z0]
  refine valA_of (hT.a.l.l.promised0 _) (fun u w5 hq => ?_)
  obtain ⟨hu, hk5⟩ := hq
  simp only at hu hk5
  subst hu
  have hb5 := hk5.cells hb4 (fun h => h)
  simp -implicitDefEqProofs [z0]
  refine valA_of (hT.a.l.l.surplus0 _) (fun u w6 hq => ?_)
  obtain ⟨hu, hk6⟩ := hq
  simp only at hu hk6
  subst hu
  have hb6 := hk6.cells hb5 (fun h => h)
  simp -implicitDefEqProofs [z0, hb6]
  refine valA_of (hN.grow _ _) (fun u w7 hq => ?_)
  obtain ⟨hu, hw⟩ := hq
  simp only at hu hw
  subst hu hw
  simp -implicitDefEqProofs [hb6]
  refine valA_of (hN.extra _ _) (fun u w7 hq => ?_)
  obtain ⟨hu, hw⟩ := hq
  simp only at hu hw
  subst hu hw
  simp -implicitDefEqProofs [hb6]
  refine valA_of (hN.promise _ _) (fun u w7 hq => ?_)
  obtain ⟨hu, hw⟩ := hq
  simp only at hu hw
  subst hu hw
  simp -implicitDefEqProofs [hb6]
  refine valA_of (hN.unpromise _ _) (fun u w7 hq => ?_)
  obtain ⟨hu, hw⟩ := hq
  simp only at hu hw
  subst hu hw
  simp -implicitDefEqProofs
end Go.Proofs.Ytkplodhjceieeaa
