/-
  PoolDoes, PoolEnds: the ideal walks.
-/
import Derived.Test.YtkplodhjceieeaaUh
namespace Go.Proofs.Ytkplodhjceieeaa
open Go Go.Ideal

structure Top (K : Kont) : Prop where
  a : Api K
  both : ∀ {w : World} {b r x y : Nat} {s : PS}, Both w b r x y s → s.ok → ∀ a : ActP, (K.enter 38 #[pt b, pt x, .agg a.cells] w).all fun z => z.1 = .bool true ∧ BothTo w z.2 b r x y (stepA s a)
  made : ∀ {w : World} {v : Value} {xs : List ActP}, ActsAt w v xs → (K.enter 30 #[v] w).all fun z => ∃ b r x y, z.1 = .tuple #[pt b, pt x] ∧ Both z.2 b r x y (runS (newA 3 2) (xs.take 60)) ∧ Keeps w z.2 (fun _ => False) ∧ w.heap.size ≤ b ∧ w.heap.size ≤ r ∧ w.heap.size ≤ x ∧ w.heap.size ≤ y
  awake : ∀ w, (K.enter 31 #[] w).all fun z => z.1 = .bool true ∧ Keeps w z.2 (fun _ => False)
  num : ∀ {w : World} {x y : Value} {l m : List Int}, SrcE (EInt 3) w x l → SrcE (EInt 3) w y m → l.length ≤ 2000 → (K.enter 28 #[x, y] w).all fun z => z.1 = .bool (decide (l = m)) ∧ z.2 = w

theorem top (m : Nat) (hm : 4000 ≤ m) : Top (KR (m + 7)) where
  a := api (m + 2) (by omega)
  both := fun h hs a => enter_okH (m := m + 6) low38 (by simp [sortH]) (run38 (api (m + 1) (by omega)) h hs a)
  made := fun hv => enter_okH (m := m + 6) low30 (by simp [sortH]) (run30 (api (m + 1) (by omega)) (fun h hs a => enter_okH (m := m + 5) low38 (by simp [sortH]) (run38 (api m hm) h hs a)) (by omega) hv)
  awake := fun w => enter_okH (m := m + 6) low31 (by simp [sortH]) (run31 (api (m + 1) (by omega)))
  num := fun hx hy hl => enter_okH (m := m + 6) low28 (by simp [sortH]) (run28 (by omega) hx hy hl)

theorem bool_nee {o1 o2 : Operand} {a b : Bool} {w : World} : binS Try.prog .neq 4 o1 o2 (.bool a) (.bool b) w = .ret (.bool (a != b), w) := by
  have hf : binFit Try.prog .neq 4 (.bool a) (.bool b) = true := by
    have he : eqTy Try.prog 5 4 = true := by kernel_rfl
    simp [binFit, he, eqFit]
  unfold binS
  simp only [hf, if_true]
  rw [eqGuard_none _ _ _ _ _ _ (fun _ h => by cases h) (fun h => by cases h)]
  simp only [Sem.run_bind, Sem.run_pure, Result.andThen, binOp, Op.equal, Op.maxDepth, run_equalIn_bool' w 9999 4 a b Try.underlying4, ofRun]
  rfl

theorem Both.keep {w w' : World} {b r x y : Nat} {s : PS} (h : Both w b r x y s) (hk : Keeps w w' (fun _ => False)) : Both w' b r x y s := ⟨h.p.keep hk (fun h => h) (fun h => h), h.q.keep hk (fun h => h) (fun h => h)⟩

theorem run12 {K : Kont} {fuel : Nat} (hT : Top K) (hf : 4000 ≤ fuel) {w : World} {o mo : Int} {v : Value} {xs : List ActP} (hv : ActsAt w v xs) : wpGFn Try.prog K fuel 12 g12 #[n64 o, n64 mo, v] w fun u _ => u = .bool true := by
  rw [gfn_start]
  simp -implicitDefEqProofs [g12]
  refine valA_of (hT.a.new o mo) (fun u w1 hq => ?_)
  rcases hq with ⟨hbad, hu, hw⟩ | ⟨hgood, b, r, hu, hp, hk1, hb, hr⟩
  · simp only at hu hw
    subst hu hw
    simp -implicitDefEqProofs
    refine valA_of (hT.a.rnew o mo) (fun u w2 hq => ?_)
    rcases hq with ⟨_, hu, hw⟩ | ⟨hgood, _⟩
    · simp only at hu hw
      subst hu hw
      simp -implicitDefEqProofs [nil54, nil55, bool_nee]
      refine valA_of (hT.awake _) (fun u w3 hq => ?_)
      obtain ⟨hu, _⟩ := hq
      simp only at hu
      subst hu
      simp -implicitDefEqProofs [nil54, nil55, bool_nee]
    · exact absurd hbad hgood
  · simp only at hu hp hk1
    subst hu
    simp -implicitDefEqProofs
    refine valA_of (hT.a.rnew o mo) (fun u w2 hq => ?_)
    rcases hq with ⟨hbad, _⟩ | ⟨_, x, y, hu, hq2, hk2, hx, hy⟩
    · exact absurd hbad hgood
    simp only at hu hq2 hk2
    subst hu
    have hx' : w.heap.size ≤ x := Nat.le_trans hk1.1 hx
    have hy' : w.heap.size ≤ y := Nat.le_trans hk1.1 hy
    have hk12 : Keeps w w2 (fun _ => False) := hk1.trans hk2 (fun _ _ h => h) (fun _ _ h => h)
    have hB : Both w2 b r x y (newA o mo) := ⟨hp.keep hk2 (fun h => h) (fun h => h), hq2⟩
    have hok : (newA o mo).ok := new_ok (by unfold badNew at hgood; omega) (by unfold badNew at hgood; omega)
    simp -implicitDefEqProofs [nil54, nil55, bool_nee]
    refine valA_of (hT.awake _) (fun u w3 hq => ?_)
    obtain ⟨hu, hk3⟩ := hq
    simp only at hu hk3
    subst hu
    simp -implicitDefEqProofs [nil54, nil55, bool_nee]
    have hk13 : Keeps w w3 (fun _ => False) := hk12.trans hk3 (fun _ _ h => h) (fun _ _ h => h)
    refine loop_go (fun i ρ w' => ∃ (q : Nat), i = 60 - q ∧ q ≤ 60 ∧ q ≤ xs.length ∧ ρ 2 = v ∧ ρ 7 = pt b ∧ ρ 9 = pt x ∧ ρ 11 = n64 q ∧ Both w' b r x y (runS (newA o mo) (xs.take q)) ∧ Keeps w3 w' (Mv4 b r x y)) ?_ (i := 60) ?_ (by show 60 < fuel; omega)
    · rintro i ρ w' ⟨q, rfl, hq, hql, e2, e7, e9, e11, hB', hk'⟩
      have hkw := fresh_keep hk13 hk' hb hr hx' hy'
      have hv' := hv.keep hkw
      have w1 : IntKind.i64.wrap ((q : Int) + 1) = (q : Int) + 1 := by rw [IntKind.wrap_i64]; omega
      by_cases h1 : q < xs.length
      · have h1' : (q : Int) < xs.length := by omega
        by_cases h2 : q < 60
        · have h2' : (q : Int) < 60 := by omega
          obtain ⟨bb, oo, cap, c, e, fz, hve, hc, hsz, hext, _⟩ := hv'.at h1
          simp -implicitDefEqProofs [e2, e7, e9, e11, hv'.lenS, h1', h2', hve, hc, hsz, hext, h1]
          refine valA_of (hT.both hB' (run_ok _ hok) xs[q]) (fun u w4 hq3 => ?_)
          obtain ⟨hu, hB3, hk3'⟩ := hq3
          simp only at hu hB3 hk3'
          subst hu
          have hok3 := step_ok (run_ok (xs.take q) hok) xs[q]
          have hrun : stepA (runS (newA o mo) (xs.take q)) xs[q] = runS (newA o mo) (xs.take (q + 1)) := by rw [List.take_succ_eq_append_getElem h1, run_snoc]
          rw [hrun] at hB3 hok3
          generalize hs : runS (newA o mo) (xs.take (q + 1)) = s at *
          simp -implicitDefEqProofs [e7, e9]
          refine valA_of (hT.a.l.l.free hB3.p hok3) (fun u w5 hq5 => ?_)
          obtain ⟨hr5, hk5, _⟩ := hq5
          simp only at hr5 hk5
          have hB5 := hB3.keep hk5
          simp -implicitDefEqProofs [e7, e9]
          refine valA_of (hT.a.r.free hB5.q hok3) (fun u6 w6 hq6 => ?_)
          obtain ⟨hr6, hk6, _⟩ := hq6
          simp only at hr6 hk6
          have hB6 := hB5.keep hk6
          simp -implicitDefEqProofs
          refine valA_of (hT.num (hr5.keep hk6 (fun _ _ h => h)).src hr6.src (by have := free_len s.is; omega)) (fun u7 w7 hq7 => ?_)
          obtain ⟨hu7, hw7⟩ := hq7
          simp only at hu7 hw7
          have hw7 := hw7.symm
          subst hu7 hw7
          simp -implicitDefEqProofs [e7, e9]
          refine valA_of (hT.a.l.l.total hB6.p hok3) (fun u8 w8 hq8 => ?_)
          obtain ⟨hu8, hk8⟩ := hq8
          simp only at hu8 hk8
          subst hu8
          have hB8 := hB6.keep hk8
          simp -implicitDefEqProofs [e7, e9]
          refine valA_of (hT.a.r.count hB8.q hok3 1) (fun u9 w9 hq9 => ?_)
          obtain ⟨hu9, hw9⟩ := hq9
          simp only at hu9 hw9
          have hw9 := hw9.symm
          subst hu9 hw9
          simp -implicitDefEqProofs [e7, e9]
          refine valA_of (hT.a.r.count hB8.q hok3 2) (fun u10 w10 hq10 => ?_)
          obtain ⟨hu10, hw10⟩ := hq10
          simp only at hu10 hw10
          have hw10 := hw10.symm
          subst hu10 hw10
          have l1 := atN_len s.is 1 1024
          have l2 := atN_len s.is 2 1024
          have w11 : IntKind.i64.wrap (((atN s.is 1 1024).length : Int) + (atN s.is 2 1024).length) = (atN s.is 1 1024).length + (atN s.is 2 1024).length := by rw [IntKind.wrap_i64]; omega
          simp -implicitDefEqProofs [e7, e9, w11, freeL, usedL, hB8.q.1]
          refine valA_of (hT.a.l.l.promised hB8.p) (fun u12 w12 hq12 => ?_)
          obtain ⟨hu12, hk12'⟩ := hq12
          simp only at hu12 hk12'
          subst hu12
          have hB12 := hB8.keep hk12'
          simp -implicitDefEqProofs [e7, e9, hB12.q.1]
          refine valA_of (hT.a.l.l.surplus hB12.p) (fun u13 w13 hq13 => ?_)
          obtain ⟨hu13, hk13'⟩ := hq13
          simp only at hu13 hk13'
          subst hu13
          have hB13 := hB12.keep hk13'
          simp -implicitDefEqProofs [e7, e9, e11, e2, hB13.q.1, w1]
          have kk := ((((hk3'.trans hk5 (H := Mv4 b r x y) (fun _ _ h => h) (fun _ _ h => h.elim)).trans hk6 (H := Mv4 b r x y) (fun _ _ h => h) (fun _ _ h => h.elim)).trans hk8 (H := Mv4 b r x y) (fun _ _ h => h) (fun _ _ h => h.elim)).trans hk12' (H := Mv4 b r x y) (fun _ _ h => h) (fun _ _ h => h.elim)).trans hk13' (H := Mv4 b r x y) (fun _ _ h => h) (fun _ _ h => h.elim)
          exact ⟨60 - (q + 1), by omega, q + 1, rfl, by omega, h1, hve, by omega, by rw [hs]; exact hB13, hk'.trans kk (fun _ _ h => h) (fun _ _ h => h)⟩
        · have : q = 60 := by omega
          subst this
          have h5 : (60 : Int) < xs.length := by omega
          simp -implicitDefEqProofs [e2, e7, e9, e11, hv'.lenS, h5]
      · have h1' : ¬ (q : Int) < xs.length := by omega
        simp -implicitDefEqProofs [e2, e7, e9, e11, hv'.lenS, h1']
    · exact ⟨0, rfl, by omega, Nat.zero_le _, by simp, by simp, by simp, by simp, by rw [List.take_zero]; exact hB.keep hk3, Keeps.refl _ _⟩
end Go.Proofs.Ytkplodhjceieeaa
