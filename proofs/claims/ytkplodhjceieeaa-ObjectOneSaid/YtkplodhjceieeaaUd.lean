/-
  The program's pool: what each call answers and leaves.
-/
import Derived.Test.YtkplodhjceieeaaUc
namespace Go.Proofs.Ytkplodhjceieeaa
open Go Go.Ideal

theorem sh3 : arith .shl .i64 1 3 = .ret (n64 8) := rfl
theorem sh6 : arith .shl .i64 1 6 = .ret (n64 64) := rfl

theorem and_low (f : Int) (h0 : 0 ≤ f) (h1 : f < 1048576) (k : Nat) (hk : k ≤ 8) : and64 f ((2 : Int) ^ k - 1) = f % (2 : Int) ^ k := by
  unfold and64
  obtain ⟨n, rfl⟩ : ∃ n : Nat, f = n := ⟨f.toNat, by omega⟩
  have e1 : BitVec.ofInt 64 (n : Int) = BitVec.ofNat 64 n := by simp
  have h2k : (2 : Int) ^ k - 1 = ((2 ^ k - 1 : Nat) : Int) := by
    have : 1 ≤ 2 ^ k := Nat.one_le_two_pow
    push_cast [this]; rfl
  have e2 : BitVec.ofInt 64 ((2 : Int) ^ k - 1) = BitVec.ofNat 64 (2 ^ k - 1) := by rw [h2k]; simp
  have hlt : 2 ^ k ≤ 2 ^ 8 := Nat.pow_le_pow_right (by decide) hk
  rw [e1, e2, BitVec.toNat_and, BitVec.toNat_ofNat, BitVec.toNat_ofNat, Nat.mod_eq_of_lt (by omega), Nat.mod_eq_of_lt (by omega), Nat.and_two_pow_sub_one_eq_mod]
  have hb : n % 2 ^ k ≤ n := Nat.mod_le _ _
  have : ((n % 2 ^ k : Nat) : Int) = (n : Int) % (2 : Int) ^ k := by push_cast; rfl
  rw [← this, IntKind.wrap_i64]
  generalize n % 2 ^ k = r at hb
  omega
theorem and7 (f : Int) (h0 : 0 ≤ f) (h1 : f < 1048576) : and64 f 7 = f % 8 := and_low f h0 h1 3 (by decide)
theorem and63 (f : Int) (h0 : 0 ≤ f) (h1 : f < 1048576) : and64 f 63 = f % 64 := and_low f h0 h1 6 (by decide)

/-! ### Maps -/
theorem rel_set {m : MapL} {is : List Int} (h : RelM m is) {f : Int} (h0 : 0 ≤ f) (hl : f < is.length) : RelM (putM m f (n64 1)) (is.set f.toNat 1) ∧ RelM (putM m f (n64 0)) (is.set f.toNat 2) := by
  constructor
  · intro g
    rw [getM_put, h g]
    simp only [mval, isAt_set is f _ g h0 hl]
    by_cases hg : g = f <;> simp [hg]
  · intro g
    rw [getM_put, h g]
    simp only [mval, isAt_set is f _ g h0 hl]
    by_cases hg : g = f <;> simp [hg]
theorem rel_del {m : MapL} {is : List Int} (h : RelM m is) (hn : (keysM m).Nodup) {f : Int} (h0 : 0 ≤ f) (hl : f < is.length) : RelM (delM m f) (is.set f.toNat 0) := by
  intro g
  rw [getM_del hn, h g]
  simp only [mval, isAt_set is f _ g h0 hl]
  by_cases hg : g = f <;> simp [hg]

theorem isAt_val {s : PS} (h : s.ok) (f : Int) : isAt s.is f = 0 ∨ isAt s.is f = 1 ∨ isAt s.is f = 2 := by
  unfold isAt
  split
  · cases hk : s.is[f.toNat]? with
    | none => exact .inl rfl
    | some x => exact h.val x (List.mem_of_getElem? hk)
  · exact .inl rfl

theorem mval0 {is : List Int} {f : Int} (h : isAt is f = 0) : mval is f = none := by simp [mval, h]
theorem mval1 {is : List Int} {f : Int} (h : isAt is f = 1) : mval is f = some (n64 1) := by simp [mval, h]
theorem mval2 {is : List Int} {f : Int} (h : isAt is f = 2) : mval is f = some (n64 0) := by simp [mval, h]

/-- How many entries the map has. -/
theorem rel_len {m : MapL} {s : PS} (h : s.ok) (hr : RelM m s.is) (hn : (keysM m).Nodup) : m.length = (freeL s.is).length + (usedL s.is).length := by
  have hd : (freeL s.is ++ usedL s.is).Nodup := by
    rw [List.nodup_append]
    refine ⟨free_nodup _, atN_nodup _ _ _, fun a ha b hb e => ?_⟩
    subst e
    have h1 := (free_mem.1 ha).2.2
    have h2 := (atN_mem.1 hb).2.2
    rw [h1] at h2
    simp at h2
  have hp := (List.perm_ext_iff_of_nodup hn hd).2 (fun k => by
    rw [List.mem_append]
    constructor
    · intro hk
      have hg : getM m k ≠ none := fun e => (getM_none.1 e) hk
      rw [hr k] at hg
      rcases isAt_val h k with h0 | h1 | h2
      · rw [mval0 h0] at hg; exact absurd rfl hg
      · have := in_even h (f := k) (by rw [h1]; decide)
        exact .inl (free_mem.2 ⟨this.1, this.2.1, by rw [isAt_some this.1 (by rw [h.len]; omega), h1]⟩)
      · have := in_even h (f := k) (by rw [h2]; decide)
        exact .inr (atN_mem.2 ⟨this.1, this.2.1, by rw [isAt_some this.1 (by rw [h.len]; omega), h2]⟩)
    · intro hk
      refine Decidable.byContradiction fun hh => ?_
      have hg := getM_none.2 hh
      rw [hr k] at hg
      rcases hk with hk | hk
      · rw [mval1 (free_even h hk).2.2.1] at hg; cases hg
      · obtain ⟨g0, g1, g2⟩ := atN_mem.1 hk
        have : isAt s.is k = 2 := by simp [isAt, g0, g2]
        rw [mval2 this] at hg; cases hg)
  have := hp.length_eq
  simpa [keysM] using this

/-! ### What only looks -/
structure Look0 (K : Kont) : Prop where
  free : ∀ {w : World} {b r : Nat} {s : PS}, PoolAt w b r s → s.ok → (K.enter 32 #[pt b] w).all fun x => RowE (EInt 3) x.2 x.1 (freeL s.is) ∧ Keeps w x.2 (fun _ => False) ∧ ∀ j, blkOf x.1 = some j → w.heap.size ≤ j
  free0 : ∀ w, (K.enter 32 #[.pointer none] w).all fun x => x.1 = .slice none 0 0 ∧ Keeps w x.2 (fun _ => False)
  promised : ∀ {w : World} {b r : Nat} {s : PS}, PoolAt w b r s → (K.enter 35 #[pt b] w).all fun x => x.1 = n64 s.pr ∧ Keeps w x.2 (fun _ => False)
  promised0 : ∀ w, (K.enter 35 #[.pointer none] w).all fun x => x.1 = n64 0 ∧ Keeps w x.2 (fun _ => False)
  total : ∀ {w : World} {b r : Nat} {s : PS}, PoolAt w b r s → s.ok → (K.enter 40 #[pt b] w).all fun x => x.1 = n64 ((freeL s.is).length + (usedL s.is).length) ∧ Keeps w x.2 (fun _ => False)
  total0 : ∀ w, (K.enter 40 #[.pointer none] w).all fun x => x.1 = n64 0 ∧ Keeps w x.2 (fun _ => False)
  surplus : ∀ {w : World} {b r : Nat} {s : PS}, PoolAt w b r s → (K.enter 45 #[pt b] w).all fun x => x.1 = n64 s.su ∧ Keeps w x.2 (fun _ => False)
  surplus0 : ∀ w, (K.enter 45 #[.pointer none] w).all fun x => x.1 = n64 0 ∧ Keeps w x.2 (fun _ => False)
  may : ∀ {w : World} {b r : Nat} {s : PS}, PoolAt w b r s → s.ok → ∀ f, (K.enter 58 #[pt b, n64 f] w).all fun x => x.1 = n64 (mayA s f) ∧ x.2 = w

noncomputable abbrev KR (m : Nat) : Kont := runH Try.prog (sortH 50) m
theorem hasSort (m : Nat) : HasSort (KR (m + 1)) := ⟨fun v w => by simp [runH, sortH]⟩

theorem ask_i {K : Kont} {fuel : Nat} {w : World} {b x g : Nat} {Q : Value → World → Prop} (hg : (Try.prog.funcs[g]?).any (fun fn => fn.body.isSome && fn.name != "runtime.NumGoroutine") = true) (h : (K.enter g #[pt x] w).all fun r => Q r.1 r.2) :
    wpGFn Try.prog K fuel 56 g56 #[pt b, .func (.func g) #[] #[pt x]] w Q := by
  rw [gfn_start]
  simp -implicitDefEqProofs [g56, nil54, body g hg]
  refine valA_of h (fun v w hq => ?_)
  simp -implicitDefEqProofs
  exact hq
theorem ask_i0 {K : Kont} {fuel : Nat} {w : World} {u : Value} : wpGFn Try.prog K fuel 56 g56 #[.pointer none, u] w fun v w' => v = n64 0 ∧ w' = w := by
  rw [gfn_start]
  simp -implicitDefEqProofs [g56, nil54]
theorem ask_l {K : Kont} {fuel : Nat} {w : World} {b x g : Nat} {Q : Value → World → Prop} (hg : (Try.prog.funcs[g]?).any (fun fn => fn.body.isSome && fn.name != "runtime.NumGoroutine") = true) (h : (K.enter g #[pt x] w).all fun r => Q r.1 r.2) :
    wpGFn Try.prog K fuel 53 g53 #[pt b, .func (.func g) #[] #[pt x]] w Q := by
  rw [gfn_start]
  simp -implicitDefEqProofs [g53, nil54, body g hg]
  refine valA_of h (fun v w hq => ?_)
  simp -implicitDefEqProofs
  exact hq
theorem ask_l0 {K : Kont} {fuel : Nat} {w : World} {u : Value} : wpGFn Try.prog K fuel 53 g53 #[.pointer none, u] w fun v w' => v = .slice none 0 0 ∧ w' = w := by
  rw [gfn_start]
  simp -implicitDefEqProofs [g53, nil54]

theorem run57 {K : Kont} {fuel : Nat} {w : World} {x b r : Nat} {t : TypeId} {s : PS} (hx : cellsOf? w x = some (#[pt b], t, (0, 0))) (hp : PoolAt w b r s) : wpGFn Try.prog K fuel 57 g57 #[pt x] w fun v w' => v = n64 s.pr ∧ w' = w := by
  rw [gfn_start]
  simp -implicitDefEqProofs [g57, hx, hp.1]
theorem run67 {K : Kont} {fuel : Nat} {w : World} {x b r : Nat} {t : TypeId} {s : PS} (hx : cellsOf? w x = some (#[pt b], t, (0, 0))) (hp : PoolAt w b r s) : wpGFn Try.prog K fuel 67 g67 #[pt x] w fun v w' => v = n64 s.su ∧ w' = w := by
  rw [gfn_start]
  simp -implicitDefEqProofs [g67, hx, hp.1]
theorem run66 {K : Kont} {fuel : Nat} {w : World} {x b r : Nat} {t : TypeId} {s : PS} (hx : cellsOf? w x = some (#[pt b], t, (0, 0))) (hp : PoolAt w b r s) (hs : s.ok) : wpGFn Try.prog K fuel 66 g66 #[pt x] w fun v w' => v = n64 ((freeL s.is).length + (usedL s.is).length) ∧ w' = w := by
  rw [gfn_start]
  obtain ⟨hb, m, hm, hr⟩ := hp
  simp -implicitDefEqProofs [g66, hx, hb, len_map hm.is, rel_len hs hr hm.nodup]

/-- A call in a box. -/
theorem outer_i {m : Nat} {f g : Nat} {gf : GFn} {w : World} {b r : Nat} {s : PS} {R : Value → World → Prop} (hlow : lowG Try.prog f = some gf) (hf : f ≠ 50) (hfn : gf = ⟨6, [⟨2, none⟩], .seq (.ops [.grp none [⟨some 1, none, .box 54 (.tmp 0), []⟩, ⟨some 2, none, .move (.const (.int .i64 0)), []⟩]])
    (.seq (.ops [.grp none [⟨some 3, none, .load none (.tmp 1), []⟩, ⟨some 4, none, .fn g #[.tmp 1], []⟩, ⟨some 5, none, .call 56 #[.tmp 3, .tmp 4], []⟩, ⟨some 2, none, .move (.tmp 5), []⟩]]) .ret)⟩)
    (hg : (Try.prog.funcs[g]?).any (fun fn => fn.body.isSome && fn.name != "runtime.NumGoroutine") = true) (hp : PoolAt w b r s)
    (h : ∀ w' x, cellsOf? w' x = some (#[pt b], 54, (0, 0)) → PoolAt w' b r s → ((KR (m + 1)).enter g #[pt x] w').all fun y => R y.1 y.2 ∧ y.2 = w') :
    ((KR (m + 3)).enter f #[pt b] w).all fun x => (∃ w', R x.1 w') ∧ Keeps w x.2 (fun _ => False) := by
  refine enter_okH (m := m + 2) hlow (by simp [sortH, hf]) ?_
  rw [hfn, gfn_start]
  have hk : Keeps w (World.push w (.cells #[pt b] 54)) (fun _ => False) := Keeps.push _ _ _
  simp -implicitDefEqProofs
  refine valA_of (enter_okH (m := m + 1) (Q := fun y => (∃ w', R y.1 w') ∧ Keeps w y.2 (fun _ => False)) low56 (by simp [sortH]) (ask_i hg (T.all_mono (fun y hy => ?_) (h _ _ (by simp) (hp.keep hk (fun h => h) (fun h => h)))))) (fun v w' hq => ?_)
  · exact ⟨⟨_, hy.1⟩, by rw [hy.2]; exact hk⟩
  · simp -implicitDefEqProofs
    exact hq

theorem outer_i0 {m : Nat} {f g : Nat} {gf : GFn} {w : World} (hlow : lowG Try.prog f = some gf) (hf : f ≠ 50) (hfn : gf = ⟨6, [⟨2, none⟩], .seq (.ops [.grp none [⟨some 1, none, .box 54 (.tmp 0), []⟩, ⟨some 2, none, .move (.const (.int .i64 0)), []⟩]])
    (.seq (.ops [.grp none [⟨some 3, none, .load none (.tmp 1), []⟩, ⟨some 4, none, .fn g #[.tmp 1], []⟩, ⟨some 5, none, .call 56 #[.tmp 3, .tmp 4], []⟩, ⟨some 2, none, .move (.tmp 5), []⟩]]) .ret)⟩) :
    ((KR (m + 3)).enter f #[.pointer none] w).all fun x => x.1 = n64 0 ∧ Keeps w x.2 (fun _ => False) := by
  refine enter_okH (m := m + 2) hlow (by simp [sortH, hf]) ?_
  rw [hfn, gfn_start]
  have hk : Keeps w (World.push w (.cells #[.pointer none] 54)) (fun _ => False) := Keeps.push _ _ _
  simp -implicitDefEqProofs
  refine valA_of (enter_okH (m := m + 1) (Q := fun y => y.1 = n64 0 ∧ y.2 = World.push w (.cells #[.pointer none] 54)) low56 (by simp [sortH]) ask_i0) (fun v w' hq => ?_)
  obtain ⟨h1, h2⟩ := hq
  simp only at h1 h2
  subst h1 h2
  simp -implicitDefEqProofs
  exact hk

theorem run58 {K : Kont} {fuel : Nat} {w : World} {b r : Nat} {s : PS} (hp : PoolAt w b r s) (hs : s.ok) (f : Int) : wpGFn Try.prog K fuel 58 g58 #[pt b, n64 f] w fun v w' => v = n64 (mayA s f) ∧ w' = w := by
  rw [gfn_start]
  obtain ⟨hb, m, hm, hr⟩ := hp
  have w1 : IntKind.i64.wrap (1024 - 8) = 1016 := by rfl
  have w2 : IntKind.i64.wrap (1024 - 64) = 960 := by rfl
  have w3 : IntKind.i64.wrap (8 - 1) = 7 := by rfl
  have w4 : IntKind.i64.wrap (64 - 1) = 63 := by rfl
  have w5 : IntKind.i64.wrap 1016 = 1016 := by rfl
  have w6 : IntKind.i64.wrap 960 = 960 := by rfl
  have w7 : IntKind.i64.wrap 7 = 7 := by rfl
  have w8 : IntKind.i64.wrap 63 = 63 := by rfl
  have hl := lookup_map (w := w) (r := r) (m := m) (z := n64 0) (i := f) (ok := true) hm.is
  rw [hr f] at hl
  by_cases h1 : f < 0
  · rcases hs.ord with ho | ho <;> simp -implicitDefEqProofs [g58, nil54, hb, h1, mayA]
  · rcases hs.ord with ho | ho
    · by_cases h2 : (1016 : Int) < f
      · simp -implicitDefEqProofs [g58, nil54, hb, h1, ho, sh3, sh6, -ar_shl, w1, w3, w5, w7, h2, mayA, szO]
      · have ha := and7 f (by omega) (by omega)
        by_cases h3 : f % 8 = 0
        · rcases isAt_val hs f with h4 | h4 | h4
          · rw [mval0 h4] at hl
            simp -implicitDefEqProofs [g58, nil54, hb, h1, ho, sh3, sh6, -ar_shl, w1, w3, w5, w7, h2, ha, h3, hl, mayA, szO, h4]
          · rw [mval1 h4] at hl
            simp -implicitDefEqProofs [g58, nil54, hb, h1, ho, sh3, sh6, -ar_shl, w1, w3, w5, w7, h2, ha, h3, hl, mayA, szO, h4]
          · rw [mval2 h4] at hl
            simp -implicitDefEqProofs [g58, nil54, hb, h1, ho, sh3, sh6, -ar_shl, w1, w3, w5, w7, h2, ha, h3, hl, mayA, szO, h4]
        · simp -implicitDefEqProofs [g58, nil54, hb, h1, ho, sh3, sh6, -ar_shl, w1, w3, w5, w7, h2, ha, h3, mayA, szO]
    · by_cases h2 : (960 : Int) < f
      · simp -implicitDefEqProofs [g58, nil54, hb, h1, ho, sh3, sh6, -ar_shl, w2, w4, w6, w8, h2, mayA, szO]
      · have ha := and63 f (by omega) (by omega)
        by_cases h3 : f % 64 = 0
        · rcases isAt_val hs f with h4 | h4 | h4
          · rw [mval0 h4] at hl
            simp -implicitDefEqProofs [g58, nil54, hb, h1, ho, sh3, sh6, -ar_shl, w2, w4, w6, w8, h2, ha, h3, hl, mayA, szO, h4]
          · rw [mval1 h4] at hl
            simp -implicitDefEqProofs [g58, nil54, hb, h1, ho, sh3, sh6, -ar_shl, w2, w4, w6, w8, h2, ha, h3, hl, mayA, szO, h4]
          · rw [mval2 h4] at hl
            simp -implicitDefEqProofs [g58, nil54, hb, h1, ho, sh3, sh6, -ar_shl, w2, w4, w6, w8, h2, ha, h3, hl, mayA, szO, h4]
        · simp -implicitDefEqProofs [g58, nil54, hb, h1, ho, sh3, sh6, -ar_shl, w2, w4, w6, w8, h2, ha, h3, mayA, szO]

theorem look0 (m : Nat) (hm : 4000 ≤ m) : Look0 (KR (m + 3)) where
  free := fun {w b r s} hp hs => by
    refine enter_okH (m := m + 2) low32 (by simp [sortH]) ?_
    rw [gfn_start]
    have hk : Keeps w (World.push w (.cells #[pt b] 54)) (fun _ => False) := Keeps.push _ _ _
    have hp' := hp.keep hk (fun h => h) (fun h => h)
    simp -implicitDefEqProofs [g32]
    refine valA_of (enter_okH (m := m + 1) (Q := fun x => RowE (EInt 3) x.2 x.1 (freeL s.is) ∧ Keeps w x.2 (fun _ => False) ∧ ∀ j, blkOf x.1 = some j → w.heap.size ≤ j) low53 (by simp [sortH]) (ask_l body54 (T.all_mono (fun y hy => ?_) (enter_okH (m := m) (Q := fun x => RowE (EInt 3) x.2 x.1 (freeL s.is) ∧ Keeps (World.push w (.cells #[pt b] 54)) x.2 (fun _ => False) ∧ ∀ j, blkOf x.1 = some j → (World.push w (.cells #[pt b] 54)).heap.size ≤ j) low54 (by simp [sortH]) (run54 (fuel := m + 1) (by obtain ⟨m', rfl⟩ : ∃ m', m = m' + 1 := ⟨m - 1, by omega⟩; exact hasSort m') (by omega) (x := w.heap.size) (t := 54) (by simp) hp' hs))))) (fun v w' hq => ?_)
    · exact ⟨hy.1, hk.trans hy.2.1 (fun _ _ h => h) (fun _ _ h => h), fun j hj => by have := hy.2.2 j hj; simp at this; omega⟩
    · simp -implicitDefEqProofs
      exact hq
  free0 := fun w => by
    refine enter_okH (m := m + 2) low32 (by simp [sortH]) ?_
    rw [gfn_start]
    have hk : Keeps w (World.push w (.cells #[.pointer none] 54)) (fun _ => False) := Keeps.push _ _ _
    simp -implicitDefEqProofs [g32]
    refine valA_of (enter_okH (m := m + 1) (Q := fun y => y.1 = .slice none 0 0 ∧ y.2 = World.push w (.cells #[.pointer none] 54)) low53 (by simp [sortH]) ask_l0) (fun v w' hq => ?_)
    obtain ⟨h1, h2⟩ := hq
    simp only at h1 h2
    subst h1 h2
    simp -implicitDefEqProofs
    exact hk
  promised := fun {w b r s} hp => T.all_mono (fun x hx => ⟨hx.1.elim fun _ h => h, hx.2⟩) (outer_i (m := m) (R := fun v _ => v = n64 s.pr) low35 (by decide) rfl body57 hp (fun w' x hx hp' => enter_okH (m := m) low57 (by simp [sortH]) (run57 hx hp')))
  promised0 := fun w => outer_i0 low35 (by decide) rfl
  total := fun {w b r s} hp hs => T.all_mono (fun x hx => ⟨hx.1.elim fun _ h => h, hx.2⟩) (outer_i (m := m) (R := fun v _ => v = n64 ((freeL s.is).length + (usedL s.is).length)) low40 (by decide) rfl body66 hp (fun w' x hx hp' => enter_okH (m := m) low66 (by simp [sortH]) (run66 hx hp' hs)))
  total0 := fun w => outer_i0 low40 (by decide) rfl
  surplus := fun {w b r s} hp => T.all_mono (fun x hx => ⟨hx.1.elim fun _ h => h, hx.2⟩) (outer_i (m := m) (R := fun v _ => v = n64 s.su) low45 (by decide) rfl body67 hp (fun w' x hx hp' => enter_okH (m := m) low67 (by simp [sortH]) (run67 hx hp')))
  surplus0 := fun w => outer_i0 low45 (by decide) rfl
  may := fun hp hs f => enter_okH (m := m + 2) low58 (by simp [sortH]) (run58 hp hs f)

/-! ### What changes it -/
def Mv (b r : Nat) : Nat → Prop := fun j => j = b ∨ j = r
def PoolTo (w w' : World) (b r : Nat) (s : PS) : Prop := PoolAt w' b r s ∧ Keeps w w' (Mv b r)

theorem PoolTo.refl {w : World} {b r : Nat} {s : PS} (h : PoolAt w b r s) : PoolTo w w b r s := ⟨h, Keeps.refl _ _⟩
/-- The map is written. -/
theorem pool_put {w w' : World} {b r : Nat} {s : PS} {m : MapL} {es : Array MapEntry} {n : Nat} {f v : Int} (hp : PoolAt w b r s) (hr : RelM m (s.is.set f.toNat v)) (hk0 : Keeps w w' (fun _ => False)) (h : MapAt (World.set w' r (.map es n)) r m) : PoolTo w (World.set w' r (.map es n)) b r (setA s f v) := by
  have hk : Keeps w' (World.set w' r (.map es n)) (fun j => j = r) := Keeps.set _ _ _ (fun _ => rfl)
  have hb := (hp.keep hk0 (fun h => h) (fun h => h))
  exact ⟨⟨hk.cells hb.1 hb.ne, m, h, hr⟩, hk0.trans hk (fun _ _ h => h.elim) (fun _ _ h => .inr h)⟩
/-- A field is written. -/
theorem pool_set {w w' : World} {b r : Nat} {s s' : PS} (hp : PoolTo w w' b r s) (hi : s'.is = s.is) : PoolTo w (World.set w' b (.cells #[n64 s'.o, n64 s'.mo, .map (some r), n64 s'.pr, n64 s'.su] 99)) b r s' := by
  obtain ⟨hp, hk0⟩ := hp
  have hk : Keeps w' (World.set w' b (.cells #[n64 s'.o, n64 s'.mo, .map (some r), n64 s'.pr, n64 s'.su] 99)) (fun j => j = b) := Keeps.set _ _ _ (fun _ => rfl)
  obtain ⟨m, hm, hr⟩ := hp.2
  exact ⟨⟨by simp [hp.blt], m, hm.keep hk (Ne.symm hp.ne), by rw [hi]; exact hr⟩, hk0.trans hk (fun _ _ h => h) (fun _ _ h => .inl h)⟩

theorem run36 {K : Kont} {fuel : Nat} (hL : Look0 K) {w : World} {b r : Nat} {s : PS} (hp : PoolAt w b r s) (hs : s.ok) (f : Int) : wpGFn Try.prog K fuel 36 g36 #[pt b, n64 f] w fun v w' => v = n64 (growA s f).1 ∧ PoolTo w w' b r (growA s f).2 := by
  rw [gfn_start]
  simp -implicitDefEqProofs [g36]
  refine valA_of (hL.may hp hs f) (fun v w1 hq => ?_)
  obtain ⟨hv, hw⟩ := hq
  simp only at hv hw
  have hw := hw.symm
  subst hv hw
  obtain ⟨hb, m, hm, hr⟩ := id hp
  by_cases h0 : mayA s f = 0
  · obtain ⟨g0, g1, g2, g3⟩ := may_zero h0
    have hz := szO_cases s.o
    simp -implicitDefEqProofs [h0, hb]
    refine updateA hm (fun es n hm' => ?_)
    simp -implicitDefEqProofs [growA, h0]
    exact pool_put hp (rel_set hr g0 (by rw [hs.len]; omega)).1 (Keeps.refl _ _) hm'
  · simp -implicitDefEqProofs [h0, growA]
    exact PoolTo.refl hp

theorem run55 {K : Kont} {fuel : Nat} (hL : Look0 K) {w : World} {b r : Nat} {s : PS} (hp : PoolAt w b r s) (hs : s.ok) : wpGFn Try.prog K fuel 55 g55 #[pt b] w fun v w' => v = n64 (spareA s) ∧ Keeps w w' (fun _ => False) := by
  rw [gfn_start]
  simp -implicitDefEqProofs [g55, hp.1]
  refine valA_of (hL.free hp hs) (fun v w1 hq => ?_)
  obtain ⟨hv, hk, _⟩ := hq
  simp only at hv hk
  have hpr := hs.pr
  have hfl := free_len s.is
  have w1 : IntKind.i64.wrap (((freeL s.is).length : Int) - s.pr) = (freeL s.is).length - s.pr := by rw [IntKind.wrap_i64]; omega
  simp -implicitDefEqProofs [(hp.keep hk (fun h => h) (fun h => h)).1, hv.lenS, w1, spareA]
  exact hk

structure Look1 (K : Kont) : Prop where
  l : Look0 K
  spare : ∀ {w : World} {b r : Nat} {s : PS}, PoolAt w b r s → s.ok → (K.enter 55 #[pt b] w).all fun x => x.1 = n64 (spareA s) ∧ Keeps w x.2 (fun _ => False)

theorem last_at {l : List Int} (h : l ≠ []) : l[l.length - 1]? = some (lastL l) := by
  unfold lastL
  rw [List.getLastD_eq_getLast?, List.getLast?_eq_getElem?]
  have : l.length - 1 < l.length := by have := List.length_pos_iff.2 h; omega
  rw [List.getElem?_eq_getElem this]; rfl

theorem run33 {K : Kont} {fuel : Nat} (hL : Look1 K) {w : World} {b r : Nat} {s : PS} (hp : PoolAt w b r s) (hs : s.ok) : wpGFn Try.prog K fuel 33 g33 #[pt b] w fun v w' => v = .tuple #[n64 (shrinkA s).1.1, n64 (shrinkA s).1.2] ∧ PoolTo w w' b r (shrinkA s).2 := by
  rw [gfn_start]
  simp -implicitDefEqProofs [g33, nil54]
  refine valA_of (hL.spare hp hs) (fun v w1 hq => ?_)
  obtain ⟨hv, hk⟩ := hq
  simp only at hv hk
  subst hv
  have hp1 := hp.keep hk (fun h => h) (fun h => h)
  by_cases h0 : spareA s < 1
  · simp -implicitDefEqProofs [h0, shrinkA]
    exact ⟨hp1, hk.mono (fun _ _ h => h.elim)⟩
  · have hpr := hs.pr
    have hne : freeL s.is ≠ [] := fun e => by rw [spareA_set, e] at h0; simp at h0; omega
    have hpos := List.length_pos_iff.2 hne
    have hfl := free_len s.is
    simp -implicitDefEqProofs [h0]
    refine valA_of (hL.l.free hp1 hs) (fun v w2 hq => ?_)
    obtain ⟨hv, hk2, _⟩ := hq
    simp only at hv hk2
    have hk12 : Keeps w w2 (fun _ => False) := hk.trans hk2 (fun _ _ h => h) (fun _ _ h => h)
    obtain ⟨bb, o, cap, c, hve, hc, hsz, hat⟩ := hv.int (i := (freeL s.is).length - 1) (by omega)
    have e1 := last_at hne
    rw [List.getElem?_eq_getElem (by omega)] at e1
    simp only [Option.some.injEq] at e1
    rw [e1] at hat
    have w1 : IntKind.i64.wrap (((freeL s.is).length : Int) - 1) = (freeL s.is).length - 1 := by rw [IntKind.wrap_i64]; omega
    have w2 : (((freeL s.is).length : Int) - 1).toNat = (freeL s.is).length - 1 := by omega
    have w3 : (1 : Int) ≤ (freeL s.is).length := by omega
    have w4 : ((freeL s.is).length : Int) - 1 < (freeL s.is).length := by omega
    have hp2 := hp.keep hk12 (fun h => h) (fun h => h)
    obtain ⟨hb2, m, hm2, hr⟩ := id hp2
    obtain ⟨g0, g1, g2, g3, g4⟩ := free_even hs (last_mem hne)
    simp -implicitDefEqProofs [hv.lenS, hve, hc, hat, w1, w2, w3, w4, hb2]
    refine deleteA hm2 (fun es n hm' => ?_)
    simp -implicitDefEqProofs [shrinkA, h0]
    exact pool_put hp (rel_del hr hm2.nodup g0 (by rw [hs.len]; omega)) hk12 hm'

theorem run46 {K : Kont} {fuel : Nat} (hL : Look1 K) {w : World} {b r : Nat} {s : PS} (hp : PoolAt w b r s) (hs : s.ok) (n : Int) : wpGFn Try.prog K fuel 46 g46 #[pt b, n64 n] w fun v w' => v = n64 (promiseA s n).1 ∧ PoolTo w w' b r (promiseA s n).2 := by
  rw [gfn_start]
  by_cases h0 : n < 0
  · simp -implicitDefEqProofs [g46, nil54, h0, promiseA]
    exact PoolTo.refl hp
  · simp -implicitDefEqProofs [g46, nil54, h0]
    refine valA_of (hL.spare hp hs) (fun v w1 hq => ?_)
    obtain ⟨hv, hk⟩ := hq
    simp only at hv hk
    subst hv
    have hp1 := hp.keep hk (fun h => h) (fun h => h)
    by_cases h1 : spareA s < n
    · simp -implicitDefEqProofs [h1, h0, promiseA]
      exact ⟨hp1, hk.mono (fun _ _ h => h.elim)⟩
    · have hpr := hs.pr
      have hfl := free_len s.is
      rw [spareA_set] at h1
      have w1 : IntKind.i64.wrap (s.pr + n) = s.pr + n := by rw [IntKind.wrap_i64]; omega
      have h2 : ¬ spareA s < n := h1
      simp -implicitDefEqProofs [h2, h0, promiseA, hp1.1, w1]
      exact pool_set (s' := { s with pr := s.pr + n }) ⟨hp1, hk.mono (fun _ _ h => h.elim)⟩ rfl

theorem run47 {K : Kont} {fuel : Nat} {w : World} {b r : Nat} {s : PS} (hp : PoolAt w b r s) (hs : s.ok) (n : Int) : wpGFn Try.prog K fuel 47 g47 #[pt b, n64 n] w fun v w' => v = n64 (unpromiseA s n).1 ∧ PoolTo w w' b r (unpromiseA s n).2 := by
  rw [gfn_start]
  have hpr := hs.pr
  have hfl := free_len s.is
  by_cases h0 : n < 0
  · simp -implicitDefEqProofs [g47, nil54, h0, unpromiseA]
    exact PoolTo.refl hp
  · by_cases h1 : s.pr < n
    · simp -implicitDefEqProofs [g47, nil54, h1, h0, unpromiseA, hp.1]
      exact PoolTo.refl hp
    · have w1 : IntKind.i64.wrap (s.pr - n) = s.pr - n := by rw [IntKind.wrap_i64]; omega
      simp -implicitDefEqProofs [g47, nil54, h1, h0, unpromiseA, hp.1, w1]
      exact pool_set (s' := { s with pr := s.pr - n }) (PoolTo.refl hp) rfl

theorem run37 {K : Kont} {fuel : Nat} (hL : Look0 K) {w : World} {b r : Nat} {s : PS} (hp : PoolAt w b r s) (hs : s.ok) (f : Int) : wpGFn Try.prog K fuel 37 g37 #[pt b, n64 f] w fun v w' => v = n64 (extraA s f).1 ∧ PoolTo w w' b r (extraA s f).2 := by
  rw [gfn_start]
  simp -implicitDefEqProofs [g37]
  refine valA_of (hL.may hp hs f) (fun v w1 hq => ?_)
  obtain ⟨hv, hw⟩ := hq
  simp only at hv hw
  have hw := hw.symm
  subst hv hw
  obtain ⟨hb, m, hm, hr⟩ := id hp
  have hsu := hs.su
  have hmo := hs.mo
  by_cases h0 : mayA s f = 0
  · obtain ⟨g0, g1, g2, g3⟩ := may_zero h0
    have hz := szO_cases s.o
    by_cases h1 : s.mo ≤ s.su
    · simp -implicitDefEqProofs [h0, hb, h1, extraA]
      exact PoolTo.refl hp
    · have w1 : IntKind.i64.wrap (s.su + 1) = s.su + 1 := by rw [IntKind.wrap_i64]; omega
      simp -implicitDefEqProofs [h0, hb, h1]
      refine updateA hm (fun es n hm' => ?_)
      have hp2 := pool_put hp (rel_set hr g0 (by rw [hs.len]; omega)).2 (Keeps.refl _ _) hm'
      have hb2 : cellsOf? (World.set w r (.map es n)) b = some (#[n64 s.o, n64 s.mo, .map (some r), n64 s.pr, n64 s.su], 99, (0, 0)) := hp2.1.1
      generalize World.set w r (.map es n) = w2 at *
      simp -implicitDefEqProofs [hb2, w1, extraA, h0, h1]
      exact pool_set (s' := { setA s f 2 with su := s.su + 1 }) hp2 rfl
  · simp -implicitDefEqProofs [h0, extraA]
    exact PoolTo.refl hp

theorem run39 {K : Kont} {fuel : Nat} {w : World} {b r : Nat} {s : PS} (hp : PoolAt w b r s) (hs : s.ok) (f : Int) (yes : Bool) : wpGFn Try.prog K fuel 39 g39 #[pt b, n64 f, .bool yes] w fun v w' => v = .tuple #[.bool (giveA s f yes).1.1, n64 (giveA s f yes).1.2] ∧ PoolTo w w' b r (giveA s f yes).2 := by
  rw [gfn_start]
  obtain ⟨hb, m, hm, hr⟩ := id hp
  have hl := lookup_map (w := w) (r := r) (m := m) (z := n64 0) (i := f) (ok := true) hm.is
  rw [hr f] at hl
  have hsu := hs.su
  have hmo := hs.mo
  have hpr := hs.pr
  have hfl := free_len s.is
  rcases isAt_val hs f with h4 | h4 | h4
  · rw [mval0 h4] at hl
    simp -implicitDefEqProofs [g39, nil54, hb, hl, giveA, h4]
    exact PoolTo.refl hp
  · rw [mval1 h4] at hl
    simp -implicitDefEqProofs [g39, nil54, hb, hl, giveA, h4]
    exact PoolTo.refl hp
  · rw [mval2 h4] at hl
    obtain ⟨g0, g1, g2, g3⟩ := in_even hs (f := f) (by rw [h4]; decide)
    have del : 0 < s.su → yes = false → codeR ⟨Try.prog, K, fuel, 39, none, 61, finPost Try.prog [⟨6, none⟩, ⟨7, none⟩] fun v w' => v = .tuple #[.bool (giveA s f yes).1.1, n64 (giveA s f yes).1.2] ∧ PoolTo w w' b r (giveA s f yes).2⟩ g39.body [] (Env.of #[pt b, n64 f, .bool yes]) [] w := by
      intro h1 h2
      subst h2
      have w1 : IntKind.i64.wrap (s.su - 1) = s.su - 1 := by rw [IntKind.wrap_i64]; omega
      simp -implicitDefEqProofs [g39, nil54, hb, hl, h1]
      refine deleteA hm (fun es n hm' => ?_)
      have hp2 := pool_put hp (rel_del hr hm.nodup g0 (by rw [hs.len]; omega)) (Keeps.refl _ _) hm'
      have hb2 : cellsOf? (World.set w r (.map es n)) b = some (#[n64 s.o, n64 s.mo, .map (some r), n64 s.pr, n64 s.su], 99, (0, 0)) := hp2.1.1
      generalize World.set w r (.map es n) = w2 at *
      simp -implicitDefEqProofs [hb2, w1, giveA, h4, h1]
      exact pool_set (s' := { setA s f 0 with su := s.su - 1 }) hp2 rfl
    by_cases h1 : 0 < s.su
    · cases yes with
      | false => exact ⟨by show 3 ≤ 61; decide, del h1 rfl⟩
      | true =>
        have w1 : IntKind.i64.wrap (s.pr + 1) = s.pr + 1 := by rw [IntKind.wrap_i64]; omega
        simp -implicitDefEqProofs [g39, nil54, hb, hl, h1]
        refine updateA hm (fun es n hm' => ?_)
        have hp2 := pool_put hp (rel_set hr g0 (by rw [hs.len]; omega)).1 (Keeps.refl _ _) hm'
        have hb2 : cellsOf? (World.set w r (.map es n)) b = some (#[n64 s.o, n64 s.mo, .map (some r), n64 s.pr, n64 s.su], 99, (0, 0)) := hp2.1.1
        generalize World.set w r (.map es n) = w2 at *
        simp -implicitDefEqProofs [hb2, w1, giveA, h4, h1]
        exact pool_set (s' := { setA s f 1 with pr := s.pr + 1 }) hp2 rfl
    · cases yes with
      | false =>
        simp -implicitDefEqProofs [g39, nil54, hb, hl, h1]
        refine updateA hm (fun es n hm' => ?_)
        have hp2 := pool_put hp (rel_set hr g0 (by rw [hs.len]; omega)).1 (Keeps.refl _ _) hm'
        generalize World.set w r (.map es n) = w2 at *
        simp -implicitDefEqProofs [giveA, h4, h1]
        exact hp2
      | true =>
        have w1 : IntKind.i64.wrap (s.pr + 1) = s.pr + 1 := by rw [IntKind.wrap_i64]; omega
        simp -implicitDefEqProofs [g39, nil54, hb, hl, h1]
        refine updateA hm (fun es n hm' => ?_)
        have hp2 := pool_put hp (rel_set hr g0 (by rw [hs.len]; omega)).1 (Keeps.refl _ _) hm'
        have hb2 : cellsOf? (World.set w r (.map es n)) b = some (#[n64 s.o, n64 s.mo, .map (some r), n64 s.pr, n64 s.su], 99, (0, 0)) := hp2.1.1
        generalize World.set w r (.map es n) = w2 at *
        simp -implicitDefEqProofs [hb2, w1, giveA, h4, h1]
        exact pool_set (s' := { setA s f 1 with pr := s.pr + 1 }) hp2 rfl
end Go.Proofs.Ytkplodhjceieeaa
