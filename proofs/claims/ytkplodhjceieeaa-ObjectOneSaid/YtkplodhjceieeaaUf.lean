/-
  The document's pool: what each call answers and leaves; all calls of both together.
-/
import Derived.Test.YtkplodhjceieeaaUe
namespace Go.Proofs.Ytkplodhjceieeaa
open Go Go.Ideal

theorem run89 {K : Kont} {fuel : Nat} {w : World} {o : Int} (ho : o = 3 ∨ o = 6) : wpGFn Try.prog K fuel 89 g89 #[n64 o] w fun v w' => v = n64 (szO o) ∧ w' = w := by
  rw [gfn_start]
  rcases ho with rfl | rfl <;> simp -implicitDefEqProofs [g89, szO]

structure Ref0 (K : Kont) : Prop where
  size : ∀ {w : World} {o : Int}, (o = 3 ∨ o = 6) → (K.enter 89 #[n64 o] w).all fun x => x.1 = n64 (szO o) ∧ x.2 = w
  free : ∀ {w : World} {x y : Nat} {s : PS}, RefAt w x y s → s.ok → (K.enter 43 #[pt x] w).all fun z => RowE (EInt 3) z.2 z.1 (freeL s.is) ∧ Keeps w z.2 (fun _ => False) ∧ ∀ j, blkOf z.1 = some j → w.heap.size ≤ j
  count : ∀ {w : World} {x y : Nat} {s : PS}, RefAt w x y s → s.ok → ∀ u, (K.enter 44 #[pt x, n64 u] w).all fun z => z.1 = n64 (atN s.is u 1024).length ∧ z.2 = w

theorem ref0 (m : Nat) (hm : 4000 ≤ m) : Ref0 (KR (m + 1)) where
  size := fun ho => enter_okH (m := m) low89 (by simp [sortH]) (run89 ho)
  free := fun hp hs => enter_okH (m := m) low43 (by simp [sortH]) (run43 (by omega) hp hs)
  count := fun hp hs u => enter_okH (m := m) low44 (by simp [sortH]) (run44 (by omega) hp hs u)

theorem run75 {K : Kont} {fuel : Nat} (hR : Ref0 K) {w : World} {x y : Nat} {s : PS} (hp : RefAt w x y s) (hs : s.ok) (f : Int) : wpGFn Try.prog K fuel 75 g75 #[pt x, n64 f] w fun v w' => v = n64 (mayA s f) ∧ w' = w := by
  rw [gfn_start]
  simp -implicitDefEqProofs [g75, hp.1]
  refine valA_of (hR.size hs.ord) (fun v w1 hq => ?_)
  obtain ⟨hv, hw⟩ := hq
  simp only at hv hw
  have hw := hw.symm
  subst hv hw
  have hz := szO_cases s.o
  have w1 : IntKind.i64.wrap (1024 - szO s.o) = 1024 - szO s.o := by rw [IntKind.wrap_i64]; omega
  have hz0 : ¬ szO s.o = 0 := by omega
  by_cases h1 : f < 0
  · simp -implicitDefEqProofs [h1, mayA]
  · by_cases h2 : 1024 - szO s.o < f
    · simp -implicitDefEqProofs [h1, w1, h2, mayA]
    · have ht : f.tmod (szO s.o) = f % szO s.o := Int.tmod_eq_emod_of_nonneg (by omega)
      by_cases h3 : f % szO s.o = 0
      · have hat := rowV_at hs (f := f) (by omega) (by omega)
        have h5 : (0 : Int) ≤ f := by omega
        have h6 : f < 1024 := by omega
        by_cases h4 : isAt s.is f = 0
        · simp -implicitDefEqProofs [h1, w1, h2, hz0, ht, h3, hp.1, hp.2, hat, h4, h5, h6, mayA]
        · simp -implicitDefEqProofs [h1, w1, h2, hz0, ht, h3, hp.1, hp.2, hat, h4, h5, h6, mayA]
      · simp -implicitDefEqProofs [h1, w1, h2, hz0, ht, h3, mayA]

structure Ref1 (K : Kont) : Prop where
  r : Ref0 K
  may : ∀ {w : World} {x y : Nat} {s : PS}, RefAt w x y s → s.ok → ∀ f, (K.enter 75 #[pt x, n64 f] w).all fun z => z.1 = n64 (mayA s f) ∧ z.2 = w

theorem ref1 (m : Nat) (hm : 4000 ≤ m) : Ref1 (KR (m + 2)) where
  r := ref0 (m + 1) (by omega)
  may := fun hp hs f => enter_okH (m := m + 1) low75 (by simp [sortH]) (run75 (ref0 m hm) hp hs f)

theorem run59 {K : Kont} {fuel : Nat} (hR : Ref1 K) {w : World} {x y : Nat} {s : PS} (hp : RefAt w x y s) (hs : s.ok) (f : Int) : wpGFn Try.prog K fuel 59 g59 #[pt x, n64 f] w fun v w' => v = n64 (growA s f).1 ∧ RefTo w w' x y (growA s f).2 := by
  rw [gfn_start]
  simp -implicitDefEqProofs [g59]
  refine valA_of (hR.may hp hs f) (fun v w1 hq => ?_)
  obtain ⟨hv, hw⟩ := hq
  simp only at hv hw
  have hw := hw.symm
  subst hv hw
  by_cases h0 : mayA s f = 0
  · obtain ⟨g0, g1, g2, g3⟩ := may_zero h0
    have hz := szO_cases s.o
    have h6 : f < 1024 := by omega
    have h7 : f.toNat < 1024 := by omega
    have h8 : f ≤ 1023 := by omega
    have hsz := rowV_size hs
    simp -implicitDefEqProofs [h0, hp.1, hp.2, g0, h6, h7, h8, hsz, growA, rowV_set]
    exact ref_put hp (Keeps.refl _ _) f 1
  · simp -implicitDefEqProofs [h0, growA]
    exact RefTo.refl hp

theorem run60 {K : Kont} {fuel : Nat} (hR : Ref1 K) {w : World} {x y : Nat} {s : PS} (hp : RefAt w x y s) (hs : s.ok) : wpGFn Try.prog K fuel 60 g60 #[pt x] w fun v w' => v = .tuple #[n64 (shrinkA s).1.1, n64 (shrinkA s).1.2] ∧ RefTo w w' x y (shrinkA s).2 := by
  rw [gfn_start]
  simp -implicitDefEqProofs [g60]
  refine valA_of (hR.r.free hp hs) (fun v w1 hq => ?_)
  obtain ⟨hv, hk, _⟩ := hq
  simp only at hv hk
  have hp1 := hp.keep hk (fun h => h) (fun h => h)
  have hpr := hs.pr
  have hfl := free_len s.is
  by_cases h0 : spareA s < 1
  · have h1 : ((freeL s.is).length : Int) ≤ s.pr := by rw [spareA_set] at h0; omega
    simp -implicitDefEqProofs [hv.lenS, hp1.1, h1, h0, shrinkA]
    exact ⟨hp1, hk.mono (fun _ _ h => h.elim)⟩
  · have h1 : ¬ ((freeL s.is).length : Int) ≤ s.pr := by rw [spareA_set] at h0; omega
    have hne : freeL s.is ≠ [] := fun e => by rw [spareA_set, e] at h0; simp at h0; omega
    have hpos := List.length_pos_iff.2 hne
    obtain ⟨bb, o, cap, c, hve, hc, hsz, hat⟩ := hv.int (i := (freeL s.is).length - 1) (by omega)
    have e1 := last_at hne
    rw [List.getElem?_eq_getElem (by omega)] at e1
    simp only [Option.some.injEq] at e1
    rw [e1] at hat
    have w1 : IntKind.i64.wrap (((freeL s.is).length : Int) - 1) = (freeL s.is).length - 1 := by rw [IntKind.wrap_i64]; omega
    have w2 : (((freeL s.is).length : Int) - 1).toNat = (freeL s.is).length - 1 := by omega
    have w3 : (1 : Int) ≤ (freeL s.is).length := by omega
    have w4 : ((freeL s.is).length : Int) - 1 < (freeL s.is).length := by omega
    obtain ⟨g0, g1, g2, g3, g4⟩ := free_even hs (last_mem hne)
    have h7 : (lastL (freeL s.is)).toNat < 1024 := by omega
    have h8 : lastL (freeL s.is) ≤ 1023 := by omega
    have hrs := rowV_size hs
    simp -implicitDefEqProofs [hv.lenS, hp1.1, hp1.2, h1, h0, hve, hc, hat, w1, w2, w3, w4, g0, g1, h7, h8, hrs, shrinkA, rowV_set]
    exact ref_put hp hk _ 0

theorem run61 {K : Kont} {fuel : Nat} (hR : Ref1 K) {w : World} {x y : Nat} {s : PS} (hp : RefAt w x y s) (hs : s.ok) (n : Int) : wpGFn Try.prog K fuel 61 g61 #[pt x, n64 n] w fun v w' => v = n64 (promiseA s n).1 ∧ RefTo w w' x y (promiseA s n).2 := by
  rw [gfn_start]
  have hpr := hs.pr
  have hfl := free_len s.is
  by_cases h0 : n < 0
  · simp -implicitDefEqProofs [g61, h0, promiseA]
    exact RefTo.refl hp
  · simp -implicitDefEqProofs [g61, h0, hp.1]
    refine valA_of (hR.r.free hp hs) (fun v w1 hq => ?_)
    obtain ⟨hv, hk, _⟩ := hq
    simp only at hv hk
    have hp1 := hp.keep hk (fun h => h) (fun h => h)
    have w1 : IntKind.i64.wrap (((freeL s.is).length : Int) - s.pr) = (freeL s.is).length - s.pr := by rw [IntKind.wrap_i64]; omega
    by_cases h1 : spareA s < n
    · have h2 : ((freeL s.is).length : Int) - s.pr < n := h1
      simp -implicitDefEqProofs [hv.lenS, hp1.1, w1, h2, h1, h0, promiseA]
      exact ⟨hp1, hk.mono (fun _ _ h => h.elim)⟩
    · have h2 : ¬ ((freeL s.is).length : Int) - s.pr < n := h1
      have w2 : IntKind.i64.wrap (s.pr + n) = s.pr + n := by rw [IntKind.wrap_i64]; omega
      simp -implicitDefEqProofs [hv.lenS, hp1.1, w1, w2, h2, h1, h0, promiseA]
      exact ref_set (s' := { s with pr := s.pr + n }) ⟨hp1, hk.mono (fun _ _ h => h.elim)⟩ rfl

theorem run62 {K : Kont} {fuel : Nat} {w : World} {x y : Nat} {s : PS} (hp : RefAt w x y s) (hs : s.ok) (n : Int) : wpGFn Try.prog K fuel 62 g62 #[pt x, n64 n] w fun v w' => v = n64 (unpromiseA s n).1 ∧ RefTo w w' x y (unpromiseA s n).2 := by
  rw [gfn_start]
  have hpr := hs.pr
  have hfl := free_len s.is
  by_cases h0 : n < 0
  · simp -implicitDefEqProofs [g62, h0, unpromiseA]
    exact RefTo.refl hp
  · by_cases h1 : s.pr < n
    · simp -implicitDefEqProofs [g62, h1, h0, unpromiseA, hp.1]
      exact RefTo.refl hp
    · have w1 : IntKind.i64.wrap (s.pr - n) = s.pr - n := by rw [IntKind.wrap_i64]; omega
      simp -implicitDefEqProofs [g62, h1, h0, unpromiseA, hp.1, w1]
      exact ref_set (s' := { s with pr := s.pr - n }) (RefTo.refl hp) rfl

theorem run63 {K : Kont} {fuel : Nat} (hR : Ref1 K) {w : World} {x y : Nat} {s : PS} (hp : RefAt w x y s) (hs : s.ok) (yes : Bool) : wpGFn Try.prog K fuel 63 g63 #[pt x, .bool yes] w fun v w' => v = .tuple #[n64 (takeA s yes).1.1, n64 (takeA s yes).1.2] ∧ RefTo w w' x y (takeA s yes).2 := by
  rw [gfn_start]
  have hpr := hs.pr
  have hfl := free_len s.is
  simp -implicitDefEqProofs [g63]
  refine valA_of (hR.r.free hp hs) (fun v w1 hq => ?_)
  obtain ⟨hv, hk, hvb⟩ := hq
  simp only at hv hk hvb
  have hp1 := hp.keep hk (fun h => h) (fun h => h)
  have facts : ¬ (yes = true ∧ s.pr < 1) → ¬ (yes = false ∧ spareA s < 1) → ∃ bb o cap c, v = .slice (some ⟨bb, o, none⟩) (freeL s.is).length cap ∧ cellsOf? w1 bb = some (c, 3, (0, 0)) ∧ c[o]? = some (n64 (headL (freeL s.is))) ∧ 0 < (freeL s.is).length ∧ (0 ≤ headL (freeL s.is) ∧ headL (freeL s.is) < 1024) ∧ bb ≠ y ∧ bb ≠ x := by
    intro h1 h2
    have hne := take_ne hs h1 h2
    have hpos := List.length_pos_iff.2 hne
    obtain ⟨bb, o, cap, c, hve, hc, hsz, hat⟩ := hv.int (i := 0) hpos
    have e3 := head_at hne
    rw [List.getElem?_eq_getElem hpos] at e3
    simp only [Option.some.injEq] at e3
    rw [e3, Nat.add_zero] at hat
    obtain ⟨g0, g1, _⟩ := free_even hs (head_mem hne)
    have := hvb bb (by rw [hve]; rfl)
    have := hp.ylt
    have := hp.xlt
    exact ⟨bb, o, cap, c, hve, hc, hat, hpos, ⟨g0, g1⟩, by omega, by omega⟩
  have hrs := rowV_size hs
  have hlx := hp1.xlt
  have hly := hp1.ylt
  have hxy := hp1.ne
  cases yes with
  | true =>
    by_cases h1 : s.pr < 1
    · have h2 : s.pr = 0 := by omega
      simp -implicitDefEqProofs [hp1.1, h2, takeA]
      exact ⟨hp1, hk.mono (fun _ _ h => h.elim)⟩
    · have h2 : ¬ s.pr = 0 := by omega
      obtain ⟨bb, o, cap, c, hve, hc, hat, hpos, ⟨g0, g1⟩, n1, n2⟩ := facts (by simp [h1]) (by simp)
      have h7 : (headL (freeL s.is)).toNat < 1024 := by omega
      have h8 : headL (freeL s.is) ≤ 1023 := by omega
      have w5 : IntKind.i64.wrap (s.pr - 1) = s.pr - 1 := by rw [IntKind.wrap_i64]; omega
      have hpt := ref_put hp hk (headL (freeL s.is)) 2
      have hc3 : cellsOf? (World.set w1 y (.cells (rowV (s.is.set (headL (freeL s.is)).toNat 2)) 3)) bb = some (c, 3, (0, 0)) := by simp [n1, hc]
      have hx3 := hpt.1.1
      simp only [setA] at hx3
      have hst := ref_set (s' := { setA s (headL (freeL s.is)) 2 with pr := s.pr - 1 }) hpt rfl
      simp -implicitDefEqProofs [hp1.1, hp1.2, h2, hve, hc, hat, hpos, g0, g1, h7, h8, hrs, rowV_set, -cells_set]
      generalize World.set w1 y (.cells (rowV (s.is.set (headL (freeL s.is)).toNat 2)) 3) = w4 at *
      simp -implicitDefEqProofs [hx3, w5, hc3, hat, n2, takeA, h1, hpos]
      exact hst
  | false =>
    by_cases h1 : spareA s < 1
    · have h2 : ((freeL s.is).length : Int) ≤ s.pr := by rw [spareA_set] at h1; omega
      simp -implicitDefEqProofs [hp1.1, hv.lenS, h2, h1, takeA]
      exact ⟨hp1, hk.mono (fun _ _ h => h.elim)⟩
    · have h2 : ¬ ((freeL s.is).length : Int) ≤ s.pr := by rw [spareA_set] at h1; omega
      obtain ⟨bb, o, cap, c, hve, hc, hat, hpos, ⟨g0, g1⟩, n1, n2⟩ := facts (by simp) (by simp [h1])
      have h7 : (headL (freeL s.is)).toNat < 1024 := by omega
      have h8 : headL (freeL s.is) ≤ 1023 := by omega
      have hpt := ref_put hp hk (headL (freeL s.is)) 2
      have hc3 : cellsOf? (World.set w1 y (.cells (rowV (s.is.set (headL (freeL s.is)).toNat 2)) 3)) bb = some (c, 3, (0, 0)) := by simp [n1, hc]
      simp -implicitDefEqProofs [hp1.1, hp1.2, hv.lenS, h2, hve, hc, hat, hpos, g0, g1, h7, h8, hrs, rowV_set, -cells_set]
      generalize World.set w1 y (.cells (rowV (s.is.set (headL (freeL s.is)).toNat 2)) 3) = w4 at *
      simp -implicitDefEqProofs [hc3, hat, takeA, h1, hpos]
      exact hpt

theorem run64 {K : Kont} {fuel : Nat} (hR : Ref1 K) {w : World} {x y : Nat} {s : PS} (hp : RefAt w x y s) (hs : s.ok) (f : Int) : wpGFn Try.prog K fuel 64 g64 #[pt x, n64 f] w fun v w' => v = n64 (extraA s f).1 ∧ RefTo w w' x y (extraA s f).2 := by
  rw [gfn_start]
  simp -implicitDefEqProofs [g64]
  refine valA_of (hR.may hp hs f) (fun v w1 hq => ?_)
  obtain ⟨hv, hw⟩ := hq
  simp only at hv hw
  have hw := hw.symm
  subst hv hw
  have hsu := hs.su
  have hmo := hs.mo
  by_cases h0 : mayA s f = 0
  · obtain ⟨g0, g1, g2, g3⟩ := may_zero h0
    have hz := szO_cases s.o
    have h6 : f < 1024 := by omega
    have h7 : f.toNat < 1024 := by omega
    have h8 : f ≤ 1023 := by omega
    have hsz := rowV_size hs
    by_cases h1 : s.mo ≤ s.su
    · simp -implicitDefEqProofs [h0, hp.1, h1, extraA]
      exact RefTo.refl hp
    · have w1 : IntKind.i64.wrap (s.su + 1) = s.su + 1 := by rw [IntKind.wrap_i64]; omega
      have hpt := ref_put hp (Keeps.refl _ _) f 2
      have hx3 := hpt.1.1
      simp only [setA] at hx3
      have hst := ref_set (s' := { setA s f 2 with su := s.su + 1 }) hpt rfl
      simp -implicitDefEqProofs [h0, hp.1, hp.2, g0, h6, h7, h8, hsz, h1, rowV_set, -cells_set]
      generalize World.set w y (.cells (rowV (s.is.set f.toNat 2)) 3) = w4 at *
      simp -implicitDefEqProofs [hx3, w1, extraA, h0, h1]
      exact hst
  · simp -implicitDefEqProofs [h0, extraA]
    exact RefTo.refl hp

theorem run65 {K : Kont} {fuel : Nat} {w : World} {x y : Nat} {s : PS} (hp : RefAt w x y s) (hs : s.ok) (f : Int) (yes : Bool) : wpGFn Try.prog K fuel 65 g65 #[pt x, n64 f, .bool yes] w fun v w' => v = .tuple #[.bool (giveA s f yes).1.1, n64 (giveA s f yes).1.2] ∧ RefTo w w' x y (giveA s f yes).2 := by
  rw [gfn_start]
  have hsu := hs.su
  have hmo := hs.mo
  have hpr := hs.pr
  have hfl := free_len s.is
  have out : (f < 0 ∨ 1023 < f) → isAt s.is f = 0 := by
    intro h
    unfold isAt
    split
    · rw [List.getElem?_eq_none (by rw [hs.len]; omega)]; rfl
    · rfl
  by_cases h1 : f < 0
  · have h4 := out (.inl h1)
    simp -implicitDefEqProofs [g65, h1, giveA, h4]
    exact RefTo.refl hp
  · by_cases h2 : 1023 < f
    · have h4 := out (.inr h2)
      simp -implicitDefEqProofs [g65, h1, h2, giveA, h4]
      exact RefTo.refl hp
    · have h0 : (0 : Int) ≤ f := by omega
      have h6 : f < 1024 := by omega
      have h7 : f.toNat < 1024 := by omega
      have h8 : f ≤ 1023 := by omega
      have hat := rowV_at hs h0 h6
      have hsz := rowV_size hs
      have hget : ∀ h, (rowV s.is)[f.toNat]'h = n64 (isAt s.is f) := fun _ => (Array.getElem?_eq_some_iff.1 hat).2
      by_cases h4 : isAt s.is f = 2
      · have go : ∀ v : Int, RefTo w (World.set w y (.cells (rowV (s.is.set f.toNat v)) 3)) x y (setA s f v) := fun v => ref_put hp (Keeps.refl _ _) f v
        by_cases h3 : 0 < s.su
        · cases yes with
          | false =>
            have w1 : IntKind.i64.wrap (s.su - 1) = s.su - 1 := by rw [IntKind.wrap_i64]; omega
            have hpt := go 0
            have hx3 := hpt.1.1
            simp only [setA] at hx3
            have hst := ref_set (s' := { setA s f 0 with su := s.su - 1 }) hpt rfl
            simp -implicitDefEqProofs [g65, h1, h2, hp.1, hp.2, hat, hget, h4, h3, h0, h6, h7, h8, hsz, rowV_set, -cells_set]
            generalize World.set w y (.cells (rowV (s.is.set f.toNat 0)) 3) = w4 at *
            simp -implicitDefEqProofs [hx3, w1, giveA, h4, h3]
            exact hst
          | true =>
            have w1 : IntKind.i64.wrap (s.pr + 1) = s.pr + 1 := by rw [IntKind.wrap_i64]; omega
            have hpt := go 1
            have hx3 := hpt.1.1
            simp only [setA] at hx3
            have hst := ref_set (s' := { setA s f 1 with pr := s.pr + 1 }) hpt rfl
            simp -implicitDefEqProofs [g65, h1, h2, hp.1, hp.2, hat, hget, h4, h3, h0, h6, h7, h8, hsz, rowV_set, -cells_set]
            generalize World.set w y (.cells (rowV (s.is.set f.toNat 1)) 3) = w4 at *
            simp -implicitDefEqProofs [hx3, w1, giveA, h4, h3]
            exact hst
        · cases yes with
          | false =>
            have hpt := go 1
            simp -implicitDefEqProofs [g65, h1, h2, hp.1, hp.2, hat, hget, h4, h3, h0, h6, h7, h8, hsz, rowV_set, -cells_set, giveA]
            exact hpt
          | true =>
            have w1 : IntKind.i64.wrap (s.pr + 1) = s.pr + 1 := by rw [IntKind.wrap_i64]; omega
            have hpt := go 1
            have hx3 := hpt.1.1
            simp only [setA] at hx3
            have hst := ref_set (s' := { setA s f 1 with pr := s.pr + 1 }) hpt rfl
            simp -implicitDefEqProofs [g65, h1, h2, hp.1, hp.2, hat, hget, h4, h3, h0, h6, h7, h8, hsz, rowV_set, -cells_set]
            generalize World.set w y (.cells (rowV (s.is.set f.toNat 1)) 3) = w4 at *
            simp -implicitDefEqProofs [hx3, w1, giveA, h4, h3]
            exact hst
      · simp -implicitDefEqProofs [g65, h1, h2, hp.1, hp.2, hat, hget, h4, h0, h6, giveA]
        exact RefTo.refl hp
end Go.Proofs.Ytkplodhjceieeaa
