/-
  PoolEnds, PoolShrinks, PoolNone: the ideal walks.
-/
import Derived.Test.YtkplodhjceieeaaUi
namespace Go.Proofs.Ytkplodhjceieeaa
open Go Go.Ideal

/-- One place less. -/
theorem free_less {s : PS} (h : s.ok) {f v : Int} (hf : f ∈ freeL s.is) (hv : v ≠ 1) : freeL (s.is.set f.toNat v) = (freeL s.is).filter fun x => decide (x ≠ f) := by
  obtain ⟨g0, g1, _⟩ := free_even h hf
  refine at_eq (by rw [List.length_set]; exact h.len) ((atN_sorted s.is 1 1024).filter _) fun x => ?_
  rw [List.mem_filter, isAt_set s.is f v x g0 (by rw [h.len]; omega), decide_eq_true_eq]
  constructor
  · rintro ⟨h1, h2⟩
    obtain ⟨e0, e1, e2, _⟩ := free_even h h1
    rw [if_neg h2]
    exact ⟨⟨e0, e1⟩, e2⟩
  · rintro ⟨⟨h1, h2⟩, h3⟩
    by_cases hx : x = f
    · rw [if_pos hx] at h3; exact absurd h3 hv
    · rw [if_neg hx] at h3
      exact ⟨free_mem.2 ⟨h1, by omega, by rw [isAt_some h1 (by rw [h.len]; omega), h3]⟩, hx⟩

theorem filter_last : ∀ {l : List Int}, l.Pairwise (· < ·) → l ≠ [] → (l.filter fun x => decide (x ≠ lastL l)) = l.take (l.length - 1) := by
  intro l hs hne
  obtain ⟨t, a, rfl⟩ : ∃ t a, l = t ++ [a] := ⟨l.dropLast, l.getLast hne, (List.dropLast_concat_getLast hne).symm⟩
  have hl : lastL (t ++ [a]) = a := by simp [lastL]
  rw [List.pairwise_append] at hs
  rw [hl, List.filter_append, List.length_append, List.length_singleton, Nat.add_sub_cancel, List.take_left]
  have h1 : (t.filter fun x => decide (x ≠ a)) = t := by
    rw [List.filter_eq_self]
    intro x hx
    have := hs.2.2 x hx a (by simp)
    simp; omega
  rw [h1]
  simp
theorem filter_head : ∀ {l : List Int}, l.Pairwise (· < ·) → l ≠ [] → (l.filter fun x => decide (x ≠ headL l)) = l.drop 1 := by
  intro l hs hne
  cases l with
  | nil => exact absurd rfl hne
  | cons a t =>
    rw [List.pairwise_cons] at hs
    have hh : headL (a :: t) = a := rfl
    rw [hh, List.filter_cons, if_neg (by simp), List.drop_succ_cons, List.drop_zero, List.filter_eq_self]
    intro x hx
    have := hs.1 x hx
    rw [decide_eq_true_eq]
    omega

theorem run8 {K : Kont} {fuel : Nat} (hT : Top K) {w : World} {v : Value} {yes : Bool} {xs : List ActP} (hv : ActsAt w v xs) : wpGFn Try.prog K fuel 8 g8 #[v, .bool yes] w fun u _ => u = .bool true := by
  rw [gfn_start]
  simp -implicitDefEqProofs [g8]
  refine valA_of (hT.made hv) (fun u w1 hq => ?_)
  obtain ⟨b, r, x, y, hu, hB, hk1, hb, hr, hx, hy⟩ := hq
  simp only at hu hB hk1
  subst hu
  have hok : (runS (newA 3 2) (xs.take 60)).ok := run_ok _ (new_ok (.inl rfl) (by omega))
  generalize runS (newA 3 2) (xs.take 60) = s at *
  simp -implicitDefEqProofs [nil54]
  refine valA_of (hT.awake _) (fun u w2 hq => ?_)
  obtain ⟨hu, hk2⟩ := hq
  simp only at hu hk2
  subst hu
  have hp2 := (hB.keep hk2).p
  simp -implicitDefEqProofs
  refine valA_of (hT.a.l.l.free hp2 hok) (fun vf w3 hq => ?_)
  obtain ⟨hr3, hk3, hb3⟩ := hq
  simp only at hr3 hk3 hb3
  have hp3 := hp2.keep hk3 (fun h => h) (fun h => h)
  have hfl := free_len s.is
  have hnb : ∀ j, blkOf vf = some j → ¬ Mv b r j := fun j hj h => by
    have := hb3 j hj
    have := hp2.blt
    have := hp2.rlt
    rcases h with h | h <;> omega
  -- behind the shrink
  have rest : ∀ {w4 : World} {ρ : Env} {vv : Value} {s1 : PS}, PoolAt w4 b r s1 → s1.ok → ρ 1 = .bool yes → ρ 5 = pt b → ρ 7 = vv → SrcE (EInt 3) w4 vv (freeL s1.is) → (∀ j, blkOf vv = some j → ¬ Mv b r j) →
      (∀ w', Keeps w4 w' (Mv b r) → freeL s1.is ≠ [] → ∃ vt, sliceS 3 1 vv (some (n64 1)) none none w' = .ret (vt, w') ∧ SrcE (EInt 3) w' vt ((freeL s1.is).drop 1) ) →
      codeR ⟨Try.prog, K, fuel, 8, none, 64, finPost Try.prog [⟨4, none⟩] fun u _ => u = .bool true⟩ t8 [] ρ [] w4 := by
    intro w4 ρ vv s1 hp4 hok1 e1 e5 e7 hs4 hnv htail
    simp -implicitDefEqProofs [t8, e1, e5]
    refine valA_of (hT.a.take hp4 hok1 yes) (fun u w5 hq => ?_)
    obtain ⟨hu, hp5, hk5⟩ := hq
    simp only at hu hp5 hk5
    subst hu
    have hok2 := take_ok hok1 yes
    have hs5 := hs4.keep hk5 hnv
    have fin : ∀ {w6 : World} {ρ : Env} {vz : Value} {l : List Int}, PoolAt w6 b r (takeA s1 yes).2 → ρ 5 = pt b → ρ 7 = vz → SrcE (EInt 3) w6 vz l → l = freeL (takeA s1 yes).2.is →
        codeR ⟨Try.prog, K, fuel, 8, none, 64, finPost Try.prog [⟨4, none⟩] fun u _ => u = .bool true⟩ t8f [] ρ [] w6 := by
      intro w6 ρ vz l hp6 e5 e7 hs6 hl
      simp -implicitDefEqProofs [t8f, e5, e7]
      refine valA_of (hT.a.l.l.free hp6 hok2) (fun u w7 hq => ?_)
      obtain ⟨hr7, hk7, _⟩ := hq
      simp only at hr7 hk7
      simp -implicitDefEqProofs [e7]
      refine valA_of (hT.num (hs6.keep hk7 (fun _ _ h => h)) hr7.src (by rw [hl]; have := free_len (takeA s1 yes).2.is; omega)) (fun u w8 hq => ?_)
      obtain ⟨hu, _⟩ := hq
      simp only at hu
      subst hu
      simp -implicitDefEqProofs [hl]
    by_cases h1 : yes = true ∧ s1.pr < 1
    · have ht : takeA s1 yes = ((0, 3), s1) := by unfold takeA; rw [if_pos h1]
      simp -implicitDefEqProofs [ht]
      refine fin hp5 ?_ ?_ hs5 (by rw [ht]) <;> simp [e5, e7]
    · by_cases h2 : yes = false ∧ spareA s1 < 1
      · have ht : takeA s1 yes = ((0, 9), s1) := by unfold takeA; rw [if_neg h1, if_pos h2]
        simp -implicitDefEqProofs [ht]
        refine fin hp5 ?_ ?_ hs5 (by rw [ht]) <;> simp [e5, e7]
      · have hne := take_ne hok1 h1 h2
        have ht : takeA s1 yes = ((headL (freeL s1.is), 0), { setA s1 (headL (freeL s1.is)) 2 with pr := if yes then s1.pr - 1 else s1.pr }) := by unfold takeA; rw [if_neg h1, if_neg h2]
        have hpos := List.length_pos_iff.2 hne
        obtain ⟨bb, o, cap, c, e, fz, hve, hc, hsz, _, hat⟩ := hs5.at hpos
        have hat := hat 0 Nat.one_pos
        have e3 := head_at hne
        rw [List.getElem?_eq_getElem hpos] at e3
        simp only [Option.some.injEq] at e3
        simp only [EInt, Nat.mul_one, Nat.add_zero, List.getElem?_cons_zero, e3] at hat
        obtain ⟨vt, hslice, hst⟩ := htail w5 hk5 hne
        have w3 : (0 : Int) < (freeL s1.is).length := by omega
        rw [hve] at e7 hslice
        simp -implicitDefEqProofs [ht, e7, hc, hat, w3, hpos, hslice]
        refine fin hp5 ?_ ?_ hst ?_
        · simp [e5]
        · simp
        rw [ht]
        have := free_less hok1 (v := 2) (head_mem hne) (by decide)
        simp only [setA]
        rw [this, filter_head (show (freeL s1.is).Pairwise _ from atN_sorted _ _ _) hne]
  simp -implicitDefEqProofs
  refine valA_of (hT.a.shrink hp3 hok) (fun u w4 hq => ?_)
  obtain ⟨hu, hp4, hk4⟩ := hq
  simp only at hu hp4 hk4
  subst hu
  have hr4 := hr3.keep hk4 hnb
  by_cases h0 : spareA s < 1
  · have hsh : shrinkA s = ((0, 12), s) := by unfold shrinkA; rw [if_pos h0]
    rw [hsh] at hp4
    simp -implicitDefEqProofs [hsh]
    refine rest hp4 hok (by simp) (by simp) (by simp) hr4.src hnb (fun w' hk' hne => ?_)
    have hr5 := hr4.keep hk' hnb
    have hpos := List.length_pos_iff.2 hne
    exact ⟨_, tail_eq (E := EInt 3) (k := .i64) (i := 1) hr5 hpos (by omega) rfl, (tail_row hr5 hpos).1.src⟩
  · have hpr := hok.pr
    have hne : freeL s.is ≠ [] := fun e => by rw [spareA_set, e] at h0; simp at h0; omega
    have hsh : shrinkA s = ((lastL (freeL s.is), 0), setA s (lastL (freeL s.is)) 0) := by unfold shrinkA; rw [if_neg h0]
    have hok1 := shrink_ok hok
    rw [hsh] at hp4 hok1
    have hpos := List.length_pos_iff.2 hne
    obtain ⟨bb, o, cap, c, hve, hc, hsz, hat⟩ := hr4.int (i := (freeL s.is).length - 1) (by omega)
    have e1 := last_at hne
    rw [List.getElem?_eq_getElem (by omega)] at e1
    simp only [Option.some.injEq] at e1
    rw [e1] at hat
    have w1 : IntKind.i64.wrap (((freeL s.is).length : Int) - 1) = (freeL s.is).length - 1 := by rw [IntKind.wrap_i64]; omega
    have w2 : (((freeL s.is).length : Int) - 1).toNat = (freeL s.is).length - 1 := by omega
    have w3 : (1 : Int) ≤ (freeL s.is).length := by omega
    have w4 : ((freeL s.is).length : Int) - 1 < (freeL s.is).length := by omega
    have hle : (freeL s.is).length - 1 ≤ (freeL s.is).length := by omega
    have hhead := head_eq (E := EInt 3) (k := .i64) (i := (freeL s.is).length - 1) (n := (freeL s.is).length - 1) hr4 hle (by omega) (by omega)
    obtain ⟨hhs, hhb⟩ := head_src hr4 hle
    have hfree : freeL (setA s (lastL (freeL s.is)) 0).is = (freeL s.is).take ((freeL s.is).length - 1) := by
      simp only [setA]
      rw [free_less hok (last_mem hne) (by decide), filter_last (show (freeL s.is).Pairwise _ from atN_sorted _ _ _) hne]
    have hhv := hhead
    rw [hve] at hhv
    simp -implicitDefEqProofs [hsh, hr4.lenS, w1]
    simp -implicitDefEqProofs [hve, hc, hat, w1, w2, w3, w4]
    change sliceS 3 1 _ _ _ _ _ = _ at hhv
    simp -implicitDefEqProofs [hhv]
    refine rest hp4 hok1 (by simp) (by simp) rfl (by rw [hfree, ← hve]; simpa using hhs) (fun j hj => ?_) (fun w' hk' hne' => ?_)
    · simp [headV] at hj
      exact hnb j (by rw [hve]; simp [hj])
    · have hr5 := hr4.keep hk' hnb
      have h1 : 1 ≤ (freeL s.is).length - 1 := by
        rw [hfree] at hne'
        have := List.length_pos_iff.2 hne'
        rw [List.length_take] at this
        omega
      obtain ⟨vt, hs1, hs2⟩ := head_tail (E := EInt 3) (k := .i64) hr5 hle h1 (by omega)
      rw [hfree]
      have hb : ∀ j, blkOf vt = some j → True := fun _ _ => trivial
      rw [hve] at hs1
      exact ⟨vt, by simp only [headV] at hs1; exact hs1, by simpa using hs2⟩
end Go.Proofs.Ytkplodhjceieeaa
