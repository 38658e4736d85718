/-
  Rmap: the document's Add, Move.
-/
import Derived.Test.YtcfhhfdkecbphaaRm
namespace Go.Proofs.Ytcfhhfdkecbphaa
open Go Go.Ideal

def hasGt (x : On) (l : List On) : Bool := l.any fun y => decide (ltO x y)
theorem insO_some {x : On} : ∀ {l : List On} (m : List On), hasGt x l = true → insO x (l ++ m) = insO x l ++ m
  | [], _, h => by simp [hasGt] at h
  | y :: l, m, h => by
    simp only [List.cons_append, insO]
    split
    · rfl
    · rename_i hn
      have : hasGt x l = true := by simpa [hasGt, hn] using h
      rw [insO_some m this]; rfl
theorem insO_none {x : On} : ∀ {l : List On} (m : List On), hasGt x l = false → insO x (l ++ m) = l ++ insO x m
  | [], _, _ => rfl
  | y :: l, m, h => by
    have h2 : ¬ ltO x y ∧ hasGt x l = false := by simpa [hasGt] using h
    simp only [List.cons_append, insO, if_neg h2.1]
    rw [insO_none m h2.2]
def pre (x : On) (l : List On) : List On := if hasGt x l = true then insO x l else l
theorem hasGt_snoc (x y : On) (l : List On) : hasGt x (l ++ [y]) = (hasGt x l || decide (ltO x y)) := by simp [hasGt]
theorem pre_snoc (x y : On) (l : List On) : pre x (l ++ [y]) = if hasGt x l = true then pre x l ++ [y] else if ltO x y then pre x l ++ [x] ++ [y] else pre x l ++ [y] := by
  unfold pre
  rw [hasGt_snoc]
  by_cases h : hasGt x l = true
  · simp [h, insO_some]
  · have h' : hasGt x l = false := by simpa using h
    by_cases h2 : ltO x y
    · simp [h', h2, insO_none, insO]
    · simp [h', h2]
theorem pre_len (x : On) (l : List On) : (pre x l).length ≤ l.length + 1 := by
  unfold pre; split
  · rw [insO_len]; exact Nat.le_refl _
  · omega
theorem pre_end (x : On) (l : List On) (h : hasGt x l = false) : insO x l = pre x l ++ [x] := by
  have := insO_none (x := x) (l := l) [] h
  rw [List.append_nil] at this
  rw [this]; unfold pre; rw [h]; rfl

structure Less (K : Kont) : Prop where
  go : ∀ w a b, (K.enter 35 #[onV a, onV b] w).all fun z => z.1 = .bool (decide (ltO a b)) ∧ Keeps w z.2 (fun _ => False)

theorem run27 {K : Kont} {fuel : Nat} (hK : Less K) {w : World} {x : Nat} {L : List On} (hp : DocAt w x L) (hn : L.length ≤ 800000) (hf : 2000000 ≤ fuel) (f : Int) (s : Sp) : wpGFn Try.prog K fuel 27 g27 #[pt x, n64 f, spV s] w fun z w' => z = n64 (addA L f s).1 ∧ DTo w w' x (addA L f s).2 := by
  rw [gfn_start]
  obtain ⟨s1, s2⟩ := s
  have hkb : Keeps w (World.push w (.cells #[.int .i64 s1, .int .i64 s2] 27)) (fun _ => False) := Keeps.push _ _ _
  have bad : badA f (s1, s2) → (3 : Int) = (addA L f (s1, s2)).1 ∧ DTo w (World.push w (.cells #[.int .i64 s1, .int .i64 s2] 27)) x (addA L f (s1, s2)).2 := fun h => by
    unfold addA; rw [if_pos h]; exact ⟨rfl, hp.keep hkb, hkb.mono fun _ _ h => h.elim⟩
  by_cases c1 : f < 0
  · simp -implicitDefEqProofs [g27, c1]
    exact bad (.inl c1)
  by_cases c2 : 1023 < f
  · simp -implicitDefEqProofs [g27, c1, c2]
    exact bad (.inr (.inl (by omega)))
  have c2' : f ≤ 1023 := by omega
  by_cases c3 : s1 < 0
  · simp -implicitDefEqProofs [g27, c1, c2, c2', c3]
    exact bad (.inr (.inr (.inl c3)))
  by_cases c4 : s2 < 0
  · simp -implicitDefEqProofs [g27, c1, c2, c2', c3, c4]
    exact bad (.inr (.inr (.inr (.inl c4))))
  by_cases c5 : 4095 < s2
  · simp -implicitDefEqProofs [g27, c1, c2, c2', c3, c4, c5]
    exact bad (.inr (.inr (.inr (.inr (show (4096 : Int) ≤ s2 by omega)))))
  have c5' : s2 ≤ 4095 := by omega
  have hnb : ¬ badA f (s1, s2) := by unfold badA; simp only; omega
  simp -implicitDefEqProofs [g27, c1, c2, c2', c3, c4, c5, c5', fillS, Instr.fill]
  have hkb2 : Keeps w (World.set (World.push (World.push w (.cells #[.int .i64 s1, .int .i64 s2] 27)) (.cells #[.int .i64 0, .int .i64 0, .int .i64 0] 62)) (w.heap.size + 1) (.cells #[.int .i64 f, .int .i64 s1, .int .i64 s2] 62)) (fun _ => False) :=
    hkb.trans ((Keeps.push _ _ (fun _ => False)).trans (Keeps.set _ (w.heap.size + 1) _ (F := fun j => j = w.heap.size + 1) (fun _ => rfl)) (H := fun j => j = w.heap.size + 1) (fun _ _ h => h.elim) (fun _ _ h => h)) (fun _ _ h => h) (fun j hj h => by omega)
  have hb7 : cellsOf? (World.set (World.push (World.push w (.cells #[.int .i64 s1, .int .i64 s2] 27)) (.cells #[.int .i64 0, .int .i64 0, .int .i64 0] 62)) (w.heap.size + 1) (.cells #[.int .i64 f, .int .i64 s1, .int .i64 s2] 62)) (w.heap.size + 1) = some (#[.int .i64 f, .int .i64 s1, .int .i64 s2], 62, (0, 0)) := by simp
  generalize World.set (World.push (World.push w (.cells #[.int .i64 s1, .int .i64 s2] 27)) (.cells #[.int .i64 0, .int .i64 0, .int .i64 0] 62)) (w.heap.size + 1) (.cells #[.int .i64 f, .int .i64 s1, .int .i64 s2] 62) = w1 at *
  have hp1 := hp.keep hkb2
  clear hp bad
  have hp0 := hp1
  obtain ⟨v, hc, hv⟩ := hp1
  have hl := fun w' => hv.lenS (w' := w')
  refine loop_go (fun i ρ w' => ∃ q : Nat, i = L.length - q ∧ q ≤ L.length ∧ ρ 0 = pt x ∧ ρ 7 = pt (w.heap.size + 1) ∧ ρ 9 = .bool (hasGt (f, s1, s2) (L.take q)) ∧ ρ 10 = n64 q ∧ (f, s1, s2) ∉ L.take q ∧ Out EOn w1 w' (ρ 8) (pre (f, s1, s2) (L.take q))) ?_ (i := L.length) ?_ (by show L.length < fuel; omega)
  · rintro i ρ w' ⟨q, rfl, hq, e0, e7, e9, e10, hnm, ho⟩
    have x1 : IntKind.i64.wrap ((q : Int) + 1) = (q : Int) + 1 := by rw [IntKind.wrap_i64]; omega
    have hc' := ho.k.cells hc (fun h => h)
    have hv' := hv.keep ho.k (fun _ _ h => h)
    have hb' := ho.k.cells hb7 (fun h => h)
    have hpl := pre_len (f, s1, s2) (L.take q)
    rw [List.length_take] at hpl
    by_cases h : q < L.length
    · have h' : (q : Int) < L.length := by omega
      obtain ⟨b1, o1, p1, c1, hve, hc1, hs1, hx1, ha1, hy1⟩ := rowOn hv' h
      have hvL : v = .slice (some ⟨b1, o1, none⟩) L.length p1 := hve
      rw [hve] at hl
      rw [hve] at hc'
      have htk : L.take (q + 1) = L.take q ++ [L[q]] := List.take_succ_eq_append_getElem h
      have hmem : L[q] ∈ L := List.getElem_mem h
      generalize L[q] = lq at *
      obtain ⟨y1, y2, y3⟩ := lq
      have h62 := fun w' => row62 (y1, y2, y3) w'
      simp only at h62 hx1
      by_cases heq : y1 = f ∧ y2 = s1 ∧ y3 = s2
      · obtain ⟨rfl, rfl, rfl⟩ := heq
        have hA : addA L y1 (y2, y3) = (7, L) := by unfold addA; rw [if_neg hnb, if_pos hmem]
        simp -implicitDefEqProofs [e0, e7, e9, e10, h, h', hc', hl, hc1, hs1, hx1, hb', on_eq, hA]
        exact ⟨hp0.keep ho.k, (hkb2.trans ho.k (H := fun _ => False) (fun _ _ h => h) (fun _ _ h => h)).mono fun _ _ h => h.elim⟩
      · have hnm' : (f, s1, s2) ∉ L.take (q + 1) := by
          rw [htk]
          intro hm
          rcases List.mem_append.1 hm with hm | hm
          · exact hnm hm
          · simp only [List.mem_singleton, Prod.mk.injEq] at hm
            exact heq ⟨hm.1.symm, hm.2.1.symm, hm.2.2.symm⟩
        have hgt : hasGt (f, s1, s2) (L.take (q + 1)) = (hasGt (f, s1, s2) (L.take q) || decide (ltO (f, s1, s2) (y1, y2, y3))) := by rw [htk, hasGt_snoc]
        have hpr := pre_snoc (f, s1, s2) (y1, y2, y3) (L.take q)
        rw [← htk] at hpr
        have hkp : ∀ w', Keeps w' (World.push w' (.cells #[.int .i64 y1, .int .i64 y2, .int .i64 y3] 62)) (fun _ => False) := fun w' => Keeps.push _ _ _
        by_cases hd : hasGt (f, s1, s2) (L.take q) = true
        · rw [hd] at hgt hpr e9
          rw [if_pos rfl] at hpr
          simp -implicitDefEqProofs [e0, e7, e9, e10, h, h', hc', hl, hc1, hs1, hx1, hb', on_eq, heq, h62]
          refine (ho.keep (hkp w')).app (by_ := 24) (srcOn (r := w'.heap.size) (o := (y1, y2, y3)) (by simp)) (by simp only [List.length_cons, List.length_nil]; omega) (by decide) (fun v4 w4 ho4 => ?_)
          simp -implicitDefEqProofs [e0, e7, e9, e10, x1]
          refine ⟨L.length - (q + 1), by omega, q + 1, rfl, by omega, by rw [hgt]; rfl, by omega, hnm', ?_⟩
          rw [hpr]; exact ho4
        · have hd' : hasGt (f, s1, s2) (L.take q) = false := by simpa using hd
          rw [hd'] at hgt hpr e9
          rw [if_neg (by simp)] at hpr
          simp -implicitDefEqProofs [e0, e7, e9, e10, h, h', hc', hl, hc1, hs1, hx1, hb', on_eq, heq]
          refine valA_of (hK.go w' (f, s1, s2) (y1, y2, y3)) (fun u w3 hq3 => ?_)
          obtain ⟨hu, hk3⟩ := hq3
          simp only at hu hk3
          subst hu
          have ho3 := ho.keep hk3
          have hb3 := hk3.cells hb' (fun h => h)
          have hc3 := hk3.cells hc' (fun h => h)
          have hr3 := hk3.cells hc1 (fun h => h)
          by_cases hlt : ltO (f, s1, s2) (y1, y2, y3)
          · rw [if_pos hlt] at hpr
            have h62x := row62 (f, s1, s2) w3
            simp only at h62x
            have hkx : Keeps w3 (World.push w3 (.cells #[.int .i64 f, .int .i64 s1, .int .i64 s2] 62)) (fun _ => False) := Keeps.push _ _ _
            simp -implicitDefEqProofs [e0, e7, e9, e10, h, h', hc3, hl, hr3, hs1, hx1, hb3, hlt, h62x]
            refine (ho3.keep hkx).app (by_ := 24) (srcOn (r := w3.heap.size) (o := (f, s1, s2)) (by simp)) (by simp only [List.length_cons, List.length_nil]; omega) (by decide) (fun v4 w4 ho4 => ?_)
            have hc4 := ho4.k.cells hc (fun h => h)
            rw [hvL] at hc4
            have hr4' := rowOn (hv.keep ho4.k (fun _ _ h => h)) h
            have hr4 : cellsOf? w4 b1 = some (c1, 62, (0, 0)) := by
              obtain ⟨b2, o2, p2, c2, hve2, hc2, _⟩ := rowOn hv h
              rw [hvL] at hve2
              simp only [Value.slice.injEq, Option.some.injEq, Addr.mk.injEq, and_true, true_and] at hve2
              obtain ⟨⟨rfl, rfl⟩, rfl⟩ := hve2
              have := ho.k.cells hc2 (fun h => h)
              rw [hc1] at this
              simp only [Option.some.injEq, Prod.mk.injEq, and_true] at this
              subst this
              exact ho4.k.cells hc2 (fun h => h)
            simp -implicitDefEqProofs [e0, e7, e9, e10, h, h', hc4, hl, hr4, hs1, hx1, h62]
            refine (ho4.keep (hkp w4)).app (by_ := 24) (srcOn (r := w4.heap.size) (o := (y1, y2, y3)) (by simp)) (by simp only [List.length_cons, List.length_append, List.length_nil]; omega) (by decide) (fun v5 w5 ho5 => ?_)
            simp -implicitDefEqProofs [e0, e7, e9, e10, x1]
            refine ⟨L.length - (q + 1), by omega, q + 1, rfl, by omega, by rw [hgt]; simp [hlt], by omega, hnm', ?_⟩
            rw [hpr]; exact ho5
          · rw [if_neg hlt] at hpr
            simp -implicitDefEqProofs [e0, e7, e9, e10, h, h', hc3, hl, hr3, hs1, hx1, hb3, hlt, h62]
            refine (ho3.keep (hkp w3)).app (by_ := 24) (srcOn (r := w3.heap.size) (o := (y1, y2, y3)) (by simp)) (by simp only [List.length_cons, List.length_nil]; omega) (by decide) (fun v4 w4 ho4 => ?_)
            simp -implicitDefEqProofs [e0, e7, e9, e10, x1]
            refine ⟨L.length - (q + 1), by omega, q + 1, rfl, by omega, by rw [hgt]; simp [hlt], by omega, hnm', ?_⟩
            rw [hpr]; exact ho4
    · have hq2 : q = L.length := by omega
      subst hq2
      rw [List.take_length] at ho hnm e9 hpl
      have hA : addA L f (s1, s2) = (0, insO (f, s1, s2) L) := by unfold addA; rw [if_neg hnb, if_neg hnm]
      by_cases hd : hasGt (f, s1, s2) L = true
      · have hfin : Out EOn w1 w' (ρ 8) (insO (f, s1, s2) L) := by
          have : pre (f, s1, s2) L = insO (f, s1, s2) L := by unfold pre; rw [if_pos hd]
          rw [← this]; exact ho
        have hfin2 := (DTo.set hp0 hfin).back hkb2
        rw [hd] at e9
        simp -implicitDefEqProofs [e0, e7, e9, e10, hc', hl, ho.row.cells1, ho.row.one, hA]
        exact hfin2
      · have hd' : hasGt (f, s1, s2) L = false := by simpa using hd
        rw [hd'] at e9
        have h62x := row62 (f, s1, s2) w'
        simp only at h62x
        have hkx : Keeps w' (World.push w' (.cells #[.int .i64 f, .int .i64 s1, .int .i64 s2] 62)) (fun _ => False) := Keeps.push _ _ _
        simp -implicitDefEqProofs [e0, e7, e9, e10, hc', hl, hb', h62x]
        refine (ho.keep hkx).app (by_ := 24) (srcOn (r := w'.heap.size) (o := (f, s1, s2)) (by simp)) (by simp only [List.length_cons, List.length_nil]; omega) (by decide) (fun v4 w4 ho4 => ?_)
        rw [← pre_end _ _ hd'] at ho4
        have hfin2 := (DTo.set hp0 ho4).back hkb2
        have hc4 := ho4.k.cells hc (fun h => h)
        simp -implicitDefEqProofs [e0, e7, e9, e10, hc4, hl, ho4.row.cells1, ho4.row.one, hA]
        exact hfin2
  · exact ⟨0, by simp, Nat.zero_le _, by simp, by simp, by simp [hasGt], by simp, by simp, by simp [pre, hasGt]; exact Out.nil _ _⟩
end Go.Proofs.Ytcfhhfdkecbphaa
