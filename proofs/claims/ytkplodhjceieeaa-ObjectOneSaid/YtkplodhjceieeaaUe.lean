/-
  The program's pool: Take, New. The document's pool: what each call answers and leaves.
-/
import Derived.Test.YtkplodhjceieeaaUd
namespace Go.Proofs.Ytkplodhjceieeaa
open Go Go.Ideal

theorem head_at {l : List Int} (h : l ≠ []) : l[0]? = some (headL l) := by
  cases l with
  | nil => exact absurd rfl h
  | cons a l => rfl

theorem run34 {K : Kont} {fuel : Nat} (hL : Look1 K) {w : World} {b r : Nat} {s : PS} (hp : PoolAt w b r s) (hs : s.ok) (yes : Bool) : wpGFn Try.prog K fuel 34 g34 #[pt b, .bool yes] w fun v w' => v = .tuple #[n64 (takeA s yes).1.1, n64 (takeA s yes).1.2] ∧ PoolTo w w' b r (takeA s yes).2 := by
  rw [gfn_start]
  have hpr := hs.pr
  have hfl := free_len s.is
  have rest : ∀ {w1 : World} {ρ : Env}, Keeps w w1 (fun _ => False) → ¬ (yes = true ∧ s.pr < 1) → ¬ (yes = false ∧ spareA s < 1) → ρ 0 = pt b → ρ 1 = .bool yes →
      codeR ⟨Try.prog, K, fuel, 34, none, 45, finPost Try.prog [⟨4, none⟩, ⟨5, none⟩] fun v w' => v = .tuple #[n64 (takeA s yes).1.1, n64 (takeA s yes).1.2] ∧ PoolTo w w' b r (takeA s yes).2⟩ t34 [] ρ [] w1 := by
    intro w1 ρ hk h1 h2 e0 e1
    have hne := take_ne hs h1 h2
    have hp1 := hp.keep hk (fun h => h) (fun h => h)
    have hpos := List.length_pos_iff.2 hne
    simp -implicitDefEqProofs [t34, e0, e1]
    refine valA_of (hL.l.free hp1 hs) (fun v w2 hq => ?_)
    obtain ⟨hv, hk2, _⟩ := hq
    simp only at hv hk2
    have hk12 : Keeps w w2 (fun _ => False) := hk.trans hk2 (fun _ _ h => h) (fun _ _ h => h)
    obtain ⟨bb, o, cap, c, hve, hc, hsz, hat⟩ := hv.int (i := 0) hpos
    have e3 := head_at hne
    rw [List.getElem?_eq_getElem hpos] at e3
    simp only [Option.some.injEq] at e3
    rw [e3] at hat
    rw [Nat.add_zero] at hat
    have w3 : (0 : Int) < (freeL s.is).length := by omega
    have hp2 := hp.keep hk12 (fun h => h) (fun h => h)
    obtain ⟨hb2, m, hm2, hr⟩ := id hp2
    obtain ⟨g0, g1, g2, g3, g4⟩ := free_even hs (head_mem hne)
    simp -implicitDefEqProofs [e0, e1, hv.lenS, hve, hc, hat, w3, hpos, hb2]
    refine updateA hm2 (fun es n hm' => ?_)
    have hp3 := pool_put hp (rel_set hr g0 (by rw [hs.len]; omega)).2 hk12 hm'
    have hb3 : cellsOf? (World.set w2 r (.map es n)) b = some (#[n64 s.o, n64 s.mo, .map (some r), n64 s.pr, n64 s.su], 99, (0, 0)) := hp3.1.1
    generalize World.set w2 r (.map es n) = w4 at *
    cases yes with
    | false =>
      have h3 : ¬ spareA s < 1 := by simpa using h2
      simp -implicitDefEqProofs [e0, e1, takeA, h3]
      exact hp3
    | true =>
      have h3 : ¬ s.pr < 1 := by simpa using h1
      have w5 : IntKind.i64.wrap (s.pr - 1) = s.pr - 1 := by rw [IntKind.wrap_i64]; omega
      simp -implicitDefEqProofs [e0, e1, takeA, h3, hb3, w5]
      exact pool_set (s' := { setA s (headL (freeL s.is)) 2 with pr := s.pr - 1 }) hp3 rfl
  cases yes with
  | true =>
    by_cases h1 : s.pr < 1
    · simp -implicitDefEqProofs [g34, nil54, hp.1, h1, takeA]
      exact PoolTo.refl hp
    · simp -implicitDefEqProofs [g34, nil54, hp.1, h1]
      exact rest (Keeps.refl _ _) (by simp [h1]) (by simp) (by simp) (by simp)
  | false =>
    simp -implicitDefEqProofs [g34, nil54]
    refine valA_of (hL.spare hp hs) (fun v w1 hq => ?_)
    obtain ⟨hv, hk⟩ := hq
    simp only at hv hk
    subst hv
    by_cases h1 : spareA s < 1
    · simp -implicitDefEqProofs [h1, takeA]
      exact ⟨hp.keep hk (fun h => h) (fun h => h), hk.mono (fun _ _ h => h.elim)⟩
    · simp -implicitDefEqProofs [h1]
      exact rest hk (by simp) (by simp [h1]) (by simp) (by simp)

/-- A pool made. -/
def zeroIs : List Int := List.replicate 1024 0
theorem zero_len : zeroIs.length = 1024 := List.length_replicate
theorem zero_at (i : Nat) : zeroIs[i]? = if i < 1024 then some 0 else none := by
  unfold zeroIs
  rw [List.getElem?_replicate]
theorem zero_is (f : Int) : isAt zeroIs f = 0 := by
  unfold isAt
  split
  · rw [zero_at]; split <;> rfl
  · rfl
def newA (o mo : Int) : PS := ⟨o, mo, zeroIs, 0, 0⟩
theorem new_at (v : Int) (hv : v ≠ 0) (n : Nat) : atN zeroIs v n = [] := by
  induction n with
  | zero => rfl
  | succ n ih =>
    simp only [atN]
    rw [if_neg, ih]
    intro h
    rw [zero_at] at h
    split at h
    · simp at h; exact hv h.symm
    · cases h
theorem new_ok {o mo : Int} (ho : o = 3 ∨ o = 6) (h : 0 ≤ mo ∧ mo ≤ 64) : (newA o mo).ok :=
  ⟨zero_len, ho, fun x hx => .inl (List.eq_of_mem_replicate (show x ∈ List.replicate 1024 0 from hx)), fun i hi hne => absurd ((zero_at i).trans (if_pos hi)) hne, ⟨Int.le_refl _, by simp [newA, freeL, new_at]⟩, ⟨Int.le_refl _, h.1⟩, h.2⟩

def badNew (o mo : Int) : Prop := (o ≠ 3 ∧ o ≠ 6) ∨ mo < 0 ∨ 64 < mo

theorem run41 {K : Kont} {fuel : Nat} {w : World} (o mo : Int) : wpGFn Try.prog K fuel 41 g41 #[n64 o, n64 mo] w fun v w' => (badNew o mo ∧ v = .tuple #[.pointer none, n64 2] ∧ w' = w) ∨ (¬ badNew o mo ∧ ∃ b r, v = .tuple #[pt b, n64 0] ∧ PoolAt w' b r (newA o mo) ∧ Keeps w w' (fun _ => False) ∧ w.heap.size ≤ b ∧ w.heap.size ≤ r) := by
  rw [gfn_start]
  have good : ¬ badNew o mo → (o = 3 ∨ o = 6) ∧ ¬ mo < 0 ∧ ¬ 64 < mo := by
    intro h
    unfold badNew at h
    omega
  by_cases hb : badNew o mo
  · have h := hb
    unfold badNew at h
    by_cases h1 : o = 3
    · subst h1
      by_cases h2 : mo < 0
      · simp -implicitDefEqProofs [g41, h2, hb]
      · have h3 : 64 < mo := by omega
        simp -implicitDefEqProofs [g41, h2, h3, hb]
    · by_cases h4 : o = 6
      · subst h4
        by_cases h2 : mo < 0
        · simp -implicitDefEqProofs [g41, h2, hb]
        · have h3 : 64 < mo := by omega
          simp -implicitDefEqProofs [g41, h2, h3, hb]
      · simp -implicitDefEqProofs [g41, h1, h4, hb]
  · obtain ⟨ho, h2, h3⟩ := good hb
    have fin : ∃ r, PoolAt (World.push (World.push w (.map #[] 0)) (.cells #[n64 o, n64 mo, .map (some w.heap.size), n64 0, n64 0] 99)) (w.heap.size + 1) r (newA o mo) ∧ Keeps w (World.push (World.push w (.map #[] 0)) (.cells #[n64 o, n64 mo, .map (some w.heap.size), n64 0, n64 0] 99)) (fun _ => False) ∧ w.heap.size ≤ r := by
      refine ⟨w.heap.size, ⟨by simp [newA], [], ?_, fun f => ?_⟩, (Keeps.push _ _ _).trans (Keeps.push _ _ _) (fun _ _ h => h) (fun _ _ h => h), by omega⟩
      · exact (MapAt.push w).keep (Keeps.push _ _ (fun _ => False)) (fun h => h)
      · have : isAt (newA o mo).is f = 0 := zero_is f
        rw [mval0 this]; rfl
    rcases ho with rfl | rfl
    · simp -implicitDefEqProofs [g41, h2, h3, hb, fillS, Instr.fill]
      exact fin
    · simp -implicitDefEqProofs [g41, h2, h3, hb, fillS, Instr.fill]
      exact fin

/-! ### The document's pool -/
def rowV (is : List Int) : Array Value := (is.map (Value.int .i64)).toArray
def RefAt (w : World) (x y : Nat) (s : PS) : Prop := cellsOf? w x = some (#[n64 s.o, n64 s.mo, .slice (some ⟨y, 0, none⟩) 1024 1024, n64 s.pr, n64 s.su], 75, (0, 0)) ∧ cellsOf? w y = some (rowV s.is, 3, (0, 0))
def RefTo (w w' : World) (x y : Nat) (s : PS) : Prop := RefAt w' x y s ∧ Keeps w w' (Mv x y)

theorem RefAt.keep {w w' : World} {F : Nat → Prop} {x y : Nat} {s : PS} (h : RefAt w x y s) (hk : Keeps w w' F) (hx : ¬ F x) (hy : ¬ F y) : RefAt w' x y s := ⟨hk.cells h.1 hx, hk.cells h.2 hy⟩
theorem RefAt.xlt {w : World} {x y : Nat} {s : PS} (h : RefAt w x y s) : x < w.heap.size := cells_lt h.1
theorem RefAt.ylt {w : World} {x y : Nat} {s : PS} (h : RefAt w x y s) : y < w.heap.size := cells_lt h.2
theorem RefAt.ne {w : World} {x y : Nat} {s : PS} (h : RefAt w x y s) : x ≠ y := by
  intro e; subst e
  have := h.1
  rw [h.2] at this
  simp at this
theorem RefTo.refl {w : World} {x y : Nat} {s : PS} (h : RefAt w x y s) : RefTo w w x y s := ⟨h, Keeps.refl _ _⟩

theorem rowV_at {s : PS} (h : s.ok) {f : Int} (h0 : 0 ≤ f) (h1 : f < 1024) : (rowV s.is)[f.toNat]? = some (n64 (isAt s.is f)) := by
  unfold rowV
  simp only [List.getElem?_toArray, List.getElem?_map, isAt_some h0 (show f < s.is.length by rw [h.len]; omega), Option.map_some]
theorem rowV_size {s : PS} (h : s.ok) : (rowV s.is).size = 1024 := by simp [rowV, h.len]
theorem rowV_set (is : List Int) (i : Nat) (v : Int) : (rowV is).setIfInBounds i (n64 v) = rowV (is.set i v) := by
  unfold rowV
  simp [List.map_set]

theorem ref_set {w w' : World} {x y : Nat} {s s' : PS} (hp : RefTo w w' x y s) (hi : s'.is = s.is) : RefTo w (World.set w' x (.cells #[n64 s'.o, n64 s'.mo, .slice (some ⟨y, 0, none⟩) 1024 1024, n64 s'.pr, n64 s'.su] 75)) x y s' := by
  obtain ⟨hp, hk0⟩ := hp
  have hk : Keeps w' (World.set w' x (.cells #[n64 s'.o, n64 s'.mo, .slice (some ⟨y, 0, none⟩) 1024 1024, n64 s'.pr, n64 s'.su] 75)) (fun j => j = x) := Keeps.set _ _ _ (fun _ => rfl)
  exact ⟨⟨by simp [hp.xlt], by rw [hi]; exact hk.cells hp.2 (Ne.symm hp.ne)⟩, hk0.trans hk (fun _ _ h => h) (fun _ _ h => .inl h)⟩
theorem ref_put {w w' : World} {x y : Nat} {s : PS} (hp : RefAt w x y s) (hk0 : Keeps w w' (fun _ => False)) (f v : Int) : RefTo w (World.set w' y (.cells (rowV (s.is.set f.toNat v)) 3)) x y (setA s f v) := by
  have hp' := hp.keep hk0 (fun h => h) (fun h => h)
  have hk : Keeps w' (World.set w' y (.cells (rowV (s.is.set f.toNat v)) 3)) (fun j => j = y) := Keeps.set _ _ _ (fun _ => rfl)
  exact ⟨⟨hk.cells hp'.1 hp'.ne, by simp [hp'.ylt, setA]⟩, hk0.trans hk (fun _ _ h => h.elim) (fun _ _ h => .inr h)⟩

theorem some3 : (Try.prog.info? 3).isSome = true := by kernel_rfl
theorem info3 : ∃ i, Try.prog.info? 3 = some i ∧ i.zero = some (n64 0) ∧ i.size = 1 ∧ i.bytes ≤ 1000 := ⟨(Try.prog.info? 3).get some3, by simp, by kernel_rfl, by kernel_rfl, of_decide_eq_true (by kernel_rfl)⟩

theorem run42 {K : Kont} {fuel : Nat} {w : World} (o mo : Int) : wpGFn Try.prog K fuel 42 g42 #[n64 o, n64 mo] w fun v w' => (badNew o mo ∧ v = .tuple #[.pointer none, n64 2] ∧ w' = w) ∨ (¬ badNew o mo ∧ ∃ b r, v = .tuple #[pt b, n64 0] ∧ RefAt w' b r (newA o mo) ∧ Keeps w w' (fun _ => False) ∧ w.heap.size ≤ b ∧ w.heap.size ≤ r) := by
  rw [gfn_start]
  have good : ¬ badNew o mo → (o = 3 ∨ o = 6) ∧ ¬ mo < 0 ∧ ¬ 64 < mo := by
    intro h
    unfold badNew at h
    omega
  by_cases hb : badNew o mo
  · have h := hb
    unfold badNew at h
    by_cases h1 : o = 3
    · subst h1
      by_cases h2 : mo < 0
      · simp -implicitDefEqProofs [g42, h2, hb]
      · have h3 : 64 < mo := by omega
        simp -implicitDefEqProofs [g42, h2, h3, hb]
    · by_cases h4 : o = 6
      · subst h4
        by_cases h2 : mo < 0
        · simp -implicitDefEqProofs [g42, h2, hb]
        · have h3 : 64 < mo := by omega
          simp -implicitDefEqProofs [g42, h2, h3, hb]
      · simp -implicitDefEqProofs [g42, h1, h4, hb]
  · obtain ⟨ho, h2, h3⟩ := good hb
    obtain ⟨i, i1, i2, i3, i4⟩ := info3
    have fin : ∃ r, RefAt (World.push (World.push w (.cells (Array.replicate 1024 (n64 0)) 3)) (.cells #[n64 o, n64 mo, .slice (some ⟨w.heap.size, 0, none⟩) 1024 1024, n64 0, n64 0] 75)) (w.heap.size + 1) r (newA o mo) ∧ Keeps w (World.push (World.push w (.cells (Array.replicate 1024 (n64 0)) 3)) (.cells #[n64 o, n64 mo, .slice (some ⟨w.heap.size, 0, none⟩) 1024 1024, n64 0, n64 0] 75)) (fun _ => False) ∧ w.heap.size ≤ r := by
      refine ⟨w.heap.size, ⟨by simp [newA], ?_⟩, (Keeps.push _ _ _).trans (Keeps.push _ _ _) (fun _ _ h => h) (fun _ _ h => h), Nat.le_refl _⟩
      have : Array.replicate 1024 (n64 0) = rowV zeroIs := by
        unfold rowV zeroIs
        rw [List.map_replicate]
        exact (List.toArray_replicate _ _).symm
      simp only [cells_push, size_push, newA, if_true]
      rw [if_neg (by omega), this]
    have mk : ∀ (X : Cx) (ρ : Env) (d : Option Nat) (re : List SR) (m : List SG) (l : List GI) (k : List FI) (hP : X.P = Try.prog), againA X re m l k (ρ.put d (.slice (some ⟨w.heap.size, 0, none⟩) 1024 1024)) [] (World.push w (.cells (Array.replicate 1024 (n64 0)) 3)) →
        valA X d re m l k (sone X.P X.K (ev ρ) w (.raw (.makeSlice 22 (.const (.int .i64 1024)) (.const (.int .i64 1024))) 22)) ρ [] := by
      intro X ρ d re m l k hP h
      rw [hP]
      exact make_go (n := 1024) (e := 3) (by kernel_rfl) i1 i2 rfl i3 rfl (by decide) (by decide) i4 h
    rcases ho with rfl | rfl
    · simp -implicitDefEqProofs [g42, h2, h3, hb]
      refine mk _ _ _ _ _ _ _ rfl ?_
      simp -implicitDefEqProofs [fillS, Instr.fill, hb]
      exact fin
    · simp -implicitDefEqProofs [g42, h2, h3, hb]
      refine mk _ _ _ _ _ _ _ rfl ?_
      simp -implicitDefEqProofs [fillS, Instr.fill, hb]
      exact fin

theorem run43 {K : Kont} {fuel : Nat} (hf : 4000 ≤ fuel) {w : World} {x y : Nat} {s : PS} (hp : RefAt w x y s) (hs : s.ok) : wpGFn Try.prog K fuel 43 g43 #[pt x] w fun v w' => RowE (EInt 3) w' v (freeL s.is) ∧ Keeps w w' (fun _ => False) ∧ ∀ j, blkOf v = some j → w.heap.size ≤ j := by
  rw [gfn_start]
  simp -implicitDefEqProofs [g43]
  refine loop_go (fun i ρ w' => ∃ (n : Nat) (v : Value), i = 1024 - n ∧ n ≤ 1024 ∧ ρ 0 = pt x ∧ ρ 3 = v ∧ ρ 4 = n64 n ∧ RowE (EInt 3) w' v (atN s.is 1 n) ∧ Keeps w w' (fun _ => False) ∧ ∀ j, blkOf v = some j → w.heap.size ≤ j) ?_ (i := 1024) ?_ (by show 1024 < fuel; omega)
  · rintro i ρ w' ⟨n, v, rfl, hn, e0, e3, e4, hv, hk, hvb⟩
    subst e3
    have hp' := hp.keep hk (fun h => h) (fun h => h)
    have w1 : IntKind.i64.wrap ((n : Int) + 1) = (n : Int) + 1 := by rw [IntKind.wrap_i64]; omega
    by_cases hlt : n < 1024
    · have h2 : (n : Int) < 1024 := by omega
      have hat := rowV_at hs (f := n) (by omega) h2
      rw [Int.toNat_natCast] at hat
      have hsz := rowV_size hs
      have hnx : atN s.is 1 (n + 1) = if isAt s.is n = 1 then atN s.is 1 n ++ [(n : Int)] else atN s.is 1 n := by
        simp only [atN]
        have := isAt_some (is := s.is) (f := n) (by omega) (by rw [hs.len]; omega)
        rw [Int.toNat_natCast] at this
        rw [this]
        simp
      by_cases h1 : isAt s.is n = 1
      · rw [if_pos h1] at hnx
        simp -implicitDefEqProofs [e0, e4, h2, hp'.1, hp'.2, hat, h1, row1]
        have hll := atN_len s.is 1 n
        have hkp : Keeps w' (World.push w' (.cells #[.int .i64 (n : Int)] 3)) (fun _ => False) := Keeps.push _ _ _
        refine appE (E := EInt 3) (by_ := 8) (hv.keep hkp (fun _ _ h => h)) (src_int (c := 3) (n := n) (by simp)) (by simp; omega) (by decide) (fun v4 w4 hr4 hk4 _ hb4 => ?_)
        have hk24 := hkp.trans hk4 (H := fun j => blkOf (ρ 3) = some j) (fun _ _ h => h.elim) (fun _ _ h => h)
        simp -implicitDefEqProofs [e0, e4, w1]
        refine ⟨1024 - (n + 1), by omega, n + 1, rfl, hlt, by omega, by rw [hnx]; exact hr4, hk.trans hk24 (fun _ _ h => h) (fun j hj h => by have := hvb j h; omega), fun j hj => ?_⟩
        rw [hb4 (by simp)] at hj
        simp at hj
        have := hk.1
        omega
      · rw [if_neg h1] at hnx
        simp -implicitDefEqProofs [e0, e4, h2, hp'.1, hp'.2, hat, h1, w1]
        exact ⟨1024 - (n + 1), by omega, n + 1, rfl, hlt, by omega, by rw [hnx]; exact hv, hk, hvb⟩
    · have : n = 1024 := by omega
      subst this
      simp -implicitDefEqProofs [e0, e4]
      exact ⟨hv, hk, hvb⟩
  · exact ⟨0, .slice none 0 0, rfl, Nat.zero_le _, by simp, by simp, by simp, RowE.nil _, Keeps.refl _ _, fun j hj => by cases hj⟩

theorem run44 {K : Kont} {fuel : Nat} (hf : 4000 ≤ fuel) {w : World} {x y : Nat} {s : PS} (hp : RefAt w x y s) (hs : s.ok) (u : Int) : wpGFn Try.prog K fuel 44 g44 #[pt x, n64 u] w fun v w' => v = n64 (atN s.is u 1024).length ∧ w' = w := by
  rw [gfn_start]
  simp -implicitDefEqProofs [g44]
  refine loop_go (fun i ρ w' => ∃ (n : Nat), i = 1024 - n ∧ n ≤ 1024 ∧ ρ 0 = pt x ∧ ρ 1 = n64 u ∧ ρ 5 = n64 (atN s.is u n).length ∧ ρ 6 = n64 n ∧ w' = w) ?_ (i := 1024) ?_ (by show 1024 < fuel; omega)
  · rintro i ρ w' ⟨n, rfl, hn, e0, e1, e5, e6, rfl⟩
    have w1 : IntKind.i64.wrap ((n : Int) + 1) = (n : Int) + 1 := by rw [IntKind.wrap_i64]; omega
    by_cases hlt : n < 1024
    · have h2 : (n : Int) < 1024 := by omega
      have hat := rowV_at hs (f := n) (by omega) h2
      rw [Int.toNat_natCast] at hat
      have hnx : atN s.is u (n + 1) = if isAt s.is n = u then atN s.is u n ++ [(n : Int)] else atN s.is u n := by
        simp only [atN]
        have := isAt_some (is := s.is) (f := n) (by omega) (by rw [hs.len]; omega)
        rw [Int.toNat_natCast] at this
        rw [this]
        simp
      have hll := atN_len s.is u n
      have w2 : IntKind.i64.wrap (((atN s.is u n).length : Int) + 1) = ((atN s.is u n).length : Int) + 1 := by rw [IntKind.wrap_i64]; omega
      by_cases h1 : isAt s.is n = u
      · rw [if_pos h1] at hnx
        simp -implicitDefEqProofs [e0, e1, e5, e6, h2, hp.1, hp.2, hat, h1, w1, w2]
        exact ⟨1024 - (n + 1), by omega, n + 1, rfl, hlt, by rw [hnx]; simp, by omega⟩
      · rw [if_neg h1] at hnx
        simp -implicitDefEqProofs [e0, e1, e5, e6, h2, hp.1, hp.2, hat, h1, w1, w2]
        exact ⟨1024 - (n + 1), by omega, n + 1, rfl, hlt, by rw [hnx], by omega⟩
    · have : n = 1024 := by omega
      subst this
      simp -implicitDefEqProofs [e0, e1, e5, e6]
  · exact ⟨0, rfl, Nat.zero_le _, by simp, by simp, by simp [atN], by simp, rfl⟩
end Go.Proofs.Ytkplodhjceieeaa
