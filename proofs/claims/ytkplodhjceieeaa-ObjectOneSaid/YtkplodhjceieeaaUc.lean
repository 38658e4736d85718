/-
  The program's pool: its free pages, told.
-/
import Derived.Test.YtkplodhjceieeaaUa
import Derived.Test.YtkplodhjceieeaaUb
namespace Go.Proofs.Ytkplodhjceieeaa
open Go Go.Ideal

theorem nil54 {o1 o2 : Operand} {p : Option Addr} {w : World} : binS Try.prog .eql 54 o1 o2 (.pointer p) (.pointer none) w = .ret (.bool p.isNone, w) := nilEq (by kernel_rfl) (by kernel_rfl)
theorem under83 : Try.prog.underlying 83 = some (.map 3 3) := by kernel_rfl
theorem body (f : Nat) (h : (Try.prog.funcs[f]?).any (fun fn => fn.body.isSome && fn.name != "runtime.NumGoroutine") = true) (K : Kont) (args cap : Array Value) (w : World) : callV Try.prog K (.func (.func f) #[] cap) args w = K.enter f (args ++ cap) w := by
  unfold callV
  simp only [h, and_self, Array.size_empty, if_true]
theorem body54 : (Try.prog.funcs[54]?).any (fun fn => fn.body.isSome && fn.name != "runtime.NumGoroutine") = true := by kernel_rfl
theorem body57 : (Try.prog.funcs[57]?).any (fun fn => fn.body.isSome && fn.name != "runtime.NumGoroutine") = true := by kernel_rfl
theorem body66 : (Try.prog.funcs[66]?).any (fun fn => fn.body.isSome && fn.name != "runtime.NumGoroutine") = true := by kernel_rfl
theorem body67 : (Try.prog.funcs[67]?).any (fun fn => fn.body.isSome && fn.name != "runtime.NumGoroutine") = true := by kernel_rfl

/-- A sort of a row of numbers. -/
theorem sort_row {te : TypeId} {w : World} {v : Value} {xs : List Int} (h : RowE (EInt te) w v xs) (hl : xs.length ≤ 1000000) :
    (sortS #[v] w).all fun x => x.1 = .tuple #[] ∧ RowE (EInt te) x.2 v (sorted xs) ∧ Keeps w x.2 (fun j => blkOf v = some j) := by
  have hO : OPEN = 4611686018427387904 := rfl
  rcases h with ⟨rfl, rfl⟩ | ⟨b, o, cap, c, rfl, hc, h1, ⟨rfl, rfl⟩ | ⟨h2, h3⟩⟩
  · simp only [sortS, if_true]
    exact ⟨rfl, .inl ⟨rfl, by simp [sorted]⟩, Keeps.refl _ _⟩
  · simp only [sortS, List.length_nil, if_true]
    exact ⟨rfl, .inr ⟨b, o, 0, c, by simp [sorted], hc, h1, .inl ⟨by simp [sorted], rfl⟩⟩, Keeps.refl _ _⟩
  · have hsz := RowE.size h1 h2
    have hfl : ∀ l : List Int, flat (EInt te) l = l.map (Value.int .i64) := by
      intro l
      induction l with
      | nil => rfl
      | cons a l ih => simp only [flat, ih, List.map_cons]; rfl
    simp only [EInt, Nat.mul_one] at hsz
    by_cases h0 : xs.length = 0
    · have hx : xs = [] := List.length_eq_zero_iff.1 h0
      subst hx
      simp only [sortS, List.length_nil, if_true]
      refine ⟨rfl, .inr ⟨b, o, cap, c, by simp [sorted], hc, h1, .inr ⟨by simpa [sorted] using h2, by simpa [sorted] using h3⟩⟩, Keeps.refl _ _⟩
    · simp only [sortS, if_neg h0, hc]
      rw [if_pos ⟨by omega, by omega⟩]
      have hints : intsOf (c.extract o (o + xs.length)).toList = some xs := by
        rw [Array.toList_extract, List.extract_eq_take_drop, h2, hfl, show o + xs.length - o = (xs.map (Value.int .i64)).length by simp, List.take_length, intsOf_map]
      simp only [hints]
      have hlen : ((sorted xs).map (Value.int .i64)).length = xs.length := by simp [sorted_len]
      have hl := putCells_list ((sorted xs).map (Value.int .i64)) c o (by rw [hlen]; omega)
      refine ⟨rfl, .inr ⟨b, o, cap, _, by rw [sorted_len], by simp [cells_lt hc]; rfl, by rw [putCells_size]; exact h1, .inr ⟨?_, ?_⟩⟩, Keeps.set _ _ _ (fun _ => rfl)⟩
      · rw [hl, hlen, hfl]
        have h4 : c.toList.drop (o + xs.length) = [] := List.drop_eq_nil_of_le (by simp; omega)
        have h5 : (c.toList.take o).length = o := by rw [List.length_take, Array.length_toList]; omega
        rw [h4, List.append_nil, List.drop_append_of_le_length (by omega), List.drop_of_length_le (by omega), List.nil_append]
      · rw [sorted_len]; exact h3

/-- What the program's map says. -/
def mval (is : List Int) (f : Int) : Option Value := if isAt is f = 1 then some (n64 1) else if isAt is f = 2 then some (n64 0) else none
def RelM (m : MapL) (is : List Int) : Prop := ∀ f, getM m f = mval is f

def PoolAt (w : World) (b r : Nat) (s : PS) : Prop := cellsOf? w b = some (#[n64 s.o, n64 s.mo, .map (some r), n64 s.pr, n64 s.su], 99, (0, 0)) ∧ ∃ m, MapAt w r m ∧ RelM m s.is

theorem PoolAt.keep {w w' : World} {F : Nat → Prop} {b r : Nat} {s : PS} (h : PoolAt w b r s) (hk : Keeps w w' F) (hb : ¬ F b) (hr : ¬ F r) : PoolAt w' b r s := by
  obtain ⟨h1, m, h2, h3⟩ := h
  exact ⟨hk.cells h1 hb, m, h2.keep hk hr, h3⟩
theorem PoolAt.blt {w : World} {b r : Nat} {s : PS} (h : PoolAt w b r s) : b < w.heap.size := cells_lt h.1
theorem PoolAt.rlt {w : World} {b r : Nat} {s : PS} (h : PoolAt w b r s) : r < w.heap.size := by obtain ⟨_, m, h, _⟩ := h; exact h.lt
theorem PoolAt.ne {w : World} {b r : Nat} {s : PS} (h : PoolAt w b r s) : b ≠ r := by
  obtain ⟨h1, m, h2, _⟩ := h
  intro e; subst e
  rw [h2.nocells] at h1; cases h1

theorem len_sub : ∀ {l m : List Int}, l.Nodup → (∀ x ∈ l, x ∈ m) → l.length ≤ m.length
  | [], _, _, _ => Nat.zero_le _
  | a :: l, m, hn, hs => by
    have ham : a ∈ m := hs a (by simp)
    have h1 := len_sub (l := l) (m := m.erase a) (List.nodup_cons.1 hn).2 (fun x hx => by
      have hxa : x ≠ a := fun e => by subst e; exact (List.nodup_cons.1 hn).1 hx
      exact (List.mem_erase_of_ne hxa).2 (hs x (by simp [hx])))
    rw [List.length_erase_of_mem ham] at h1
    have := List.length_pos_of_mem ham
    simp only [List.length_cons]
    omega

theorem rel_free {m : MapL} {is : List Int} (hm : RelM m is) {k : Int} : (k ∈ keysM m ∧ getM m k = some (n64 1)) ↔ (0 ≤ k ∧ is[k.toNat]? = some 1) := by
  constructor
  · rintro ⟨_, h⟩
    rw [hm k] at h
    unfold mval at h
    split at h
    · rename_i h1
      unfold isAt at h1
      by_cases h0 : 0 ≤ k
      · rw [if_pos h0] at h1
        refine ⟨h0, ?_⟩
        cases hk : is[k.toNat]? with
        | none => rw [hk] at h1; cases h1
        | some x => rw [hk] at h1; simp at h1; rw [h1]
      · rw [if_neg h0] at h1; cases h1
    · split at h <;> simp at h
  · rintro ⟨h0, h1⟩
    have : getM m k = some (n64 1) := by rw [hm k]; simp [mval, isAt, h0, h1]
    refine ⟨?_, this⟩
    exact Decidable.byContradiction fun hh => by rw [getM_none.2 hh] at this; cases this

structure HasSort (K : Kont) : Prop where
  go : ∀ v w, K.enter 50 #[v] w = sortS #[v] w

theorem run54 {K : Kont} {fuel : Nat} (hS : HasSort K) (hf : 4000 ≤ fuel) {w : World} {x b r : Nat} {t : TypeId} {s : PS} (hx : cellsOf? w x = some (#[pt b], t, (0, 0))) (hp : PoolAt w b r s) (hs : s.ok) :
    wpGFn Try.prog K fuel 54 g54 #[pt x] w fun v w' => RowE (EInt 3) w' v (freeL s.is) ∧ Keeps w w' (fun _ => False) ∧ ∀ j, blkOf v = some j → w.heap.size ≤ j := by
  rw [gfn_start]
  obtain ⟨hb, m, hm, hrel⟩ := id hp
  simp -implicitDefEqProofs [g54, hx, hb]
  refine mrange_go (m := m) (r := r) under83 (by simp) rfl hm (fun o hit hno hk1 => ?_)
  simp -implicitDefEqProofs
  generalize hw1 : World.push w o = w1 at *
  have hml : m.length ≤ 2048 := by
    have h1 : (keysM m).length ≤ (freeL s.is ++ usedL s.is).length := len_sub hm.nodup (fun k hk => by
      have hg : getM m k ≠ none := fun e => (getM_none.1 e) hk
      rw [hrel k] at hg
      unfold mval at hg
      rw [List.mem_append]
      by_cases h1 : isAt s.is k = 1
      · have := in_even hs (f := k) (by rw [h1]; decide)
        exact .inl (free_mem.2 ⟨this.1, this.2.1, by rw [isAt_some this.1 (by rw [hs.len]; omega), h1]⟩)
      · by_cases h2 : isAt s.is k = 2
        · have := in_even hs (f := k) (by rw [h2]; decide)
          exact .inr (atN_mem.2 ⟨this.1, this.2.1, by rw [isAt_some this.1 (by rw [hs.len]; omega), h2]⟩)
        · rw [if_neg h1, if_neg h2] at hg; exact absurd rfl hg)
    have h2 := free_len s.is
    have h3 : (usedL s.is).length ≤ 1024 := atN_len _ _ _
    simp only [keysM, List.length_map, List.length_append] at h1
    omega
  refine loop_go (fun i ρ w' => ∃ (done : List Int) (v : Value), i = m.length - done.length ∧ Iter w' w.heap.size r m done ∧ Keeps w1 w' (fun j => j = w.heap.size) ∧ ρ 9 = pt w.heap.size ∧ ρ 2 = v ∧ RowE (EInt 3) w' v (done.filter fun k => decide (isAt s.is k = 1)) ∧ ∀ j, blkOf v = some j → w1.heap.size ≤ j) ?_ (i := m.length) ?_ (by show m.length < fuel; omega)
  · rintro i ρ w' ⟨done, v, rfl, hit, hk, e9, e2, hv, hvb⟩
    subst e2
    simp -implicitDefEqProofs
    refine next_go (m := m) (it := w.heap.size) (r := r) (done := done) (by simp [e9]) rfl hit (fun hall => ?_) (fun k u w2 hg hkn hit2 hk2 => ?_)
    · simp -implicitDefEqProofs
      rw [hS.go]
      have hmem : ∀ x, x ∈ (done.filter fun k => decide (isAt s.is k = 1)) ↔ x ∈ freeL s.is := by
        intro x
        rw [List.mem_filter, decide_eq_true_eq]
        constructor
        · rintro ⟨_, h1⟩
          have := in_even hs (f := x) (by rw [h1]; decide)
          exact free_mem.2 ⟨this.1, this.2.1, by rw [isAt_some this.1 (by rw [hs.len]; omega), h1]⟩
        · intro h1
          have h2 := (free_even hs h1).2.2.1
          refine ⟨hall x (Decidable.byContradiction fun hh => ?_), h2⟩
          have := getM_none.2 hh
          rw [hrel x] at this
          simp [mval, h2] at this
      have hnd : (done.filter fun k => decide (isAt s.is k = 1)).Nodup := hit.nodup.filter _
      have hlen : (done.filter fun k => decide (isAt s.is k = 1)).length ≤ 1000000 := by
        have := len_sub hnd (fun x hx => (hmem x).1 hx)
        have := free_len s.is
        omega
      refine valA_of (sort_row hv hlen) (fun v3 w3 hq => ?_)
      obtain ⟨hv3, hrow, hk3⟩ := hq
      simp only at hv3 hrow hk3
      rw [sorted_eq hnd hmem] at hrow
      simp -implicitDefEqProofs
      refine ⟨hrow, ?_, fun j hj => ?_⟩
      · have hsz := hk1.1
        exact hk1.trans (hk.trans hk3 (H := fun j => w.heap.size ≤ j) (fun j _ h => by omega) (fun j _ h => by have := hvb j h; omega)) (fun _ _ h => h) (fun j hj h => by omega)
      · have := hvb j hj
        have := hk1.1
        omega
    · simp -implicitDefEqProofs [e9]
      refine entry_go (m := m) (it := w.heap.size) (r := r) (done := done) (k := k) (v := u) (by simp [e9]) rfl hit2 hg ?_
      have hu := hg
      rw [hrel k] at hu
      have hcnt : (done ++ [k]).length ≤ m.length := by
        have := len_sub hit2.nodup hit2.sub
        simpa [keysM] using this
      have hk12 : Keeps w1 w2 (fun j => j = w.heap.size) := hk.trans hk2 (fun _ _ h => h) (fun _ _ h => h)
      have hwlt : w.heap.size < w1.heap.size := by rw [← hw1]; simp
      have hv2 := hv.keep hk2 (fun j hj => by have := hvb j hj; omega)
      rw [List.length_append, List.length_singleton] at hcnt
      by_cases h1 : isAt s.is k = 1
      · have : u = n64 1 := by simp [mval, h1] at hu; exact hu.symm
        subst this
        simp -implicitDefEqProofs [row1]
        have hkp : Keeps w2 (World.push w2 (.cells #[.int .i64 k] 3)) (fun _ => False) := Keeps.push _ _ _
        have hll : (done.filter fun k => decide (isAt s.is k = 1)).length ≤ 2048 := Nat.le_trans (List.length_filter_le _ _) (by omega)
        refine appE (E := EInt 3) (by_ := 8) (hv2.keep hkp (fun _ _ h => h)) (src_int (c := 3) (n := k) (by simp)) (by simp; omega) (by decide) (fun v4 w4 hr4 hk4 _ hb4 => ?_)
        have hk24 := hkp.trans hk4 (H := fun j => blkOf (ρ 2) = some j) (fun _ _ h => h.elim) (fun _ _ h => h)
        simp -implicitDefEqProofs
        refine ⟨m.length - (done ++ [k]).length, by simp; omega, done ++ [k], rfl, hit2.keep hk24 (fun h => ?_) (fun h => ?_), hk12.trans hk24 (fun _ _ h => h) (fun j hj h => ?_), e9, ?_, fun j hj => ?_⟩
        · have := hvb r h; have := hm.lt; omega
        · have := hvb _ h; omega
        · have := hvb j h; omega
        · rw [List.filter_append]; simpa [h1] using hr4
        · rw [hb4 (by simp)] at hj
          simp at hj
          have := hk12.1
          omega
      · have : u = n64 0 := by
          unfold mval at hu
          rw [if_neg h1] at hu
          split at hu
          · simp at hu; exact hu.symm
          · cases hu
        subst this
        simp -implicitDefEqProofs
        refine ⟨m.length - (done ++ [k]).length, by simp; omega, done ++ [k], rfl, hit2, hk12, e9, ?_, hvb⟩
        rw [List.filter_append]; simpa [h1] using hv2
  · exact ⟨[], .slice none 0 0, by simp, hit, Keeps.refl _ _, by simp, by simp, RowE.nil _, fun j hj => by cases hj⟩
end Go.Proofs.Ytkplodhjceieeaa
