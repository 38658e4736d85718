/-
  PoolSums, PoolKept: the ideal walks.
-/
import Derived.Test.YtkplodhjceieeaaUk
namespace Go.Proofs.Ytkplodhjceieeaa
open Go Go.Ideal

def t10 : GC :=
 (.seq (.ops [.grp none [⟨some 110, none, .move (.tmp 3), []⟩, ⟨some 111, none, .call 40 #[.tmp 110], []⟩, ⟨some 112, none, .move (.tmp 5), []⟩, ⟨some 113, none, .bin .neq 3 (.tmp 111) (.tmp 112), []⟩, ⟨some 114, none, .move (.tmp 113), []⟩],
  .grp (some (some 114, false)) [⟨some 115, none, .move (.tmp 3), []⟩, ⟨some 116, none, .call 32 #[.tmp 115], []⟩, ⟨some 117, none, .len (.tmp 116), []⟩, ⟨some 118, none, .move (.tmp 5), []⟩, ⟨some 119, none, .move (.tmp 6), []⟩, ⟨some 120, none, .bin .sub 3 (.tmp 118) (.tmp 119), []⟩, ⟨some 121, none, .bin .neq 3 (.tmp 117) (.tmp 120), []⟩],
  .grp none [⟨some 122, none, .pick (.tmp 114) (.const (.bool true)) (.tmp 121), []⟩, ⟨some 123, none, .move (.tmp 122), []⟩],
  .grp (some (some 123, false)) [⟨some 124, none, .move (.tmp 3), []⟩, ⟨some 125, none, .call 35 #[.tmp 124], []⟩, ⟨some 126, none, .move (.tmp 3), []⟩, ⟨some 127, none, .call 32 #[.tmp 126], []⟩, ⟨some 128, none, .len (.tmp 127), []⟩, ⟨some 129, none, .bin .gtr 3 (.tmp 125) (.tmp 128), []⟩],
  .grp none [⟨some 130, none, .pick (.tmp 123) (.const (.bool true)) (.tmp 129), []⟩]]) 
 (.cond (.tmp 130) 
 (.seq (.ops [.grp none [⟨some 2, none, .move (.const (.bool false)), []⟩]]) .ret) .skip))
def g10c : GFn :=
 ⟨131, [⟨2, none⟩], .seq (.ops [.grp none [⟨some 2, none, .move (.const (.bool false)), []⟩]]) 
 (.seq (.ops [.grp none [⟨some 16, none, .call 30 #[.const (.slice none 0 0)], []⟩, ⟨some 15, none, .move (.tmp 16), []⟩, ⟨some 17, none, .extract (.tmp 15) 0, []⟩, ⟨some 18, none, .extract (.tmp 15) 1, []⟩, ⟨some 3, none, .move (.tmp 17), []⟩, ⟨some 4, none, .move (.tmp 18), []⟩]]) 
 (.seq 
 (.seq (.ops [.grp none [⟨some 19, none, .move (.tmp 3), []⟩, ⟨some 20, none, .bin .eql 54 (.tmp 19) (.const (.pointer none)), []⟩, ⟨some 21, none, .move (.tmp 20), []⟩],
  .grp (some (some 21, false)) [⟨some 22, none, .call 31 #[], []⟩, ⟨some 23, none, .un .not (.tmp 22), []⟩],
  .grp none [⟨some 24, none, .pick (.tmp 21) (.const (.bool true)) (.tmp 23), []⟩]]) 
 (.cond (.tmp 24) 
 (.seq (.ops [.grp none [⟨some 2, none, .move (.const (.bool false)), []⟩]]) .ret) .skip)) 
 (.seq (.ops [.grp none [⟨some 5, none, .move (.const (.int .i64 0)), []⟩, ⟨some 6, none, .move (.const (.int .i64 0)), []⟩]]) 
 (.seq 
 (.seq (.ops [.grp none [⟨some 7, none, .move (.const (.int .i64 0)), []⟩]]) 
 (.block 0 
 (.loop 
 (.seq 
 (.seq (.ops [.grp none [⟨some 25, none, .move (.tmp 7), []⟩, ⟨some 26, none, .move (.tmp 0), []⟩, ⟨some 27, none, .len (.tmp 26), []⟩, ⟨some 28, none, .bin .lss 3 (.tmp 25) (.tmp 27), []⟩, ⟨some 29, none, .move (.tmp 28), []⟩],
  .grp (some (some 29, true)) [⟨some 30, none, .move (.tmp 7), []⟩, ⟨some 31, none, .bin .lss 3 (.tmp 30) (.const (.int .i64 60)), []⟩],
  .grp none [⟨some 32, none, .pick (.tmp 29) (.tmp 31) (.const (.bool false)), []⟩]]) 
 (.cond (.tmp 32) .skip (.exit 0))) 
 (.seq 
 (.block 1 
 (.seq (.ops [.grp none [⟨some 35, none, .move (.tmp 0), []⟩, ⟨some 36, none, .move (.tmp 7), []⟩, ⟨some 37, none, .iaddr 4 (.tmp 35) (.tmp 36), []⟩, ⟨some 38, none, .load (some 4) (.tmp 37), []⟩, ⟨some 8, none, .zero 63 #[.int .i64 0, .int .i64 0, .int .i64 0, .bool false], []⟩, ⟨none, none, .store 4 (.tmp 8) (.tmp 38), []⟩]]) 
 (.seq 
 (.seq (.ops [.grp none [⟨some 39, none, .faddr 0 (.tmp 8), []⟩, ⟨some 40, none, .load none (.tmp 39), []⟩]]) 
 (.block 2 
 (.seq 
 (.seq (.ops [.grp none [⟨some 58, none, .bin .eql 3 (.tmp 40) (.const (.int .i64 0)), []⟩, ⟨some 57, none, .move (.tmp 58), []⟩]]) 
 (.cond (.tmp 57) .skip (.ops [.grp none [⟨some 59, none, .bin .eql 3 (.tmp 40) (.const (.int .i64 1)), []⟩, ⟨some 57, none, .move (.tmp 59), []⟩]]))) 
 (.cond (.tmp 57) 
 (.seq (.ops [.grp none [⟨some 60, none, .move (.tmp 3), []⟩, ⟨some 61, none, .faddr 1 (.tmp 8), []⟩, ⟨some 62, none, .load none (.tmp 61), []⟩, ⟨some 63, none, .call 36 #[.tmp 60, .tmp 62], []⟩, ⟨some 64, none, .bin .eql 27 (.tmp 63) (.const (.int .i64 0)), []⟩]]) 
 (.cond (.tmp 64) (.ops [.grp none [⟨some 65, none, .move (.tmp 5), []⟩, ⟨some 66, none, .bin .add 3 (.tmp 65) (.const (.int .i64 1)), []⟩, ⟨some 5, none, .move (.tmp 66), []⟩]]) .skip)) 
 (.seq (.ops [.grp none [⟨some 68, none, .bin .eql 3 (.tmp 40) (.const (.int .i64 2)), []⟩, ⟨some 67, none, .move (.tmp 68), []⟩]]) 
 (.cond (.tmp 67) 
 (.seq (.ops [.grp none [⟨some 70, none, .move (.tmp 3), []⟩, ⟨some 71, none, .call 33 #[.tmp 70], []⟩, ⟨some 69, none, .move (.tmp 71), []⟩, ⟨some 72, none, .extract (.tmp 69) 0, []⟩, ⟨some 73, none, .extract (.tmp 69) 1, []⟩, ⟨some 9, none, .move (.tmp 72), []⟩, ⟨some 10, none, .move (.tmp 73), []⟩]]) 
 (.seq (.ops [.grp none [⟨some 74, none, .move (.tmp 10), []⟩, ⟨some 75, none, .bin .eql 27 (.tmp 74) (.const (.int .i64 0)), []⟩]]) 
 (.cond (.tmp 75) (.ops [.grp none [⟨some 76, none, .move (.tmp 5), []⟩, ⟨some 77, none, .bin .sub 3 (.tmp 76) (.const (.int .i64 1)), []⟩, ⟨some 5, none, .move (.tmp 77), []⟩]]) .skip))) 
 (.seq 
 (.seq (.ops [.grp none [⟨some 79, none, .bin .eql 3 (.tmp 40) (.const (.int .i64 5)), []⟩, ⟨some 78, none, .move (.tmp 79), []⟩]]) 
 (.cond (.tmp 78) .skip (.ops [.grp none [⟨some 80, none, .bin .eql 3 (.tmp 40) (.const (.int .i64 6)), []⟩, ⟨some 78, none, .move (.tmp 80), []⟩]]))) 
 (.cond (.tmp 78) 
 (.seq (.ops [.grp none [⟨some 82, none, .move (.tmp 3), []⟩, ⟨some 83, none, .faddr 3 (.tmp 8), []⟩, ⟨some 84, none, .load none (.tmp 83), []⟩, ⟨some 85, none, .call 34 #[.tmp 82, .tmp 84], []⟩, ⟨some 81, none, .move (.tmp 85), []⟩, ⟨some 86, none, .extract (.tmp 81) 0, []⟩, ⟨some 87, none, .extract (.tmp 81) 1, []⟩, ⟨some 11, none, .move (.tmp 86), []⟩, ⟨some 12, none, .move (.tmp 87), []⟩]]) 
 (.seq (.ops [.grp none [⟨some 88, none, .move (.tmp 12), []⟩, ⟨some 89, none, .bin .eql 27 (.tmp 88) (.const (.int .i64 0)), []⟩]]) 
 (.cond (.tmp 89) (.ops [.grp none [⟨some 90, none, .move (.tmp 6), []⟩, ⟨some 91, none, .bin .add 3 (.tmp 90) (.const (.int .i64 1)), []⟩, ⟨some 6, none, .move (.tmp 91), []⟩]]) .skip))) 
 (.seq (.ops [.grp none [⟨some 93, none, .bin .eql 3 (.tmp 40) (.const (.int .i64 7)), []⟩, ⟨some 92, none, .move (.tmp 93), []⟩]]) 
 (.cond (.tmp 92) 
 (.seq (.ops [.grp none [⟨some 94, none, .move (.tmp 3), []⟩, ⟨some 95, none, .faddr 1 (.tmp 8), []⟩, ⟨some 96, none, .load none (.tmp 95), []⟩, ⟨some 97, none, .call 37 #[.tmp 94, .tmp 96], []⟩, ⟨some 98, none, .bin .eql 27 (.tmp 97) (.const (.int .i64 0)), []⟩]]) 
 (.cond (.tmp 98) (.ops [.grp none [⟨some 99, none, .move (.tmp 5), []⟩, ⟨some 100, none, .bin .add 3 (.tmp 99) (.const (.int .i64 1)), []⟩, ⟨some 101, none, .move (.tmp 6), []⟩, ⟨some 102, none, .bin .add 3 (.tmp 101) (.const (.int .i64 1)), []⟩, ⟨some 5, none, .move (.tmp 100), []⟩, ⟨some 6, none, .move (.tmp 102), []⟩]]) .skip)) 
 (.seq 
 (.seq (.ops [.grp none [⟨some 104, none, .bin .eql 3 (.tmp 40) (.const (.int .i64 3)), []⟩, ⟨some 103, none, .move (.tmp 104), []⟩]]) 
 (.cond (.tmp 103) .skip (.ops [.grp none [⟨some 105, none, .bin .eql 3 (.tmp 40) (.const (.int .i64 4)), []⟩, ⟨some 103, none, .move (.tmp 105), []⟩]]))) 
 (.cond (.tmp 103) (.ops [.grp none [⟨some 106, none, .move (.tmp 3), []⟩, ⟨some 107, none, .move (.tmp 4), []⟩, ⟨some 108, none, .load (some 4) (.tmp 8), []⟩, ⟨some 109, none, .call 38 #[.tmp 106, .tmp 107, .tmp 108], []⟩]]) 
 (.seq (.ops [.grp none [⟨some 42, none, .move (.tmp 3), []⟩, ⟨some 43, none, .faddr 1 (.tmp 8), []⟩, ⟨some 44, none, .load none (.tmp 43), []⟩, ⟨some 45, none, .faddr 3 (.tmp 8), []⟩, ⟨some 46, none, .load none (.tmp 45), []⟩, ⟨some 47, none, .call 39 #[.tmp 42, .tmp 44, .tmp 46], []⟩, ⟨some 41, none, .move (.tmp 47), []⟩, ⟨some 48, none, .extract (.tmp 41) 0, []⟩, ⟨some 49, none, .extract (.tmp 41) 1, []⟩, ⟨some 13, none, .move (.tmp 48), []⟩, ⟨some 14, none, .move (.tmp 49), []⟩]]) 
 (.seq 
 (.seq (.ops [.grp none [⟨some 50, none, .move (.tmp 14), []⟩, ⟨some 51, none, .bin .eql 27 (.tmp 50) (.const (.int .i64 0)), []⟩]]) 
 (.cond (.tmp 51) (.ops [.grp none [⟨some 52, none, .move (.tmp 6), []⟩, ⟨some 53, none, .bin .sub 3 (.tmp 52) (.const (.int .i64 1)), []⟩, ⟨some 6, none, .move (.tmp 53), []⟩]]) .skip)) 
 (.seq (.ops [.grp none [⟨some 54, none, .move (.tmp 13), []⟩]]) 
 (.cond (.tmp 54) (.ops [.grp none [⟨some 55, none, .move (.tmp 5), []⟩, ⟨some 56, none, .bin .sub 3 (.tmp 55) (.const (.int .i64 1)), []⟩, ⟨some 5, none, .move (.tmp 56), []⟩]]) .skip)))))))))))))))) 
 t10))) (.ops [.grp none [⟨some 33, none, .move (.tmp 7), []⟩, ⟨some 34, none, .bin .add 3 (.tmp 33) (.const (.int .i64 1)), []⟩, ⟨some 7, none, .move (.tmp 34), []⟩]])))))) 
 (.seq (.ops [.grp none [⟨some 2, none, .move (.const (.bool true)), []⟩]]) .ret)))))⟩
theorem low10c : lowG Try.prog 10 = some g10c := low10

/-- Pages in and in use. -/
def cN (s : PS) : Int := (freeL s.is).length + (usedL s.is).length
def cU (s : PS) : Int := (usedL s.is).length

theorem c_grow {s : PS} (h : s.ok) (f : Int) : cN (growA s f).2 = cN s + (if (growA s f).1 = 0 then 1 else 0) ∧ cU (growA s f).2 = cU s := by
  unfold growA
  by_cases hm : mayA s f = 0
  · obtain ⟨h0, h1, h2, h3⟩ := may_zero hm
    have hz := szO_cases s.o
    have c1 := free_set s.is f 1 h0 (by omega) h.len
    have c2 := used_set s.is f 1 h0 (by omega) h.len
    simp [h3] at c1 c2
    simp only [hm, if_true, cN, cU, setA]
    omega
  · simp [hm]
theorem c_shrink {s : PS} (h : s.ok) : cN (shrinkA s).2 = cN s - (if (shrinkA s).1.2 = 0 then 1 else 0) ∧ cU (shrinkA s).2 = cU s := by
  by_cases h0 : spareA s < 1
  · have hsh : shrinkA s = ((0, 12), s) := by unfold shrinkA; rw [if_pos h0]
    simp [hsh]
  · obtain ⟨g1, g2, g3, g4⟩ := shrink_facts h h0
    simp only [g4, if_true, cN, cU]
    omega
theorem c_promise (s : PS) (n : Int) : cN (promiseA s n).2 = cN s ∧ cU (promiseA s n).2 = cU s := by
  unfold promiseA
  split
  · exact ⟨rfl, rfl⟩
  · split <;> exact ⟨rfl, rfl⟩
theorem c_unpromise (s : PS) (n : Int) : cN (unpromiseA s n).2 = cN s ∧ cU (unpromiseA s n).2 = cU s := by
  unfold unpromiseA
  split
  · exact ⟨rfl, rfl⟩
  · split <;> exact ⟨rfl, rfl⟩
theorem c_take {s : PS} (h : s.ok) (yes : Bool) : cN (takeA s yes).2 = cN s ∧ cU (takeA s yes).2 = cU s + (if (takeA s yes).1.2 = 0 then 1 else 0) := by
  unfold takeA
  split
  · simp
  · split
    · simp
    · rename_i h1 h2
      have hne := take_ne h h1 h2
      obtain ⟨g0, g1, g2, _⟩ := free_even h (head_mem hne)
      have c1 := free_set s.is _ 2 g0 g1 h.len
      have c2 := used_set s.is _ 2 g0 g1 h.len
      simp [g2] at c1 c2
      simp only [cN, cU, setA, if_true]
      omega
theorem c_extra {s : PS} (h : s.ok) (f : Int) : cN (extraA s f).2 = cN s + (if (extraA s f).1 = 0 then 1 else 0) ∧ cU (extraA s f).2 = cU s + (if (extraA s f).1 = 0 then 1 else 0) := by
  unfold extraA
  by_cases hm : mayA s f = 0
  · obtain ⟨h0, h1, h2, h3⟩ := may_zero hm
    have hz := szO_cases s.o
    have c1 := free_set s.is f 2 h0 (by omega) h.len
    have c2 := used_set s.is f 2 h0 (by omega) h.len
    simp [h3] at c1 c2
    by_cases hs : s.mo ≤ s.su
    · simp [hm, hs]
    · simp only [hm, hs, ne_eq, not_true_eq_false, if_false, if_true, cN, cU, setA]
      omega
  · simp [hm]
theorem c_give {s : PS} (h : s.ok) (f : Int) (yes : Bool) : cN (giveA s f yes).2 = cN s - (if (giveA s f yes).1.1 = true then 1 else 0) ∧ cU (giveA s f yes).2 = cU s - (if (giveA s f yes).1.2 = 0 then 1 else 0) := by
  unfold giveA
  by_cases h2 : isAt s.is f = 2
  · obtain ⟨g0, g1, _⟩ := in_even h (f := f) (by rw [h2]; decide)
    have a1 := free_set s.is f 0 g0 g1 h.len
    have a2 := used_set s.is f 0 g0 g1 h.len
    have b1 := free_set s.is f 1 g0 g1 h.len
    have b2 := used_set s.is f 1 g0 g1 h.len
    simp [h2] at a1 a2 b1 b2
    by_cases h3 : 0 < s.su ∧ yes = false
    · simp only [h2, h3, and_self, ne_eq, not_true_eq_false, if_false, if_true, cN, cU, setA]
      omega
    · simp only [h2, h3, ne_eq, not_true_eq_false, if_false, if_true, Bool.false_eq_true, cN, cU, setA]
      omega
  · simp [h2]

theorem c_bound (s : PS) : 0 ≤ cU s ∧ cU s ≤ cN s ∧ cN s ≤ 2048 := by
  have h1 := free_len s.is
  have h2 : (usedL s.is).length ≤ 1024 := atN_len _ _ _
  unfold cN cU
  omega

theorem run38d {K : Kont} {fuel : Nat} (hA : Api K) {w : World} {b r x y : Nat} {s s2 : PS} (hp : PoolAt w b r s) (hq : RefAt w x y s2) (hs : s.ok) (hs2 : s2.ok) (a : ActP) (hk : a.k = 3 ∨ a.k = 4) : wpGFn Try.prog K fuel 38 g38 #[pt b, pt x, .agg a.cells] w fun v w' => (∃ t, v = .bool t) ∧ PoolAt w' b r (stepA s a) ∧ RefAt w' x y (stepA s2 a) ∧ Keeps w w' (Mv4 b r x y) := by
  rw [gfn_start]
  have k0 : Keeps w (World.push w (.cells a.cells 63)) (fun _ => False) := Keeps.push _ _ _
  have hb0 : cellsOf? (World.push w (.cells a.cells 63)) w.heap.size = some (#[n64 a.k, n64 a.f, n64 a.n, .bool a.yes], 63, (0, 0)) := by simp [ActP.cells]
  have hp0 := hp.keep k0 (fun h => h) (fun h => h)
  have hq0 := hq.keep k0 (fun h => h) (fun h => h)
  have hlt := hp.blt
  have hlr := hp.rlt
  obtain ⟨a1, a2, a3, a4⟩ := apart hp hq
  have key : ∀ {w1 : World} {s' : PS}, PoolTo (World.push w (.cells a.cells 63)) w1 b r s' → cellsOf? w1 w.heap.size = some (#[n64 a.k, n64 a.f, n64 a.n, .bool a.yes], 63, (0, 0)) ∧ RefAt w1 x y s2 ∧ ∀ {w2 : World} {s3 : PS}, RefTo w1 w2 x y s3 → PoolAt w2 b r s' ∧ RefAt w2 x y s3 ∧ Keeps w w2 (Mv4 b r x y) := by
    intro w1 s' h1
    refine ⟨h1.2.cells hb0 (fun e => e.elim (fun e => by omega) (fun e => by omega)), hq0.keep h1.2 (fun e => e.elim (fun e => a1 e.symm) (fun e => a3 e.symm)) (fun e => e.elim (fun e => a2 e.symm) (fun e => a4 e.symm)), fun h2 => ?_⟩
    exact ⟨h1.1.keep h2.2 (fun e => e.elim a1 a2) (fun e => e.elim a3 a4), h2.1, k0.trans (h1.2.trans h2.2 (H := Mv4 b r x y) (fun _ _ h => .inl h) (fun _ _ h => .inr h)) (fun _ _ h => h.elim) (fun _ _ h => h)⟩
  generalize hw0 : World.push w (.cells a.cells 63) = w0 at *
  rcases hk with c3 | c4
  · simp -implicitDefEqProofs [g38, hw0, hb0, c3]
    refine valA_of (hA.promise hp0 hs a.n) (fun v w1 hq => ?_)
    obtain ⟨hv, h1⟩ := hq
    simp only at hv h1
    obtain ⟨hb1, hr1, hfin⟩ := key h1
    subst hv
    simp -implicitDefEqProofs [hb1]
    refine valA_of (hA.rpromise hr1 hs2 a.n) (fun v w2 hq => ?_)
    obtain ⟨hv, h2⟩ := hq
    simp only at hv h2
    subst hv
    simp -implicitDefEqProofs [stepA, c3]
    exact ⟨(Decidable.em _).symm, hfin h2⟩
  · simp -implicitDefEqProofs [g38, hw0, hb0, c4]
    refine valA_of (hA.unpromise hp0 hs a.n) (fun v w1 hq => ?_)
    obtain ⟨hv, h1⟩ := hq
    simp only at hv h1
    obtain ⟨hb1, hr1, hfin⟩ := key h1
    subst hv
    simp -implicitDefEqProofs [hb1]
    refine valA_of (hA.runpromise hr1 hs2 a.n) (fun v w2 hq => ?_)
    obtain ⟨hv, h2⟩ := hq
    simp only at hv h2
    subst hv
    simp -implicitDefEqProofs [stepA, c4]
    exact ⟨(Decidable.em _).symm, hfin h2⟩

def Do2 (K : Kont) : Prop := ∀ {w : World} {b r x y : Nat} {s s2 : PS}, PoolAt w b r s → RefAt w x y s2 → s.ok → s2.ok → ∀ a : ActP, a.k = 3 ∨ a.k = 4 → (K.enter 38 #[pt b, pt x, .agg a.cells] w).all fun z => (∃ t, z.1 = .bool t) ∧ PoolAt z.2 b r (stepA s a) ∧ RefAt z.2 x y (stepA s2 a) ∧ Keeps w z.2 (Mv4 b r x y)
theorem do2 (m : Nat) (hm : 4000 ≤ m) : Do2 (KR (m + 7)) := fun hp hq hs hs2 a hk => enter_okH (m := m + 6) low38 (by simp [sortH]) (run38d (api (m + 1) (by omega)) hp hq hs hs2 a hk)

theorem tail10 {K : Kont} {fuel : Nat} (hT : Top K) {Q : SPost} {k : List FI} {w : World} {ρ : Env} {b r : Nat} {s : PS} (hp : PoolAt w b r s) (ho : s.ok) (e3 : ρ 3 = pt b) (e5 : ρ 5 = n64 (cN s)) (e6 : ρ 6 = n64 (cU s))
    (hgo : ∀ (ρ' : Env) (w' : World), Keeps w w' (fun _ => False) → (ρ' 0 = ρ 0 ∧ ρ' 3 = ρ 3 ∧ ρ' 4 = ρ 4 ∧ ρ' 5 = ρ 5 ∧ ρ' 6 = ρ 6 ∧ ρ' 7 = ρ 7) → goN ⟨Try.prog, K, fuel, 10, none, 131, Q⟩ k ρ' [] w') :
    codeR ⟨Try.prog, K, fuel, 10, none, 131, Q⟩ t10 k ρ [] w := by
  simp -implicitDefEqProofs [t10, e3]
  refine valA_of (hT.a.l.l.total hp ho) (fun u w3 hq => ?_)
  obtain ⟨hu, hk3⟩ := hq
  simp only at hu hk3
  subst hu
  have hp3 := hp.keep hk3 (fun h => h) (fun h => h)
  have hn : ((freeL s.is).length : Int) + (usedL s.is).length = cN s := rfl
  have hbd := c_bound s
  have hw : IntKind.i64.wrap (cN s - cU s) = (freeL s.is).length := by
    have : cN s - cU s = (freeL s.is).length := by unfold cN cU; omega
    rw [IntKind.wrap_i64, this]; omega
  simp -implicitDefEqProofs [e3, e5, hn]
  refine valA_of (hT.a.l.l.free hp3 ho) (fun u w4 hq => ?_)
  obtain ⟨hr4, hk4, _⟩ := hq
  simp only at hr4 hk4
  have hp4 := hp3.keep hk4 (fun h => h) (fun h => h)
  simp -implicitDefEqProofs [hr4.lenS, e3, e5, e6, hw]
  refine valA_of (hT.a.l.l.promised hp4) (fun u w5 hq => ?_)
  obtain ⟨hu, hk5⟩ := hq
  simp only at hu hk5
  subst hu
  have hp5 := hp4.keep hk5 (fun h => h) (fun h => h)
  simp -implicitDefEqProofs [e3]
  refine valA_of (hT.a.l.l.free hp5 ho) (fun u w6 hq => ?_)
  obtain ⟨hr6, hk6, _⟩ := hq
  simp only at hr6 hk6
  have hpr := ho.pr
  have hle : ¬ ((freeL s.is).length : Int) < s.pr := by omega
  simp -implicitDefEqProofs [hr6.lenS, hle]
  refine hgo _ _ (hk3.trans (hk4.trans (hk5.trans hk6 (H := fun _ => False) (fun _ _ h => h) (fun _ _ h => h)) (H := fun _ => False) (fun _ _ h => h) (fun _ _ h => h)) (fun _ _ h => h) (fun _ _ h => h)) ?_
  simp

theorem run10 {K : Kont} {fuel : Nat} (hT : Top K) (hD : Do2 K) (hf : 4000 ≤ fuel) {w : World} {v : Value} {xs : List ActP} (hv : ActsAt w v xs) : wpGFn Try.prog K fuel 10 g10c #[v] w fun u _ => u = .bool true := by
  rw [gfn_start]
  simp -implicitDefEqProofs [g10c]
  refine valA_of (hT.made (acts_none w)) (fun u w1 hq => ?_)
  obtain ⟨b, r, x, y, hu, hB, hk1, hb, hr, hx, hy⟩ := hq
  simp only [List.take_nil, runS] at hu hB hk1
  subst hu
  have hok : (newA 3 2).ok := new_ok (.inl rfl) (by omega)
  simp -implicitDefEqProofs [nil54]
  refine valA_of (hT.awake _) (fun u w2 hq => ?_)
  obtain ⟨hu, hk2⟩ := hq
  simp only at hu hk2
  subst hu
  have hB2 := hB.keep hk2
  have hk12 : Keeps w w2 (fun _ => False) := hk1.trans hk2 (fun _ _ h => h) (fun _ _ h => h)
  simp -implicitDefEqProofs
  have c0 : cN (newA 3 2) = 0 ∧ cU (newA 3 2) = 0 := by
    simp [cN, cU, freeL, usedL, newA, new_at]
  refine loop_go (fun i ρ w' => ∃ (q : Nat) (s s2 : PS), i = 60 - q ∧ q ≤ 60 ∧ PoolAt w' b r s ∧ RefAt w' x y s2 ∧ s.ok ∧ s2.ok ∧ Keeps w2 w' (Mv4 b r x y) ∧ ρ 0 = v ∧ ρ 3 = pt b ∧ ρ 4 = pt x ∧ ρ 5 = n64 (cN s) ∧ ρ 6 = n64 (cU s) ∧ ρ 7 = n64 q) ?_ (i := 60) ?_ (by show 60 < fuel; omega)
  · rintro i ρ w' ⟨q, s, s2, rfl, hq, hP', hQ', ho, ho2, hk', e0, e3, e4, e5, e6, e7⟩
    have hkw := fresh_keep hk12 hk' hb hr hx hy
    have hv' := hv.keep hkw
    have w1 : IntKind.i64.wrap ((q : Int) + 1) = (q : Int) + 1 := by rw [IntKind.wrap_i64]; omega
    by_cases h1 : q < xs.length
    · have h1' : (q : Int) < xs.length := by omega
      by_cases h2 : q < 60
      · have h2' : (q : Int) < 60 := by omega
        obtain ⟨bb, oo, cap, c, e, fz, hve, hc, hsz, hext, hbb⟩ := hv'.at h1
        -- the act's own copy
        have kbox : Keeps w' (World.set (World.push w' (.cells #[.int .i64 0, .int .i64 0, .int .i64 0, .bool false] 63)) w'.heap.size (.cells xs[q].cells 63)) (fun _ => False) :=
          (Keeps.push w' _ (fun _ => False)).trans (Keeps.set _ w'.heap.size _ (F := fun j => j = w'.heap.size) (fun _ => rfl)) (fun _ _ h => h) (fun j hj h => by omega)
        have hbox : cellsOf? (World.set (World.push w' (.cells #[.int .i64 0, .int .i64 0, .int .i64 0, .bool false] 63)) w'.heap.size (.cells xs[q].cells 63)) w'.heap.size = some (#[n64 xs[q].k, n64 xs[q].f, n64 xs[q].n, .bool xs[q].yes], 63, (0, 0)) := by simp [ActP.cells]
        have hPb := hP'.keep kbox (fun h => h) (fun h => h)
        have hQb := hQ'.keep kbox (fun h => h) (fun h => h)
        have hput : putCells #[Value.int .i64 0, Value.int .i64 0, Value.int .i64 0, Value.bool false] 0 xs[q].cells.toList = xs[q].cells := by simp [ActP.cells]
        have hone : xs[q].cells.toList.all one1 = true := rfl
        have hsize : xs[q].cells.size = 4 := rfl
        have hc0 : ∀ h, (xs[q]'h1).cells[0]'h = n64 xs[q].k := fun _ => rfl
        have hc1 : ∀ h, (xs[q]'h1).cells[1]'h = n64 xs[q].f := fun _ => rfl
        have hc3 : ∀ h, (xs[q]'h1).cells[3]'h = .bool xs[q].yes := fun _ => rfl
        have hbl := hP'.blt
        have hrl := hP'.rlt
        have hxl := hQ'.xlt
        have hyl := hQ'.ylt
        simp -implicitDefEqProofs [e0, e3, e4, e5, e6, e7, hv'.lenS, h1', h2', hve, hc, hsz, hext, h1, hput, hone, hsize, hc0]
        generalize hW : World.set (World.push w' (.cells #[.int .i64 0, .int .i64 0, .int .i64 0, .bool false] 63)) w'.heap.size (.cells xs[q].cells 63) = wb at *
        have hbd := c_bound s
        have kw : ∀ {w3 : World} {s' : PS}, PoolTo wb w3 b r s' → Keeps w2 w3 (Mv4 b r x y) ∧ RefAt w3 x y s2 := by
          intro w3 s' h3
          obtain ⟨a1, a2, a3, a4⟩ := apart hPb hQb
          exact ⟨hk'.trans (kbox.trans h3.2 (H := Mv4 b r x y) (fun _ _ h => h.elim) (fun _ _ h => .inl h)) (fun _ _ h => h) (fun _ _ h => h), hQb.keep h3.2 (fun e => e.elim (fun e => a1 e.symm) (fun e => a3 e.symm)) (fun e => e.elim (fun e => a2 e.symm) (fun e => a4 e.symm))⟩
        by_cases k0 : xs[q].k = 0
        · skip
          have hc := c_grow ho xs[q].f
          simp -implicitDefEqProofs [hbox, hc0, hc1, hc3, k0]
          refine valA_of (hT.a.grow hPb ho xs[q].f) (fun u w3 hq3 => ?_)
          obtain ⟨hu, hP3⟩ := hq3
          simp only at hu hP3
          subst hu
          obtain ⟨hk3, hQ3⟩ := kw hP3
          by_cases hz : (growA s xs[q].f).1 = 0
          · rw [if_pos hz] at hc
            have hw5 : IntKind.i64.wrap (cN s + 1) = cN s + 1 := by rw [IntKind.wrap_i64]; omega
            simp -implicitDefEqProofs [hz, e5, hw5]
            refine tail10 hT hP3.1 (grow_ok ho _) (by simp [e3]) (by simp [hc.1]) (by simp [e6, hc.2]) (fun ρ' w5 hk5 hE => ?_)
            obtain ⟨g0, g3, g4, g5, g6, g7⟩ := hE
            simp at g0 g3 g4 g5 g6 g7
            simp -implicitDefEqProofs [g7, e7, w1]
            refine ⟨60 - (q + 1), by omega, q + 1, rfl, by omega, (growA s xs[q].f).2, hP3.1.keep hk5 (fun h => h) (fun h => h), s2, hQ3.keep hk5 (fun h => h) (fun h => h), (grow_ok ho _), ho2, hk3.trans hk5 (fun _ _ h => h) (fun _ _ h => h.elim), ?_⟩
            simp [g0, g3, g4, g5, g6, e0, e3, e4, hve, hc.1, e6, hc.2]
          · rw [if_neg hz] at hc
            simp -implicitDefEqProofs [hz]
            refine tail10 hT hP3.1 (grow_ok ho _) (by simp [e3]) (by simp [e5, hc.1]) (by simp [e6, hc.2]) (fun ρ' w5 hk5 hE => ?_)
            obtain ⟨g0, g3, g4, g5, g6, g7⟩ := hE
            simp at g0 g3 g4 g5 g6 g7
            simp -implicitDefEqProofs [g7, e7, w1]
            refine ⟨60 - (q + 1), by omega, q + 1, rfl, by omega, (growA s xs[q].f).2, hP3.1.keep hk5 (fun h => h) (fun h => h), s2, hQ3.keep hk5 (fun h => h) (fun h => h), (grow_ok ho _), ho2, hk3.trans hk5 (fun _ _ h => h) (fun _ _ h => h.elim), ?_⟩
            simp [g0, g3, g4, g5, g6, e0, e3, e4, hve, e5, hc.1, e6, hc.2]
        · skip
          by_cases k1 : xs[q].k = 1
          · skip
            have hc := c_grow ho xs[q].f
            simp -implicitDefEqProofs [hbox, hc0, hc1, hc3, k1]
            refine valA_of (hT.a.grow hPb ho xs[q].f) (fun u w3 hq3 => ?_)
            obtain ⟨hu, hP3⟩ := hq3
            simp only at hu hP3
            subst hu
            obtain ⟨hk3, hQ3⟩ := kw hP3
            by_cases hz : (growA s xs[q].f).1 = 0
            · rw [if_pos hz] at hc
              have hw5 : IntKind.i64.wrap (cN s + 1) = cN s + 1 := by rw [IntKind.wrap_i64]; omega
              simp -implicitDefEqProofs [hz, e5, hw5]
              refine tail10 hT hP3.1 (grow_ok ho _) (by simp [e3]) (by simp [hc.1]) (by simp [e6, hc.2]) (fun ρ' w5 hk5 hE => ?_)
              obtain ⟨g0, g3, g4, g5, g6, g7⟩ := hE
              simp at g0 g3 g4 g5 g6 g7
              simp -implicitDefEqProofs [g7, e7, w1]
              refine ⟨60 - (q + 1), by omega, q + 1, rfl, by omega, (growA s xs[q].f).2, hP3.1.keep hk5 (fun h => h) (fun h => h), s2, hQ3.keep hk5 (fun h => h) (fun h => h), (grow_ok ho _), ho2, hk3.trans hk5 (fun _ _ h => h) (fun _ _ h => h.elim), ?_⟩
              simp [g0, g3, g4, g5, g6, e0, e3, e4, hve, hc.1, e6, hc.2]
            · rw [if_neg hz] at hc
              simp -implicitDefEqProofs [hz]
              refine tail10 hT hP3.1 (grow_ok ho _) (by simp [e3]) (by simp [e5, hc.1]) (by simp [e6, hc.2]) (fun ρ' w5 hk5 hE => ?_)
              obtain ⟨g0, g3, g4, g5, g6, g7⟩ := hE
              simp at g0 g3 g4 g5 g6 g7
              simp -implicitDefEqProofs [g7, e7, w1]
              refine ⟨60 - (q + 1), by omega, q + 1, rfl, by omega, (growA s xs[q].f).2, hP3.1.keep hk5 (fun h => h) (fun h => h), s2, hQ3.keep hk5 (fun h => h) (fun h => h), (grow_ok ho _), ho2, hk3.trans hk5 (fun _ _ h => h) (fun _ _ h => h.elim), ?_⟩
              simp [g0, g3, g4, g5, g6, e0, e3, e4, hve, e5, hc.1, e6, hc.2]
          · skip
            by_cases k2 : xs[q].k = 2
            · skip
              have hc := c_shrink ho
              simp -implicitDefEqProofs [hbox, hc0, hc1, hc3, k2]
              refine valA_of (hT.a.shrink hPb ho) (fun u w3 hq3 => ?_)
              obtain ⟨hu, hP3⟩ := hq3
              simp only at hu hP3
              subst hu
              obtain ⟨hk3, hQ3⟩ := kw hP3
              by_cases hz : (shrinkA s).1.2 = 0
              · rw [if_pos hz] at hc
                have hw5 : IntKind.i64.wrap (cN s - 1) = cN s - 1 := by rw [IntKind.wrap_i64]; omega
                simp -implicitDefEqProofs [hz, e5, hw5]
                refine tail10 hT hP3.1 (shrink_ok ho) (by simp [e3]) (by simp [hc.1]) (by simp [e6, hc.2]) (fun ρ' w5 hk5 hE => ?_)
                obtain ⟨g0, g3, g4, g5, g6, g7⟩ := hE
                simp at g0 g3 g4 g5 g6 g7
                simp -implicitDefEqProofs [g7, e7, w1]
                refine ⟨60 - (q + 1), by omega, q + 1, rfl, by omega, (shrinkA s).2, hP3.1.keep hk5 (fun h => h) (fun h => h), s2, hQ3.keep hk5 (fun h => h) (fun h => h), (shrink_ok ho), ho2, hk3.trans hk5 (fun _ _ h => h) (fun _ _ h => h.elim), ?_⟩
                simp [g0, g3, g4, g5, g6, e0, e3, e4, hve, hc.1, e6, hc.2]
              · rw [if_neg hz] at hc
                simp -implicitDefEqProofs [hz]
                refine tail10 hT hP3.1 (shrink_ok ho) (by simp [e3]) (by simp [e5, hc.1]) (by simp [e6, hc.2]) (fun ρ' w5 hk5 hE => ?_)
                obtain ⟨g0, g3, g4, g5, g6, g7⟩ := hE
                simp at g0 g3 g4 g5 g6 g7
                simp -implicitDefEqProofs [g7, e7, w1]
                refine ⟨60 - (q + 1), by omega, q + 1, rfl, by omega, (shrinkA s).2, hP3.1.keep hk5 (fun h => h) (fun h => h), s2, hQ3.keep hk5 (fun h => h) (fun h => h), (shrink_ok ho), ho2, hk3.trans hk5 (fun _ _ h => h) (fun _ _ h => h.elim), ?_⟩
                simp [g0, g3, g4, g5, g6, e0, e3, e4, hve, e5, hc.1, e6, hc.2]
            · skip
              by_cases k5 : xs[q].k = 5
              · skip
                have hc := c_take ho xs[q].yes
                simp -implicitDefEqProofs [hbox, hc0, hc1, hc3, k5]
                refine valA_of (hT.a.take hPb ho xs[q].yes) (fun u w3 hq3 => ?_)
                obtain ⟨hu, hP3⟩ := hq3
                simp only at hu hP3
                subst hu
                obtain ⟨hk3, hQ3⟩ := kw hP3
                by_cases hz : (takeA s xs[q].yes).1.2 = 0
                · rw [if_pos hz] at hc
                  have hw6 : IntKind.i64.wrap (cU s + 1) = cU s + 1 := by rw [IntKind.wrap_i64]; omega
                  simp -implicitDefEqProofs [hz, e6, hw6]
                  refine tail10 hT hP3.1 (take_ok ho _) (by simp [e3]) (by simp [e5, hc.1]) (by simp [hc.2]) (fun ρ' w5 hk5 hE => ?_)
                  obtain ⟨g0, g3, g4, g5, g6, g7⟩ := hE
                  simp at g0 g3 g4 g5 g6 g7
                  simp -implicitDefEqProofs [g7, e7, w1]
                  refine ⟨60 - (q + 1), by omega, q + 1, rfl, by omega, (takeA s xs[q].yes).2, hP3.1.keep hk5 (fun h => h) (fun h => h), s2, hQ3.keep hk5 (fun h => h) (fun h => h), (take_ok ho _), ho2, hk3.trans hk5 (fun _ _ h => h) (fun _ _ h => h.elim), ?_⟩
                  simp [g0, g3, g4, g5, g6, e0, e3, e4, hve, e5, hc.1, hc.2]
                · rw [if_neg hz] at hc
                  simp -implicitDefEqProofs [hz]
                  refine tail10 hT hP3.1 (take_ok ho _) (by simp [e3]) (by simp [e5, hc.1]) (by simp [e6, hc.2]) (fun ρ' w5 hk5 hE => ?_)
                  obtain ⟨g0, g3, g4, g5, g6, g7⟩ := hE
                  simp at g0 g3 g4 g5 g6 g7
                  simp -implicitDefEqProofs [g7, e7, w1]
                  refine ⟨60 - (q + 1), by omega, q + 1, rfl, by omega, (takeA s xs[q].yes).2, hP3.1.keep hk5 (fun h => h) (fun h => h), s2, hQ3.keep hk5 (fun h => h) (fun h => h), (take_ok ho _), ho2, hk3.trans hk5 (fun _ _ h => h) (fun _ _ h => h.elim), ?_⟩
                  simp [g0, g3, g4, g5, g6, e0, e3, e4, hve, e5, hc.1, e6, hc.2]
              · skip
                by_cases k6 : xs[q].k = 6
                · skip
                  have hc := c_take ho xs[q].yes
                  simp -implicitDefEqProofs [hbox, hc0, hc1, hc3, k6]
                  refine valA_of (hT.a.take hPb ho xs[q].yes) (fun u w3 hq3 => ?_)
                  obtain ⟨hu, hP3⟩ := hq3
                  simp only at hu hP3
                  subst hu
                  obtain ⟨hk3, hQ3⟩ := kw hP3
                  by_cases hz : (takeA s xs[q].yes).1.2 = 0
                  · rw [if_pos hz] at hc
                    have hw6 : IntKind.i64.wrap (cU s + 1) = cU s + 1 := by rw [IntKind.wrap_i64]; omega
                    simp -implicitDefEqProofs [hz, e6, hw6]
                    refine tail10 hT hP3.1 (take_ok ho _) (by simp [e3]) (by simp [e5, hc.1]) (by simp [hc.2]) (fun ρ' w5 hk5 hE => ?_)
                    obtain ⟨g0, g3, g4, g5, g6, g7⟩ := hE
                    simp at g0 g3 g4 g5 g6 g7
                    simp -implicitDefEqProofs [g7, e7, w1]
                    refine ⟨60 - (q + 1), by omega, q + 1, rfl, by omega, (takeA s xs[q].yes).2, hP3.1.keep hk5 (fun h => h) (fun h => h), s2, hQ3.keep hk5 (fun h => h) (fun h => h), (take_ok ho _), ho2, hk3.trans hk5 (fun _ _ h => h) (fun _ _ h => h.elim), ?_⟩
                    simp [g0, g3, g4, g5, g6, e0, e3, e4, hve, e5, hc.1, hc.2]
                  · rw [if_neg hz] at hc
                    simp -implicitDefEqProofs [hz]
                    refine tail10 hT hP3.1 (take_ok ho _) (by simp [e3]) (by simp [e5, hc.1]) (by simp [e6, hc.2]) (fun ρ' w5 hk5 hE => ?_)
                    obtain ⟨g0, g3, g4, g5, g6, g7⟩ := hE
                    simp at g0 g3 g4 g5 g6 g7
                    simp -implicitDefEqProofs [g7, e7, w1]
                    refine ⟨60 - (q + 1), by omega, q + 1, rfl, by omega, (takeA s xs[q].yes).2, hP3.1.keep hk5 (fun h => h) (fun h => h), s2, hQ3.keep hk5 (fun h => h) (fun h => h), (take_ok ho _), ho2, hk3.trans hk5 (fun _ _ h => h) (fun _ _ h => h.elim), ?_⟩
                    simp [g0, g3, g4, g5, g6, e0, e3, e4, hve, e5, hc.1, e6, hc.2]
                · skip
                  by_cases k7 : xs[q].k = 7
                  · skip
                    have hc := c_extra ho xs[q].f
                    simp -implicitDefEqProofs [hbox, hc0, hc1, hc3, k7]
                    refine valA_of (hT.a.extra hPb ho xs[q].f) (fun u w3 hq3 => ?_)
                    obtain ⟨hu, hP3⟩ := hq3
                    simp only at hu hP3
                    subst hu
                    obtain ⟨hk3, hQ3⟩ := kw hP3
                    by_cases hz : (extraA s xs[q].f).1 = 0
                    · rw [if_pos hz] at hc
                      have hw5 : IntKind.i64.wrap (cN s + 1) = cN s + 1 := by rw [IntKind.wrap_i64]; omega
                      have hw6 : IntKind.i64.wrap (cU s + 1) = cU s + 1 := by rw [IntKind.wrap_i64]; omega
                      simp -implicitDefEqProofs [hz, e5, e6, hw5, hw6]
                      refine tail10 hT hP3.1 (extra_ok ho _) (by simp [e3]) (by simp [hc.1]) (by simp [hc.2]) (fun ρ' w5 hk5 hE => ?_)
                      obtain ⟨g0, g3, g4, g5, g6, g7⟩ := hE
                      simp at g0 g3 g4 g5 g6 g7
                      simp -implicitDefEqProofs [g7, e7, w1]
                      refine ⟨60 - (q + 1), by omega, q + 1, rfl, by omega, (extraA s xs[q].f).2, hP3.1.keep hk5 (fun h => h) (fun h => h), s2, hQ3.keep hk5 (fun h => h) (fun h => h), (extra_ok ho _), ho2, hk3.trans hk5 (fun _ _ h => h) (fun _ _ h => h.elim), ?_⟩
                      simp [g0, g3, g4, g5, g6, e0, e3, e4, hve, hc.1, hc.2]
                    · rw [if_neg hz] at hc
                      simp -implicitDefEqProofs [hz]
                      refine tail10 hT hP3.1 (extra_ok ho _) (by simp [e3]) (by simp [e5, hc.1]) (by simp [e6, hc.2]) (fun ρ' w5 hk5 hE => ?_)
                      obtain ⟨g0, g3, g4, g5, g6, g7⟩ := hE
                      simp at g0 g3 g4 g5 g6 g7
                      simp -implicitDefEqProofs [g7, e7, w1]
                      refine ⟨60 - (q + 1), by omega, q + 1, rfl, by omega, (extraA s xs[q].f).2, hP3.1.keep hk5 (fun h => h) (fun h => h), s2, hQ3.keep hk5 (fun h => h) (fun h => h), (extra_ok ho _), ho2, hk3.trans hk5 (fun _ _ h => h) (fun _ _ h => h.elim), ?_⟩
                      simp [g0, g3, g4, g5, g6, e0, e3, e4, hve, e5, hc.1, e6, hc.2]
                  · skip
                    by_cases k3 : xs[q].k = 3
                    · skip
                      simp -implicitDefEqProofs [hbox, hc0, hc1, hc3, k3]
                      refine valA_of (hD hPb hQb ho ho2 xs[q] (by omega)) (fun u w3 hq3 => ?_)
                      obtain ⟨⟨t, hu⟩, hP3, hQ3, hk3⟩ := hq3
                      simp only at hu hP3 hQ3 hk3
                      subst hu
                      have hc : cN (stepA s xs[q]) = cN s ∧ cU (stepA s xs[q]) = cU s := by
                        have : stepA s xs[q] = (promiseA s xs[q].n).2 := by simp [stepA, k3]
                        rw [this]; exact c_promise s _
                      have hk4 : Keeps w2 w3 (Mv4 b r x y) := hk'.trans (kbox.trans hk3 (H := Mv4 b r x y) (fun _ _ h => h.elim) (fun _ _ h => h)) (fun _ _ h => h) (fun _ _ h => h)
                      simp -implicitDefEqProofs
                      refine tail10 hT hP3 (step_ok ho _) (by simp [e3]) (by simp [e5, hc.1]) (by simp [e6, hc.2]) (fun ρ' w5 hk5 hE => ?_)
                      obtain ⟨g0, g3, g4, g5, g6, g7⟩ := hE
                      simp at g0 g3 g4 g5 g6 g7
                      simp -implicitDefEqProofs [g7, e7, w1]
                      refine ⟨60 - (q + 1), by omega, q + 1, rfl, by omega, (stepA s xs[q]), hP3.keep hk5 (fun h => h) (fun h => h), (stepA s2 xs[q]), hQ3.keep hk5 (fun h => h) (fun h => h), (step_ok ho _), (step_ok ho2 _), hk4.trans hk5 (fun _ _ h => h) (fun _ _ h => h.elim), ?_⟩
                      simp [g0, g3, g4, g5, g6, e0, e3, e4, hve, e5, hc.1, e6, hc.2]
                    · skip
                      by_cases k4 : xs[q].k = 4
                      · skip
                        simp -implicitDefEqProofs [hbox, hc0, hc1, hc3, k4]
                        refine valA_of (hD hPb hQb ho ho2 xs[q] (by omega)) (fun u w3 hq3 => ?_)
                        obtain ⟨⟨t, hu⟩, hP3, hQ3, hk3⟩ := hq3
                        simp only at hu hP3 hQ3 hk3
                        subst hu
                        have hc : cN (stepA s xs[q]) = cN s ∧ cU (stepA s xs[q]) = cU s := by
                          have : stepA s xs[q] = (unpromiseA s xs[q].n).2 := by simp [stepA, k4]
                          rw [this]; exact c_unpromise s _
                        have hk4 : Keeps w2 w3 (Mv4 b r x y) := hk'.trans (kbox.trans hk3 (H := Mv4 b r x y) (fun _ _ h => h.elim) (fun _ _ h => h)) (fun _ _ h => h) (fun _ _ h => h)
                        simp -implicitDefEqProofs
                        refine tail10 hT hP3 (step_ok ho _) (by simp [e3]) (by simp [e5, hc.1]) (by simp [e6, hc.2]) (fun ρ' w5 hk5 hE => ?_)
                        obtain ⟨g0, g3, g4, g5, g6, g7⟩ := hE
                        simp at g0 g3 g4 g5 g6 g7
                        simp -implicitDefEqProofs [g7, e7, w1]
                        refine ⟨60 - (q + 1), by omega, q + 1, rfl, by omega, (stepA s xs[q]), hP3.keep hk5 (fun h => h) (fun h => h), (stepA s2 xs[q]), hQ3.keep hk5 (fun h => h) (fun h => h), (step_ok ho _), (step_ok ho2 _), hk4.trans hk5 (fun _ _ h => h) (fun _ _ h => h.elim), ?_⟩
                        simp [g0, g3, g4, g5, g6, e0, e3, e4, hve, e5, hc.1, e6, hc.2]
                      · skip
                        have hc := c_give ho xs[q].f xs[q].yes
                        simp -implicitDefEqProofs [hbox, hc0, hc1, hc3, k0, k1, k2, k5, k6, k7, k3, k4]
                        refine valA_of (hT.a.give hPb ho xs[q].f xs[q].yes) (fun u w3 hq3 => ?_)
                        obtain ⟨hu, hP3⟩ := hq3
                        simp only at hu hP3
                        subst hu
                        obtain ⟨hk3, hQ3⟩ := kw hP3
                        have hin : (giveA s xs[q].f xs[q].yes).1.1 = true → (giveA s xs[q].f xs[q].yes).1.2 = 0 := by
                          unfold giveA; split <;> simp; split <;> simp
                        have hb2 := c_bound (giveA s xs[q].f xs[q].yes).2
                        by_cases hz : (giveA s xs[q].f xs[q].yes).1.2 = 0
                        · rw [if_pos hz] at hc
                          have hw6 : IntKind.i64.wrap (cU s - 1) = cU s - 1 := by rw [IntKind.wrap_i64]; omega
                          cases ht : (giveA s xs[q].f xs[q].yes).1.1 with
                          | true =>
                            simp only [ht, if_true] at hc
                            have hw5 : IntKind.i64.wrap (cN s - 1) = cN s - 1 := by rw [IntKind.wrap_i64]; omega
                            simp -implicitDefEqProofs [hz, ht, e5, e6, hw5, hw6]
                            refine tail10 hT hP3.1 (give_ok ho _ _) (by simp [e3]) (by simp [hc.1]) (by simp [hc.2]) (fun ρ' w5 hk5 hE => ?_)
                            obtain ⟨g0, g3, g4, g5, g6, g7⟩ := hE
                            simp at g0 g3 g4 g5 g6 g7
                            simp -implicitDefEqProofs [g7, e7, w1]
                            refine ⟨60 - (q + 1), by omega, q + 1, rfl, by omega, (giveA s xs[q].f xs[q].yes).2, hP3.1.keep hk5 (fun h => h) (fun h => h), s2, hQ3.keep hk5 (fun h => h) (fun h => h), (give_ok ho _ _), ho2, hk3.trans hk5 (fun _ _ h => h) (fun _ _ h => h.elim), ?_⟩
                            simp [g0, g3, g4, g5, g6, e0, e3, e4, hve, hc.1, hc.2]
                          | false =>
                            simp only [ht, Bool.false_eq_true, if_false, Int.sub_zero] at hc
                            simp -implicitDefEqProofs [hz, ht, e6, hw6]
                            refine tail10 hT hP3.1 (give_ok ho _ _) (by simp [e3]) (by simp [e5, hc.1]) (by simp [hc.2]) (fun ρ' w5 hk5 hE => ?_)
                            obtain ⟨g0, g3, g4, g5, g6, g7⟩ := hE
                            simp at g0 g3 g4 g5 g6 g7
                            simp -implicitDefEqProofs [g7, e7, w1]
                            refine ⟨60 - (q + 1), by omega, q + 1, rfl, by omega, (giveA s xs[q].f xs[q].yes).2, hP3.1.keep hk5 (fun h => h) (fun h => h), s2, hQ3.keep hk5 (fun h => h) (fun h => h), (give_ok ho _ _), ho2, hk3.trans hk5 (fun _ _ h => h) (fun _ _ h => h.elim), ?_⟩
                            simp [g0, g3, g4, g5, g6, e0, e3, e4, hve, e5, hc.1, hc.2]
                        · rw [if_neg hz] at hc
                          have ht : (giveA s xs[q].f xs[q].yes).1.1 = false := by
                            cases ht : (giveA s xs[q].f xs[q].yes).1.1 with
                            | true => exact absurd (hin ht) hz
                            | false => rfl
                          simp only [ht, Bool.false_eq_true, if_false, Int.sub_zero] at hc
                          simp -implicitDefEqProofs [hz, ht]
                          refine tail10 hT hP3.1 (give_ok ho _ _) (by simp [e3]) (by simp [e5, hc.1]) (by simp [e6, hc.2]) (fun ρ' w5 hk5 hE => ?_)
                          obtain ⟨g0, g3, g4, g5, g6, g7⟩ := hE
                          simp at g0 g3 g4 g5 g6 g7
                          simp -implicitDefEqProofs [g7, e7, w1]
                          refine ⟨60 - (q + 1), by omega, q + 1, rfl, by omega, (giveA s xs[q].f xs[q].yes).2, hP3.1.keep hk5 (fun h => h) (fun h => h), s2, hQ3.keep hk5 (fun h => h) (fun h => h), (give_ok ho _ _), ho2, hk3.trans hk5 (fun _ _ h => h) (fun _ _ h => h.elim), ?_⟩
                          simp [g0, g3, g4, g5, g6, e0, e3, e4, hve, e5, hc.1, e6, hc.2]
      · have : q = 60 := by omega
        subst this
        have h5 : (60 : Int) < xs.length := by omega
        simp -implicitDefEqProofs [e0, e7, hv'.lenS, h5]
    · have h1' : ¬ (q : Int) < xs.length := by omega
      simp -implicitDefEqProofs [e0, e7, hv'.lenS, h1']
  · exact ⟨0, newA 3 2, newA 3 2, rfl, by omega, hB2.p, hB2.q, hok, hok, Keeps.refl _ _, by simp, by simp, by simp, by simp [c0.1], by simp [c0.2], by simp⟩
end Go.Proofs.Ytkplodhjceieeaa
