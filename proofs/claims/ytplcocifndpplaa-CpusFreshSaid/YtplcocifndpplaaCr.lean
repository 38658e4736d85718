/-
  CpusSync, CpusApart: the ideal walks.
-/
import Derived.Test.YtplcocifndpplaaCq
namespace Go.Proofs.Ytplcocifndpplaa
open Go Go.Ideal

theorem mod3 {n : Int} (h : 0 ≤ n ∧ n < 256) : IntKind.i64.wrap (n.tmod 3) = ((n.tmod 3).toNat : Int) ∧ (n.tmod 3).toNat < 3 ∧ n.tmod 3 = ((n.tmod 3).toNat : Int) := by
  have h1 : n.tmod 3 = n % 3 := Int.tmod_eq_emod_of_nonneg h.1
  rw [h1, IntKind.wrap_i64]
  omega
theorem lns_tag {w : World} {v : Value} {ls : List Line} (h : Lns w v ls) {b : Nat} (hb : blockOf v = some b) : ∃ c, cellsOf? w b = some (c, 31, (0, 0)) := by
  rcases h with ⟨rfl, _⟩ | ⟨b', o, cap, c, rfl, hc, _⟩
  · cases hb
  · simp only [blockOf, Option.some.injEq] at hb; subst hb; exact ⟨_, hc⟩
theorem MoveC.lns {w w' : World} {N : Nat} {pb : Nat → Nat} (mv : MoveC w w' N pb TW True) {v : Value} {ls : List Line} (h : Lns w v ls) (hn : ∀ j, blockOf v = some j → ∀ i, i < N → ¬ foot w (pb i) j) : Lns w' v ls ∧ ∀ j, blockOf v = some j → ∀ i, i < N → ¬ foot w' (pb i) j := by
  refine ⟨h.keep mv.1 fun b hb hm => ?_, fun j hj i hi hf => ?_⟩
  · obtain ⟨c, hc⟩ := lns_tag h hb
    rcases hm with ⟨i, hi, hf⟩ | ⟨_, h0⟩ | ⟨c', t', hc', ht'⟩
    · exact hn b hb i hi hf
    · rw [hc] at h0; cases h0
    · rw [hc] at hc'; simp only [Option.some.injEq, Prod.mk.injEq] at hc'
      rw [← hc'.2.1] at ht'; simp [TW] at ht'
  · rcases mv.2 i hi j hf with g | g
    · exact hn j hj i hi g
    · have := h.block_lt hj; omega
theorem MvB.lns {w w' : World} {N : Nat} {p q : Nat → Nat} (mv : MvB w w' N p q) {v : Value} {ls : List Line} (h : Lns w v ls) (hn : ∀ j, blockOf v = some j → ∀ i, i < N → ¬ foot w (p i) j ∧ ¬ foot w (q i) j) : Lns w' v ls ∧ ∀ j, blockOf v = some j → ∀ i, i < N → ¬ foot w' (p i) j ∧ ¬ foot w' (q i) j := by
  refine ⟨h.keep mv.1 fun b hb hm => ?_, fun j hj i hi => ⟨fun hf => ?_, fun hf => ?_⟩⟩
  · obtain ⟨c, hc⟩ := lns_tag h hb
    rcases hm with (⟨i, hi, hf⟩ | ⟨_, h0⟩ | ⟨c', t', hc', ht'⟩) | (⟨i, hi, hf⟩ | ⟨h0, _⟩ | ⟨c', t', hc', ht'⟩)
    · exact (hn b hb i hi).1 hf
    · rw [hc] at h0; cases h0
    · rw [hc] at hc'; simp only [Option.some.injEq, Prod.mk.injEq] at hc'
      rw [← hc'.2.1] at ht'; simp [TW] at ht'
    · exact (hn b hb i hi).2 hf
    · exact h0
    · rw [hc] at hc'; simp only [Option.some.injEq, Prod.mk.injEq] at hc'
      rw [← hc'.2.1] at ht'; simp [TRW] at ht'
  · rcases mv.2.1 i hi j hf with g | g
    · exact (hn j hj i hi).1 g
    · have := h.block_lt hj; omega
  · rcases mv.2.2 i hi j hf with g | g
    · exact (hn j hj i hi).2 g
    · have := h.block_lt hj; omega

theorem sync_twice {s : CS} (i : Nat) : syncA (syncA s i) i = syncA s i := by
  refine CS.ext rfl rfl rfl (fun j => ?_) fun j q => ?_
  · show (if j = i then ((syncA s i).L i).filter (fun c => keepF c.s (flo s.A c.s) ((syncA s i).seen i c.s) c) else (syncA s i).L j) = (syncA s i).L j
    split
    · rename_i e
      subst e
      refine List.filter_eq_self.2 fun c _ => ?_
      unfold keepF
      rw [if_pos]
      show (if j = j then s.time c.s else _) = _
      rw [if_pos rfl]; rfl
    · rfl
  · show (if j = i then (syncA s i).time q else (syncA s i).seen j q) = (syncA s i).seen j q
    split
    · rename_i e; subst e
      show s.time q = if j = j then s.time q else _
      rw [if_pos rfl]
    · rfl

theorem run11 {K : Kont} {fuel : Nat} (hT : TopC K) {w : World} {v : Value} {xs : List ActC} (hv : ActsC w v xs) {n : Int} (hn : 0 ≤ n ∧ n < 256) (sp : Int) :
    wpGFn Try.prog K fuel 11 g11 #[v, .int .u8 n, i64 sp] w fun u _ => u = .bool true := by
  rw [gfn_start]
  simp -implicitDefEqProofs [g11]
  refine valA_of (hT.made (n := 3) (size := 5) (by decide) (by decide) hv) (fun u w1 hq => ?_)
  obtain ⟨c, x, hu, ⟨⟨a, r, hB⟩, _⟩⟩ := hq
  simp only at hu hB
  subst hu
  have hs := madeC_ok (n := 3) (size := 5) (by decide) (by decide) hv.1
  have hN := madeC_N 3 5 xs
  generalize madeC 3 5 xs = s at *
  obtain ⟨hm1, hm2, hm3⟩ := mod3 hn
  generalize (n.tmod 3).toNat = i at *
  have hc := hB.c
  have hi : isN s (i : Int) := ⟨by omega, by omega⟩
  have hi' : i < s.N := by omega
  have no3 : ∀ t : CS, t.N = s.N → ¬ isN t 3 := fun t ht => by unfold isN; omega
  have nom : ∀ t : CS, ¬ isN t (-1) := fun t => by unfold isN; omega
  simp -implicitDefEqProofs [nil57, hT.k.a.has.awake28, hm1]
  refine valA_of (hT.k.sync hc hs (by omega) (i : Int)) (fun u w2 hq => ?_)
  obtain ⟨hu, hc2, mv2⟩ := hq
  simp only at hu hc2 mv2
  subst hu
  rw [if_pos hi, Int.toNat_natCast] at hc2
  have hs2 := hs.syncA hi'
  have hb : behindA (syncA s i) i sp = 0 := by unfold behindA; simp [syncA, CS.time]
  simp -implicitDefEqProofs [hi]
  refine valA_of (hT.k.behind hc2 hs2 (by omega) (i : Int) sp hi) (fun u w3 hq => ?_)
  obtain ⟨hu, hw⟩ := hq
  simp only at hu hw
  subst hu hw
  rw [Int.toNat_natCast, hb]
  simp -implicitDefEqProofs
  refine valA_of (hT.k.lines hc2 hs2 (i : Int) hi) (fun u w4 hq => ?_)
  obtain ⟨hl4, hk4, hb4⟩ := hq
  simp only at hl4 hk4 hb4
  rw [Int.toNat_natCast] at hl4
  obtain ⟨hc4, hf4⟩ := hc2.keep hk4 (fun _ _ h => h)
  have hnf : ∀ j, blockOf u = some j → ∀ i', i' < (syncA s i).N → ¬ foot w4 (a.pb i') j := fun j hj i' hi' hf => by
    have := (hc2.buf i' hi').foot_lt ((hf4 i' hi' j).1 hf)
    have := hb4 j hj; omega
  simp -implicitDefEqProofs
  refine valA_of (hT.k.sync hc4 hs2 (by omega) (i : Int)) (fun u5 w5 hq => ?_)
  obtain ⟨hu, hc5, mv5⟩ := hq
  simp only at hu hc5 mv5
  subst hu
  rw [if_pos (show isN (syncA s i) i from hi), Int.toNat_natCast, sync_twice] at hc5
  obtain ⟨hl5, _⟩ := MoveC.lns mv5 hl4 hnf
  simp -implicitDefEqProofs [show isN (syncA s i) (i : Int) from hi]
  refine valA_of (hT.k.lines hc5 hs2 (i : Int) hi) (fun u6 w6 hq => ?_)
  obtain ⟨hl6, hk6, hb6⟩ := hq
  simp only at hl6 hk6 hb6
  rw [Int.toNat_natCast] at hl6
  obtain ⟨hc6, _⟩ := hc5.keep hk6 (fun _ _ h => h)
  have hl56 := hl5.keep hk6 (fun _ _ h => h)
  simp -implicitDefEqProofs
  refine valA_of (hT.k.a.same hl56 hl6 (by have := hs2.ll hi'; omega)) (fun u7 w7 hq => ?_)
  obtain ⟨hu, hw⟩ := hq
  simp only at hu hw
  subst hu hw
  simp -implicitDefEqProofs
  refine valA_of (hT.k.sync hc6 hs2 (by omega) 3) (fun u8 w8 hq => ?_)
  obtain ⟨hu, hc8, _⟩ := hq
  simp only at hu hc8
  subst hu
  rw [if_neg (no3 (syncA s i) rfl)] at hc8
  simp -implicitDefEqProofs [no3 (syncA s i) rfl]
  refine valA_of (hT.k.sync hc8 hs2 (by omega) (-1)) (fun u9 w9 hq => ?_)
  obtain ⟨hu, _⟩ := hq
  simp only at hu
  subst hu
  simp -implicitDefEqProofs [nom (syncA s i)]

/-! ### CpusApart -/
theorem apart_L {s : CS} {y : ActC} {i : Nat} (h : y.u ≠ (i : Int)) (h9 : y.k ≠ 9) : (stepC s y).L i = s.L i := by
  have ne : ∀ hn : isN s y.u, ¬ i = y.u.toNat := fun hn e => h (by have := isN_n hn; omega)
  unfold stepC
  repeat' split
  all_goals first
    | rfl
    | simp
    | (rename_i hn; have := ne hn; unfold putA; split <;> simp [setLn_L, catchA_L, this])
    | (rename_i hn; have := ne hn; rw [catchA_L, if_neg this])
    | (rename_i hn; have := ne hn; simp [syncA, this])
    | (rename_i hn; have := ne hn; unfold dropA; split <;> simp [setLn_L, this])
    | (exfalso; rename_i hn; exact h9 hn)
theorem apart_seen {s : CS} {y : ActC} {i : Nat} (h : y.u ≠ (i : Int)) (h9 : y.k ≠ 9) (sp : Int) : (stepC s y).seen i sp = s.seen i sp := by
  have ne : ∀ hn : isN s y.u, ¬ i = y.u.toNat := fun hn e => h (by have := isN_n hn; omega)
  unfold stepC
  repeat' split
  all_goals first
    | rfl
    | simp
    | (rename_i hn; have := ne hn; unfold putA; split <;> simp [catchA_seen, this])
    | (rename_i hn; have := ne hn; rw [catchA_seen, if_neg (fun e => this e.1)])
    | (rename_i hn; have := ne hn; simp [syncA, this])
    | (rename_i hn; have := ne hn; unfold dropA; split <;> rfl)
    | (exfalso; rename_i hn; exact h9 hn)
theorem step_time {s : CS} {y : ActC} : (stepC s y).time y.s = if (4 < y.k ∧ y.k < 8) ∧ 0 < y.n ∧ 0 ≤ y.s then s.time y.s + 1 else s.time y.s := by
  unfold stepC
  by_cases h3 : y.k = 5 ∨ y.k = 6 ∨ y.k = 7
  · rw [if_neg (show ¬ (y.k = 0 ∨ y.k = 1 ∨ y.k = 2) by omega), if_neg (show ¬ (y.k = 3 ∨ y.k = 4) by omega), if_pos h3]
    by_cases h4 : 1 ≤ y.n ∧ 0 ≤ y.s
    · rw [if_pos (show (4 < y.k ∧ y.k < 8) ∧ 0 < y.n ∧ 0 ≤ y.s by omega), time_flush (f := ⟨y.s, y.p, y.n⟩) h4, if_pos rfl]
    · rw [if_neg (show ¬ ((4 < y.k ∧ y.k < 8) ∧ 0 < y.n ∧ 0 ≤ y.s) by omega)]
      unfold flushA
      rw [if_neg h4]
  · rw [if_neg (show ¬ ((4 < y.k ∧ y.k < 8) ∧ 0 < y.n ∧ 0 ≤ y.s) by omega), if_neg h3]
    repeat' split
    all_goals first
      | rfl
      | (unfold CS.time; rw [putA_A])
      | (unfold CS.time; rw [dropA_A])

def t12 : GC := (.seq (.ops [.grp none [⟨some 73, none, .move (.tmp 11), []⟩, ⟨some 74, none, .move (.tmp 7), []⟩, ⟨some 75, none, .move (.tmp 10), []⟩, ⟨some 76, none, .call 37 #[.tmp 74, .tmp 75], []⟩, ⟨some 77, none, .call 18 #[.tmp 73, .tmp 76], []⟩, ⟨some 78, none, .move (.tmp 77), []⟩],
  .grp (some (some 78, true)) [⟨some 79, none, .move (.tmp 7), []⟩, ⟨some 80, none, .move (.tmp 10), []⟩, ⟨some 81, none, .faddr 2 (.tmp 4), []⟩, ⟨some 82, none, .load none (.tmp 81), []⟩, ⟨some 83, none, .call 38 #[.tmp 79, .tmp 80, .tmp 82], []⟩, ⟨some 84, none, .move (.tmp 12), []⟩, ⟨some 85, none, .bin .eql 3 (.tmp 83) (.tmp 84), []⟩],
  .grp none [⟨some 86, none, .pick (.tmp 78) (.tmp 85) (.const (.bool false)), []⟩, ⟨some 6, none, .move (.tmp 86), []⟩]]) .ret)
theorem g12_eq : g12 = ⟨87, [⟨6, none⟩], .seq (.ops [.grp none [⟨some 4, none, .box 62 (.tmp 1), []⟩, ⟨some 6, none, .move (.const (.bool false)), []⟩]]) 
 (.seq (.ops [.grp none [⟨some 14, none, .move (.tmp 0), []⟩, ⟨some 15, none, .call 35 #[.const (.int .i64 3), .const (.int .i64 5), .tmp 14], []⟩, ⟨some 13, none, .move (.tmp 15), []⟩, ⟨some 16, none, .extract (.tmp 13) 0, []⟩, ⟨some 17, none, .extract (.tmp 13) 1, []⟩, ⟨some 18, none, .extract (.tmp 13) 2, []⟩, ⟨some 7, none, .move (.tmp 16), []⟩, ⟨some 8, none, .move (.tmp 17), []⟩, ⟨some 9, none, .move (.tmp 18), []⟩]]) 
 (.seq 
 (.seq (.ops [.grp none [⟨some 19, none, .move (.tmp 9), []⟩, ⟨some 20, none, .un .not (.tmp 19), []⟩, ⟨some 21, none, .move (.tmp 20), []⟩],
  .grp (some (some 21, false)) [⟨some 22, none, .move (.tmp 7), []⟩, ⟨some 23, none, .bin .eql 57 (.tmp 22) (.const (.pointer none)), []⟩],
  .grp none [⟨some 24, none, .pick (.tmp 21) (.const (.bool true)) (.tmp 23), []⟩, ⟨some 25, none, .move (.tmp 24), []⟩],
  .grp (some (some 25, false)) [⟨some 26, none, .call 28 #[], []⟩, ⟨some 27, none, .un .not (.tmp 26), []⟩],
  .grp none [⟨some 28, none, .pick (.tmp 25) (.const (.bool true)) (.tmp 27), []⟩]]) 
 (.cond (.tmp 28) 
 (.seq (.ops [.grp none [⟨some 6, none, .move (.const (.bool false)), []⟩]]) .ret) .skip)) 
 (.seq (.ops [.grp none [⟨some 29, none, .move (.tmp 2), []⟩, ⟨some 30, none, .bin .rem 5 (.tmp 29) (.const (.int .u8 3)), []⟩, ⟨some 31, none, .conv .i64 (.tmp 30), []⟩, ⟨some 10, none, .move (.tmp 31), []⟩]]) 
 (.seq 
 (.seq (.ops [.grp none [⟨some 32, none, .faddr 1 (.tmp 4), []⟩, ⟨some 33, none, .load none (.tmp 32), []⟩, ⟨some 34, none, .move (.tmp 10), []⟩, ⟨some 35, none, .bin .eql 3 (.tmp 33) (.tmp 34), []⟩, ⟨some 36, none, .move (.tmp 35), []⟩],
  .grp (some (some 36, false)) [⟨some 37, none, .faddr 0 (.tmp 4), []⟩, ⟨some 38, none, .load none (.tmp 37), []⟩, ⟨some 39, none, .bin .eql 3 (.tmp 38) (.const (.int .i64 9)), []⟩],
  .grp none [⟨some 40, none, .pick (.tmp 36) (.const (.bool true)) (.tmp 39), []⟩]]) 
 (.cond (.tmp 40) 
 (.seq (.ops [.grp none [⟨some 6, none, .move (.const (.bool true)), []⟩]]) .ret) .skip)) 
 (.seq (.ops [.grp none [⟨some 41, none, .move (.tmp 7), []⟩, ⟨some 42, none, .move (.tmp 10), []⟩, ⟨some 44, none, .move (.tmp 7), []⟩, ⟨some 45, none, .move (.tmp 10), []⟩, ⟨some 46, none, .faddr 2 (.tmp 4), []⟩, ⟨some 47, none, .load none (.tmp 46), []⟩, ⟨some 43, none, .call 37 #[.tmp 41, .tmp 42], [⟨some 47, none, .load none (.tmp 46)⟩]⟩, ⟨some 48, none, .call 38 #[.tmp 44, .tmp 45, .tmp 47], []⟩, ⟨some 11, none, .move (.tmp 43), []⟩, ⟨some 12, none, .move (.tmp 48), []⟩]]) 
 (.seq (.ops [.grp none [⟨some 49, none, .move (.tmp 7), []⟩, ⟨some 50, none, .move (.tmp 8), []⟩, ⟨some 51, none, .load (some 10) (.tmp 4), []⟩, ⟨some 52, none, .call 41 #[.tmp 49, .tmp 50, .tmp 51], []⟩]]) 
 (.seq 
 (.seq (.ops [.grp none [⟨some 53, none, .faddr 0 (.tmp 4), []⟩, ⟨some 54, none, .load none (.tmp 53), []⟩, ⟨some 55, none, .bin .gtr 3 (.tmp 54) (.const (.int .i64 4)), []⟩, ⟨some 56, none, .move (.tmp 55), []⟩],
  .grp (some (some 56, true)) [⟨some 57, none, .faddr 0 (.tmp 4), []⟩, ⟨some 58, none, .load none (.tmp 57), []⟩, ⟨some 59, none, .bin .lss 3 (.tmp 58) (.const (.int .i64 8)), []⟩],
  .grp none [⟨some 60, none, .pick (.tmp 56) (.tmp 59) (.const (.bool false)), []⟩, ⟨some 61, none, .move (.tmp 60), []⟩],
  .grp (some (some 61, true)) [⟨some 62, none, .faddr 4 (.tmp 4), []⟩, ⟨some 63, none, .load none (.tmp 62), []⟩, ⟨some 64, none, .bin .gtr 3 (.tmp 63) (.const (.int .i64 0)), []⟩],
  .grp none [⟨some 65, none, .pick (.tmp 61) (.tmp 64) (.const (.bool false)), []⟩, ⟨some 66, none, .move (.tmp 65), []⟩],
  .grp (some (some 66, true)) [⟨some 67, none, .faddr 2 (.tmp 4), []⟩, ⟨some 68, none, .load none (.tmp 67), []⟩, ⟨some 69, none, .bin .geq 3 (.tmp 68) (.const (.int .i64 0)), []⟩],
  .grp none [⟨some 70, none, .pick (.tmp 66) (.tmp 69) (.const (.bool false)), []⟩]]) 
 (.cond (.tmp 70) (.ops [.grp none [⟨some 71, none, .move (.tmp 12), []⟩, ⟨some 72, none, .bin .add 3 (.tmp 71) (.const (.int .i64 1)), []⟩, ⟨some 12, none, .move (.tmp 72), []⟩]]) .skip)) 
 t12)))))))⟩ := rfl

theorem run12 {K : Kont} {fuel : Nat} (hT : TopC K) {w : World} {v : Value} {xs : List ActC} (hv : ActsC w v xs) (y : ActC) (hy : y.ok) {n : Int} (hn : 0 ≤ n ∧ n < 256) :
    wpGFn Try.prog K fuel 12 g12 #[v, .agg y.cells, .int .u8 n] w fun u _ => u = .bool true := by
  rw [gfn_start]
  have k0 : Keeps w (World.push w (.cells y.cells 62)) (fun _ => False) := Keeps.push _ _ _
  have hb0 : cellsOf? (World.push w (.cells y.cells 62)) w.heap.size = some (y.cells, 62, (0, 0)) := by simp
  have hv0 := hv.keep (KeepX.new k0)
  simp -implicitDefEqProofs [g12_eq]
  refine valA_of (hT.made (n := 3) (size := 5) (by decide) (by decide) hv0) (fun u w1 hq => ?_)
  obtain ⟨c, x, hu, ⟨⟨a, r, hB⟩, hk1⟩⟩ := hq
  simp only at hu hB hk1
  subst hu
  have hb1 := hk1.2 _ _ _ _ hb0 (.inr (by unfold okTag; decide))
  have hs := madeC_ok (n := 3) (size := 5) (by decide) (by decide) hv.1
  have hN := madeC_N 3 5 xs
  generalize madeC 3 5 xs = s at *
  obtain ⟨hm1, hm2, hm3⟩ := mod3 hn
  generalize (n.tmod 3).toNat = i at *
  have hc := hB.c
  have hi : isN s (i : Int) := ⟨by omega, by omega⟩
  have hi' : i < s.N := by omega
  by_cases he : y.u = (i : Int)
  · simp -implicitDefEqProofs [nil57, hT.k.a.has.awake28, hm1, hb1, he]
  by_cases h9 : y.k = 9
  · simp -implicitDefEqProofs [nil57, hT.k.a.has.awake28, hm1, hb1, he, h9]
  simp -implicitDefEqProofs [nil57, hT.k.a.has.awake28, hm1, hb1, he, h9]
  refine valA_of (hT.k.lines hc hs (i : Int) hi) (fun u w4 hq => ?_)
  obtain ⟨hl4, hk4, hb4⟩ := hq
  simp only at hl4 hk4 hb4
  rw [Int.toNat_natCast] at hl4
  obtain ⟨hB4, _⟩ := hB.new hk4
  have hb14 := hk4.cells hb1 (fun h => h)
  have hnf : ∀ j, blockOf u = some j → ∀ i', i' < s.N → ¬ foot w4 (a.pb i') j ∧ ¬ foot w4 (r.pb i') j := fun j hj i' hi' => by
    have := hb4 j hj
    refine ⟨fun hf => ?_, fun hf => ?_⟩
    · have := (hB.c.buf i' hi').foot_lt (((hB.c.keep hk4 (fun _ _ h => h)).2 i' hi' j).1 hf); omega
    · have := (hB.x.buf i' hi').foot_lt (((hB.x.keep hk4 (fun _ _ h => h)).2 i' hi' j).1 hf); omega
  simp -implicitDefEqProofs [hb14]
  refine valA_of (hT.k.behind hB4.c hs (by omega) (i : Int) y.s hi) (fun u2 w5 hq => ?_)
  obtain ⟨hu, hw⟩ := hq
  simp only at hu hw
  subst hu hw
  rw [Int.toNat_natCast]
  simp -implicitDefEqProofs [hb14]
  refine valA_of (hT.both hB4 hs (by omega) (by omega) y hy) (fun u3 w6 hq => ?_)
  obtain ⟨hu, a6, r6, ha6, hr6, hB6, mv6⟩ := hq
  simp only at hu hB6 mv6
  subst hu
  have hb16 := hB4.kept mv6 hb14 (.inr (by decide))
  obtain ⟨hl6, _⟩ := mv6.lns hl4 hnf
  have hs6 := stepC_ok hs hy
  have hi6 : isN (stepC s y) (i : Int) := by unfold isN; rw [stepC_N]; exact hi
  have hbe : behindA (stepC s y) i y.s = (if (4 < y.k ∧ y.k < 8) ∧ 0 < y.n ∧ 0 ≤ y.s then behindA s i y.s + 1 else behindA s i y.s) := by
    unfold behindA
    rw [apart_seen he h9, step_time]
    split <;> omega
  have hLe := apart_L (s := s) he h9
  have fin : ∀ {m : Int} {ρ : Env}, m = behindA (stepC s y) i y.s → (K.enter 37 #[ptr c, i64 i] w6).all fun z => (K.enter 18 #[u, z.1] z.2).all fun z2 => z2.1 = .bool true ∧ cellsOf? z2.2 w.heap.size = some (y.cells, 62, (0, 0)) ∧ (K.enter 38 #[ptr c, i64 i, i64 y.s] z2.2).all fun z3 => z3.1 = i64 m := by
    intro m ρ hm
    refine T.all_mono (fun z hz => ?_) (hT.k.lines hB6.c hs6 (i : Int) hi6)
    obtain ⟨hl, hk, hb⟩ := hz
    rw [Int.toNat_natCast, hLe] at hl
    refine T.all_mono (fun z2 hz2 => ?_) (hT.k.a.same (hl6.keep hk (fun _ _ h => h)) hl (by have := hs.ll hi'; omega))
    obtain ⟨hz2, hw2⟩ := hz2
    refine ⟨by rw [hz2]; simp, by rw [hw2]; exact hk.cells hb16 (fun h => h), ?_⟩
    rw [hw2]
    refine T.all_mono (fun z3 hz3 => ?_) (hT.k.behind (hB6.c.keep hk (fun _ _ h => h)).1 hs6 (by omega) (i : Int) y.s hi6)
    rw [hz3.1, Int.toNat_natCast, hm]
  have htl := hs.time_le y.s
  have hle := hs.seen i y.s hi'
  have wb : IntKind.i64.wrap (behindA s i y.s + 1) = behindA s i y.s + 1 := by unfold behindA; rw [IntKind.wrap_i64]; omega
  have last : ∀ {m : Int} {ρ : Env}, m = behindA (stepC s y) i y.s → ρ 7 = ptr c → ρ 10 = i64 i → ρ 11 = u → ρ 12 = i64 m → ρ 4 = ptr w.heap.size →
      codeR ⟨Try.prog, K, fuel, 12, none, 87, finPost Try.prog [⟨6, none⟩] fun u _ => u = .bool true⟩ t12 [] ρ [] w6 := by
    intro m ρ hm e7 e10 e11 e12 e4
    simp -implicitDefEqProofs [t12, e7, e10, e11]
    refine valA_of (fin (ρ := ρ) hm) (fun u7 w7 hq7 => ?_)
    simp only at hq7
    simp -implicitDefEqProofs [e11]
    refine valA_of hq7 (fun u8 w8 hq8 => ?_)
    obtain ⟨hu8, hb8, hq8⟩ := hq8
    simp only at hu8 hb8 hq8
    subst hu8
    simp -implicitDefEqProofs [e7, e10, e4, hb8]
    refine valA_of hq8 (fun u9 w9 hq9 => ?_)
    simp only at hq9
    subst hq9
    simp -implicitDefEqProofs [e12]
  have w4' : ∀ (p q : Prop) [Decidable p] [Decidable q], True := fun _ _ _ _ => trivial
  by_cases c1 : 4 < y.k
  · by_cases c2 : y.k < 8
    · by_cases c3 : 0 < y.n
      · by_cases c4 : 0 ≤ y.s
        · rw [if_pos ⟨⟨c1, c2⟩, c3, c4⟩] at hbe
          simp -implicitDefEqProofs [hb16, c1, c2, c3, c4, wb]
          exact last (m := behindA s i y.s + 1) hbe.symm (by simp) (by simp) (by simp) (by simp) (by simp)
        · rw [if_neg (fun h => c4 h.2.2)] at hbe
          simp -implicitDefEqProofs [hb16, c1, c2, c3, c4]
          exact last (m := behindA s i y.s) hbe.symm (by simp) (by simp) (by simp) (by simp) (by simp)
      · rw [if_neg (fun h => c3 h.2.1)] at hbe
        simp -implicitDefEqProofs [hb16, c1, c2, c3]
        exact last (m := behindA s i y.s) hbe.symm (by simp) (by simp) (by simp) (by simp) (by simp)
    · rw [if_neg (fun h => c2 h.1.2)] at hbe
      simp -implicitDefEqProofs [hb16, c1, c2]
      exact last (m := behindA s i y.s) hbe.symm (by simp) (by simp) (by simp) (by simp) (by simp)
  · rw [if_neg (fun h => c1 h.1.1)] at hbe
    simp -implicitDefEqProofs [hb16, c1]
    exact last (m := behindA s i y.s) hbe.symm (by simp) (by simp) (by simp) (by simp) (by simp)
end Go.Proofs.Ytplcocifndpplaa
