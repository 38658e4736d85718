/-
  PoolKept: the ideal walk.
-/
import Derived.Test.YtkplodhjceieeaaUk
import Derived.Test.YtkplodhjceieeaaJt
namespace Go.Proofs.Ytkplodhjceieeaa
open Go Go.Ideal

def t9 : GC :=
 (.seq (.ops [.grp none [⟨some 72, none, .raw (Op.makeSlice 42 (.const (.int .i64 1024)) (.const (.int .i64 1024))) 42, []⟩, ⟨some 10, none, .move (.tmp 72), []⟩]]) 
 (.seq 
 (.seq (.ops [.grp none [⟨some 11, none, .move (.const (.int .i64 0)), []⟩]]) 
 (.block 2 
 (.loop 
 (.seq 
 (.seq (.ops [.grp none [⟨some 73, none, .move (.tmp 11), []⟩, ⟨some 74, none, .move (.tmp 7), []⟩, ⟨some 75, none, .bin .lss 3 (.tmp 73) (.tmp 74), []⟩]]) 
 (.cond (.tmp 75) .skip (.exit 2))) 
 (.seq 
 (.block 3 
 (.seq (.ops [.grp none [⟨some 79, none, .move (.tmp 5), []⟩, ⟨some 80, none, .call 34 #[.tmp 79, .const (.bool true)], []⟩, ⟨some 78, none, .move (.tmp 80), []⟩, ⟨some 81, none, .extract (.tmp 78) 0, []⟩, ⟨some 82, none, .extract (.tmp 78) 1, []⟩, ⟨some 12, none, .move (.tmp 81), []⟩, ⟨some 13, none, .move (.tmp 82), []⟩]]) 
 (.seq 
 (.seq (.ops [.grp none [⟨some 83, none, .move (.tmp 13), []⟩, ⟨some 84, none, .bin .neq 27 (.tmp 83) (.const (.int .i64 0)), []⟩, ⟨some 85, none, .move (.tmp 84), []⟩],
  .grp (some (some 85, false)) [⟨some 86, none, .move (.tmp 12), []⟩, ⟨some 87, none, .bin .lss 3 (.tmp 86) (.const (.int .i64 0)), []⟩],
  .grp none [⟨some 88, none, .pick (.tmp 85) (.const (.bool true)) (.tmp 87), []⟩, ⟨some 89, none, .move (.tmp 88), []⟩],
  .grp (some (some 89, false)) [⟨some 90, none, .move (.tmp 12), []⟩, ⟨some 91, none, .move (.tmp 10), []⟩, ⟨some 92, none, .len (.tmp 91), []⟩, ⟨some 93, none, .bin .geq 3 (.tmp 90) (.tmp 92), []⟩],
  .grp none [⟨some 94, none, .pick (.tmp 89) (.const (.bool true)) (.tmp 93), []⟩, ⟨some 95, none, .move (.tmp 94), []⟩],
  .grp (some (some 95, false)) [⟨some 96, none, .move (.tmp 10), []⟩, ⟨some 97, none, .move (.tmp 12), []⟩, ⟨some 98, none, .iaddr 1 (.tmp 96) (.tmp 97), []⟩, ⟨some 99, none, .load none (.tmp 98), []⟩],
  .grp none [⟨some 100, none, .pick (.tmp 95) (.const (.bool true)) (.tmp 99), []⟩]]) 
 (.cond (.tmp 100) 
 (.seq (.ops [.grp none [⟨some 4, none, .move (.const (.bool false)), []⟩]]) .ret) .skip)) (.ops [.grp none [⟨some 101, none, .move (.tmp 10), []⟩, ⟨some 102, none, .move (.tmp 12), []⟩, ⟨some 103, none, .iaddr 1 (.tmp 101) (.tmp 102), []⟩, ⟨none, none, .store 1 (.tmp 103) (.const (.bool true)), []⟩]])))) (.ops [.grp none [⟨some 76, none, .move (.tmp 11), []⟩, ⟨some 77, none, .bin .add 3 (.tmp 76) (.const (.int .i64 1)), []⟩, ⟨some 11, none, .move (.tmp 77), []⟩]])))))) 
 (.seq (.ops [.grp none [⟨some 104, none, .move (.tmp 5), []⟩, ⟨some 105, none, .call 35 #[.tmp 104], []⟩, ⟨some 106, none, .bin .eql 3 (.tmp 105) (.const (.int .i64 0)), []⟩, ⟨some 4, none, .move (.tmp 106), []⟩]]) .ret)))
def t9b : GC :=
 (.seq (.ops [.grp none [⟨some 61, none, .move (.tmp 5), []⟩, ⟨some 62, none, .call 35 #[.tmp 61], []⟩, ⟨some 63, none, .move (.tmp 7), []⟩, ⟨some 64, none, .bin .neq 3 (.tmp 62) (.tmp 63), []⟩, ⟨some 65, none, .move (.tmp 64), []⟩],
  .grp (some (some 65, false)) [⟨some 66, none, .move (.tmp 5), []⟩, ⟨some 67, none, .call 32 #[.tmp 66], []⟩, ⟨some 68, none, .len (.tmp 67), []⟩, ⟨some 69, none, .move (.tmp 7), []⟩, ⟨some 70, none, .bin .lss 3 (.tmp 68) (.tmp 69), []⟩],
  .grp none [⟨some 71, none, .pick (.tmp 65) (.const (.bool true)) (.tmp 70), []⟩]]) 
 (.cond (.tmp 71) 
 (.seq (.ops [.grp none [⟨some 4, none, .move (.const (.bool false)), []⟩]]) .ret) .skip))
def g9c : GFn :=
 ⟨107, [⟨4, none⟩], .seq (.ops [.grp none [⟨some 4, none, .move (.const (.bool false)), []⟩]]) 
 (.seq (.ops [.grp none [⟨some 15, none, .move (.tmp 0), []⟩, ⟨some 16, none, .call 30 #[.tmp 15], []⟩, ⟨some 14, none, .move (.tmp 16), []⟩, ⟨some 17, none, .extract (.tmp 14) 0, []⟩, ⟨some 18, none, .extract (.tmp 14) 1, []⟩, ⟨some 5, none, .move (.tmp 17), []⟩, ⟨some 6, none, .move (.tmp 18), []⟩]]) 
 (.seq 
 (.seq (.ops [.grp none [⟨some 19, none, .move (.tmp 5), []⟩, ⟨some 20, none, .bin .eql 54 (.tmp 19) (.const (.pointer none)), []⟩, ⟨some 21, none, .move (.tmp 20), []⟩],
  .grp (some (some 21, false)) [⟨some 22, none, .call 31 #[], []⟩, ⟨some 23, none, .un .not (.tmp 22), []⟩],
  .grp none [⟨some 24, none, .pick (.tmp 21) (.const (.bool true)) (.tmp 23), []⟩]]) 
 (.cond (.tmp 24) 
 (.seq (.ops [.grp none [⟨some 4, none, .move (.const (.bool false)), []⟩]]) .ret) .skip)) 
 (.seq (.ops [.grp none [⟨some 25, none, .move (.tmp 5), []⟩, ⟨some 26, none, .call 35 #[.tmp 25], []⟩, ⟨some 7, none, .move (.tmp 26), []⟩]]) 
 (.seq 
 (.seq (.ops [.grp none [⟨some 8, none, .move (.const (.int .i64 0)), []⟩]]) 
 (.block 0 
 (.loop 
 (.seq 
 (.seq (.ops [.grp none [⟨some 27, none, .move (.tmp 8), []⟩, ⟨some 28, none, .move (.tmp 1), []⟩, ⟨some 29, none, .len (.tmp 28), []⟩, ⟨some 30, none, .bin .lss 3 (.tmp 27) (.tmp 29), []⟩, ⟨some 31, none, .move (.tmp 30), []⟩],
  .grp (some (some 31, true)) [⟨some 32, none, .move (.tmp 8), []⟩, ⟨some 33, none, .bin .lss 3 (.tmp 32) (.const (.int .i64 40)), []⟩],
  .grp none [⟨some 34, none, .pick (.tmp 31) (.tmp 33) (.const (.bool false)), []⟩]]) 
 (.cond (.tmp 34) .skip (.exit 0))) 
 (.seq 
 (.block 1 
 (.seq 
 (.seq (.ops [.grp none [⟨some 37, none, .move (.tmp 1), []⟩, ⟨some 38, none, .move (.tmp 8), []⟩, ⟨some 39, none, .iaddr 4 (.tmp 37) (.tmp 38), []⟩, ⟨some 40, none, .load (some 4) (.tmp 39), []⟩, ⟨some 9, none, .zero 63 #[.int .i64 0, .int .i64 0, .int .i64 0, .bool false], []⟩, ⟨none, none, .store 4 (.tmp 9) (.tmp 40), []⟩]]) 
 (.seq (.ops [.grp none [⟨some 41, none, .faddr 0 (.tmp 9), []⟩, ⟨some 42, none, .load none (.tmp 41), []⟩, ⟨some 43, none, .bin .eql 3 (.tmp 42) (.const (.int .i64 2)), []⟩, ⟨some 44, none, .move (.tmp 43), []⟩],
  .grp (some (some 44, false)) [⟨some 45, none, .faddr 0 (.tmp 9), []⟩, ⟨some 46, none, .load none (.tmp 45), []⟩, ⟨some 47, none, .bin .eql 3 (.tmp 46) (.const (.int .i64 5)), []⟩],
  .grp none [⟨some 48, none, .pick (.tmp 44) (.const (.bool true)) (.tmp 47), []⟩, ⟨some 49, none, .move (.tmp 48), []⟩],
  .grp (some (some 49, false)) [⟨some 50, none, .faddr 0 (.tmp 9), []⟩, ⟨some 51, none, .load none (.tmp 50), []⟩, ⟨some 52, none, .bin .eql 3 (.tmp 51) (.const (.int .i64 6)), []⟩],
  .grp none [⟨some 53, none, .pick (.tmp 49) (.const (.bool true)) (.tmp 52), []⟩]]) 
 (.cond (.tmp 53) 
 (.seq (.ops [.grp none [⟨some 54, none, .faddr 0 (.tmp 9), []⟩, ⟨some 55, none, .load none (.tmp 54), []⟩, ⟨some 56, none, .bin .eql 3 (.tmp 55) (.const (.int .i64 2)), []⟩]]) 
 (.cond (.tmp 56) (.ops [.grp none [⟨some 57, none, .move (.tmp 5), []⟩, ⟨some 58, none, .call 33 #[.tmp 57], []⟩]]) (.ops [.grp none [⟨some 59, none, .move (.tmp 5), []⟩, ⟨some 60, none, .call 34 #[.tmp 59, .const (.bool false)], []⟩]]))) .skip))) 
 t9b)) (.ops [.grp none [⟨some 35, none, .move (.tmp 8), []⟩, ⟨some 36, none, .bin .add 3 (.tmp 35) (.const (.int .i64 1)), []⟩, ⟨some 8, none, .move (.tmp 36), []⟩]])))))) 
 t9))))⟩
theorem low9c : lowG Try.prog 9 = some g9c := low9

theorem take_pr (s : PS) : (takeA s false).2.pr = s.pr := by
  unfold takeA
  split
  · rfl
  · split <;> simp [setA]
theorem shrink_pr {s : PS} (h : s.ok) : (shrinkA s).2.pr = s.pr := by
  by_cases h0 : spareA s < 1
  · have hsh : shrinkA s = ((0, 12), s) := by unfold shrinkA; rw [if_pos h0]
    rw [hsh]
  · exact (shrink_facts h h0).2.2.1
theorem take_true {s : PS} (h : s.ok) (hp : 1 ≤ s.pr) : ∃ f, takeA s true = ((f, 0), { setA s f 2 with pr := s.pr - 1 }) ∧ 0 ≤ f ∧ f < 1024 ∧ isAt s.is f = 1 := by
  have h1 : ¬ (true = true ∧ s.pr < 1) := by simp; omega
  have h2 : ¬ (true = false ∧ spareA s < 1) := by simp
  have hne := take_ne h h1 h2
  obtain ⟨g0, g1, g2, _⟩ := free_even h (head_mem hne)
  refine ⟨headL (freeL s.is), ?_, g0, by omega, g2⟩
  unfold takeA
  rw [if_neg h1, if_neg h2]
  simp

theorem tail9 {K : Kont} {fuel : Nat} (hT : Top K) {Q : SPost} {k : List FI} {w : World} {ρ : Env} {b r : Nat} {n : Int} {s : PS} (hp : PoolAt w b r s) (ho : s.ok) (hn : s.pr = n) (e5 : ρ 5 = pt b) (e7 : ρ 7 = n64 n)
    (hgo : ∀ (ρ' : Env) (w' : World), Keeps w w' (fun _ => False) → (ρ' 1 = ρ 1 ∧ ρ' 5 = ρ 5 ∧ ρ' 7 = ρ 7 ∧ ρ' 8 = ρ 8) → goN ⟨Try.prog, K, fuel, 9, none, 107, Q⟩ k ρ' [] w') :
    codeR ⟨Try.prog, K, fuel, 9, none, 107, Q⟩ t9b k ρ [] w := by
  simp -implicitDefEqProofs [t9b, e5]
  refine valA_of (hT.a.l.l.promised hp) (fun u w5 hq => ?_)
  obtain ⟨hu, hk5⟩ := hq
  simp only at hu hk5
  subst hu
  have hp5 := hp.keep hk5 (fun h => h) (fun h => h)
  simp -implicitDefEqProofs [e5, e7, hn]
  refine valA_of (hT.a.l.l.free hp5 ho) (fun u w6 hq => ?_)
  obtain ⟨hr6, hk6, _⟩ := hq
  simp only at hr6 hk6
  have hpr := ho.pr
  have hle : ¬ ((freeL s.is).length : Int) < n := by omega
  simp -implicitDefEqProofs [hr6.lenS, e7, hle]
  refine hgo _ _ (hk5.trans hk6 (fun _ _ h => h) (fun _ _ h => h)) ?_
  simp

theorem info4 : ∃ i, Try.prog.info? 4 = some i ∧ i.zero = some (.bool false) ∧ i.size = 1 ∧ i.bytes = 1 := by
  have h1 : (Try.prog.info? 4).map (·.zero) = some (some (.bool false)) := by kernel_rfl
  have h2 : (Try.prog.info? 4).map (·.size) = some 1 := by kernel_rfl
  have h3 : (Try.prog.info? 4).map (·.bytes) = some 1 := by kernel_rfl
  cases h : Try.prog.info? 4 with
  | none => rw [h] at h1; cases h1
  | some i =>
    rw [h] at h1 h2 h3
    simp only [Option.map_some, Option.some.injEq] at h1 h2 h3
    exact ⟨i, rfl, h1, h2, h3⟩

theorem rest9 {K : Kont} {fuel : Nat} (hT : Top K) (hf : 4000 ≤ fuel) {w : World} {ρ : Env} {b r : Nat} {s : PS} (hp : PoolAt w b r s) (ho : s.ok) (e5 : ρ 5 = pt b) (e7 : ρ 7 = n64 s.pr) :
    codeR ⟨Try.prog, K, fuel, 9, none, 107, finPost Try.prog [⟨4, none⟩] fun u _ => u = .bool true⟩ t9 [] ρ [] w := by
  have hbl := hp.blt
  have hrl := hp.rlt
  simp -implicitDefEqProofs [t9]
  obtain ⟨i, hi, hz, hsz, hby⟩ := info4
  refine valA_of (R := fun z => z.1 = .slice (some ⟨w.heap.size, 0, none⟩) 1024 1024 ∧ z.2 = World.push w (.cells (Array.replicate 1024 (.bool false)) 4)) (make_go (P := Try.prog) (n := 1024) (by kernel_rfl) hi hz rfl hsz rfl (by omega) (by omega) (by omega) ⟨rfl, rfl⟩) (fun u w1 hq => ?_)
  obtain ⟨hu, hw1⟩ := hq
  simp only at hu hw1
  have kp : Keeps w w1 (fun _ => False) := by rw [hw1]; exact Keeps.push _ _ _
  have hc1 : cellsOf? w1 w.heap.size = some (Array.replicate 1024 (.bool false), 4, (0, 0)) := by rw [hw1]; simp
  have hp1 := hp.keep kp (fun h => h) (fun h => h)
  have hfl := free_128 ho
  have hpr := ho.pr
  clear hw1
  subst hu
  generalize hm : w.heap.size = m at *
  simp -implicitDefEqProofs
  refine loop_go (fun i ρ w' => ∃ (q : Nat) (s' : PS) (c : Array Value), i = s.pr.toNat - q ∧ (q : Int) ≤ s.pr ∧ PoolAt w' b r s' ∧ s'.ok ∧ s'.pr + q = s.pr ∧ cellsOf? w' m = some (c, 4, (0, 0)) ∧ c.size = 1024 ∧ (∀ i : Nat, i < 1024 → ∃ t, c[i]? = some (.bool t) ∧ (t = true → isAt s'.is i ≠ 1)) ∧ ρ 5 = pt b ∧ ρ 7 = n64 s.pr ∧ ρ 10 = .slice (some ⟨m, 0, none⟩) 1024 1024 ∧ ρ 11 = n64 q) ?_ (i := s.pr.toNat) ?_ (by show s.pr.toNat < fuel; omega)
  · rintro i ρ w' ⟨q, s', c, rfl, hq, hp', ho', hpq, hc, hcs, hmet, e5, e7, e10, e11⟩
    have w1 : IntKind.i64.wrap ((q : Int) + 1) = (q : Int) + 1 := by rw [IntKind.wrap_i64]; omega
    by_cases h1 : (q : Int) < s.pr
    · obtain ⟨f, ht, f0, f1, f2⟩ := take_true ho' (by omega)
      simp -implicitDefEqProofs [e5, e7, e11, h1]
      refine valA_of (hT.a.take hp' ho' true) (fun u w3 hq3 => ?_)
      obtain ⟨hu, hp3⟩ := hq3
      simp only at hu hp3
      subst hu
      have hok3 := take_ok ho' true
      rw [ht] at hp3 hok3
      have hc3 : cellsOf? w3 m = some (c, 4, (0, 0)) := hp3.2.cells hc (fun e => by rcases e with e | e <;> omega)
      obtain ⟨n, rfl⟩ : ∃ n : Nat, f = n := ⟨f.toNat, by omega⟩
      have hn : n < 1024 := by omega
      have hn0 : ¬ (n : Int) < 0 := by omega
      have hn1 : ¬ (1024 : Int) ≤ n := by omega
      have hn2 : (n : Int) < 1024 := by omega
      obtain ⟨t, hct, htt⟩ := hmet n hn
      have ht0 : t = false := by
        cases t with
        | false => rfl
        | true => exact absurd f2 (htt rfl)
      subst ht0
      have hget : c[n]'(by omega) = .bool false := by
        rw [Array.getElem?_eq_getElem (by omega)] at hct
        exact Option.some.inj hct
      have hn3 : n ≤ 1023 := by omega
      simp -implicitDefEqProofs [ht, e10, e11, w1, hc3, hcs, hn, hn0, hn1, hn2, hn3, hget]
      refine ⟨s.pr.toNat - (q + 1), by omega, q + 1, rfl, by omega, { setA s' n 2 with pr := s'.pr - 1 }, ?_, hok3, ?_, c.setIfInBounds n (.bool true), by simp [cells_lt hc3], by simp [hcs], ?_, by simp [e5], by simp [e7], by omega⟩
      · exact hp3.1.keep (Keeps.set _ m _ (F := fun j => j = m) (fun _ => rfl)) (fun e => by omega) (fun e => by omega)
      · show s'.pr - 1 + ((q + 1 : Nat) : Int) = s.pr
        omega
      · intro i hi
        have hset : isAt (setA s' n 2).is i = if (i : Int) = n then 2 else isAt s'.is i := isAt_set s'.is n 2 i (by omega) (by rw [ho'.len]; omega)
        show _ ∨ _ ∧ ¬ isAt (setA s' n 2).is i = 1
        rw [hset]
        by_cases hin : i = n
        · subst hin
          rw [if_pos rfl]
          exact .inr ⟨by simp [hcs, hi], by omega⟩
        · rw [if_neg (by omega), Array.getElem?_setIfInBounds_ne (by omega)]
          obtain ⟨t, h3, h4⟩ := hmet i hi
          cases t with
          | false => exact .inl h3
          | true => exact .inr ⟨h3, h4 rfl⟩
    · have hqe : (q : Int) = s.pr := by omega
      have hp0 : s'.pr = 0 := by omega
      simp -implicitDefEqProofs [e5, e7, e11, h1]
      refine valA_of (hT.a.l.l.promised hp') (fun u w3 hq3 => ?_)
      obtain ⟨hu, _⟩ := hq3
      simp only at hu
      subst hu
      simp -implicitDefEqProofs [hp0]
  · refine ⟨0, s, Array.replicate 1024 (.bool false), by omega, by omega, hp1, ho, by omega, hc1, by simp, fun i hi => ⟨false, by simp [hi], by simp⟩, by simp [e5], by simp [e7], by simp, by simp⟩

theorem run9 {K : Kont} {fuel : Nat} (hT : Top K) (hf : 4000 ≤ fuel) {w : World} {v v2 : Value} {xs ys : List ActP} (hv : ActsAt w v xs) (hv2 : ActsAt w v2 ys) : wpGFn Try.prog K fuel 9 g9c #[v, v2] w fun u _ => u = .bool true := by
  rw [gfn_start]
  simp -implicitDefEqProofs [g9c]
  refine valA_of (hT.made hv) (fun u w1 hq => ?_)
  obtain ⟨b, r, x, y, hu, hB, hk1, hb, hr, hx, hy⟩ := hq
  simp only at hu hB hk1
  subst hu
  have hok : (runS (newA 3 2) (xs.take 60)).ok := run_ok _ (new_ok (.inl rfl) (by omega))
  generalize runS (newA 3 2) (xs.take 60) = s at *
  simp -implicitDefEqProofs [nil54]
  refine valA_of (hT.awake _) (fun u w2 hq => ?_)
  obtain ⟨hu, hk2⟩ := hq
  simp only at hu hk2
  subst hu
  have hp2 := (hB.keep hk2).p
  simp -implicitDefEqProofs
  refine valA_of (hT.a.l.l.promised hp2) (fun u w3 hq => ?_)
  obtain ⟨hu, hk3⟩ := hq
  simp only at hu hk3
  subst hu
  have hp3 := hp2.keep hk3 (fun h => h) (fun h => h)
  have hk13 : Keeps w w3 (fun _ => False) := hk1.trans (hk2.trans hk3 (H := fun _ => False) (fun _ _ h => h) (fun _ _ h => h)) (fun _ _ h => h) (fun _ _ h => h)
  simp -implicitDefEqProofs
  refine loop_go (fun i ρ w' => ∃ (q : Nat) (s' : PS), i = 40 - q ∧ q ≤ 40 ∧ PoolAt w' b r s' ∧ s'.ok ∧ s'.pr = s.pr ∧ Keeps w3 w' (Mv4 b r x y) ∧ ρ 1 = v2 ∧ ρ 5 = pt b ∧ ρ 7 = n64 s.pr ∧ ρ 8 = n64 q) ?_ (i := 40) ?_ (by show 40 < fuel; omega)
  · rintro i ρ w' ⟨q, s', rfl, hq, hP', ho, hpr, hk', e1, e5, e7, e8⟩
    have hkw := fresh_keep hk13 hk' hb hr hx hy
    have hv' := hv2.keep hkw
    have w1 : IntKind.i64.wrap ((q : Int) + 1) = (q : Int) + 1 := by rw [IntKind.wrap_i64]; omega
    by_cases h1 : q < ys.length
    · have h1' : (q : Int) < ys.length := by omega
      by_cases h2 : q < 40
      · have h2' : (q : Int) < 40 := by omega
        obtain ⟨bb, oo, cap, c, e, fz, hve, hc, hsz, hext, hbb⟩ := hv'.at h1
        have kbox : Keeps w' (World.set (World.push w' (.cells #[.int .i64 0, .int .i64 0, .int .i64 0, .bool false] 63)) w'.heap.size (.cells ys[q].cells 63)) (fun _ => False) :=
          (Keeps.push w' _ (fun _ => False)).trans (Keeps.set _ w'.heap.size _ (F := fun j => j = w'.heap.size) (fun _ => rfl)) (fun _ _ h => h) (fun j hj h => by omega)
        have hbox : cellsOf? (World.set (World.push w' (.cells #[.int .i64 0, .int .i64 0, .int .i64 0, .bool false] 63)) w'.heap.size (.cells ys[q].cells 63)) w'.heap.size = some (#[n64 ys[q].k, n64 ys[q].f, n64 ys[q].n, .bool ys[q].yes], 63, (0, 0)) := by simp [ActP.cells]
        have hPb := hP'.keep kbox (fun h => h) (fun h => h)
        have hput : putCells #[Value.int .i64 0, Value.int .i64 0, Value.int .i64 0, Value.bool false] 0 ys[q].cells.toList = ys[q].cells := by simp [ActP.cells]
        have hone : ys[q].cells.toList.all one1 = true := rfl
        have hsize : ys[q].cells.size = 4 := rfl
        have hc0 : ∀ h, (ys[q]'h1).cells[0]'h = n64 ys[q].k := fun _ => rfl
        have kw : ∀ {w3' : World} {s3 : PS}, PoolTo (World.set (World.push w' (.cells #[.int .i64 0, .int .i64 0, .int .i64 0, .bool false] 63)) w'.heap.size (.cells ys[q].cells 63)) w3' b r s3 → Keeps w3 w3' (Mv4 b r x y) := fun h3 =>
          hk'.trans (kbox.trans h3.2 (H := Mv4 b r x y) (fun _ _ h => h.elim) (fun _ _ h => .inl h)) (fun _ _ h => h) (fun _ _ h => h)
        have kw0 : Keeps w3 (World.set (World.push w' (.cells #[.int .i64 0, .int .i64 0, .int .i64 0, .bool false] 63)) w'.heap.size (.cells ys[q].cells 63)) (Mv4 b r x y) := hk'.trans kbox (fun _ _ h => h) (fun _ _ h => h.elim)
        simp -implicitDefEqProofs [e1, e5, e7, e8, hv'.lenS, h1', h2', hve, hc, hsz, hext, h1, hput, hone, hsize, hc0]
        generalize hW : World.set (World.push w' (.cells #[.int .i64 0, .int .i64 0, .int .i64 0, .bool false] 63)) w'.heap.size (.cells ys[q].cells 63) = wb at *
        by_cases k2 : ys[q].k = 2
        · simp -implicitDefEqProofs [hbox, hc0, k2]
          refine valA_of (hT.a.shrink hPb ho) (fun u w4 hq4 => ?_)
          obtain ⟨hu, hP4⟩ := hq4
          simp only at hu hP4
          subst hu
          simp -implicitDefEqProofs
          refine tail9 hT hP4.1 (shrink_ok ho) ((shrink_pr ho).trans hpr) (by simp [e5]) (by simp [e7]) (fun ρ' w5 hk5 hE => ?_)
          obtain ⟨g1, g5, g7, g8⟩ := hE
          simp at g1 g5 g7 g8
          simp -implicitDefEqProofs [g8, e8, w1]
          exact ⟨40 - (q + 1), by omega, q + 1, rfl, by omega, (shrinkA s').2, hP4.1.keep hk5 (fun h => h) (fun h => h), (shrink_ok ho), ((shrink_pr ho).trans hpr), (kw hP4).trans hk5 (fun _ _ h => h) (fun _ _ h => h.elim), by simp [g1, e1, hve], by simp [g5, e5], by simp [g7, e7], by omega⟩
        · skip
          by_cases k5 : ys[q].k = 5
          · simp -implicitDefEqProofs [hbox, hc0, k5]
            refine valA_of (hT.a.take hPb ho false) (fun u w4 hq4 => ?_)
            obtain ⟨hu, hP4⟩ := hq4
            simp only at hu hP4
            subst hu
            simp -implicitDefEqProofs
            refine tail9 hT hP4.1 (take_ok ho _) ((take_pr s').trans hpr) (by simp [e5]) (by simp [e7]) (fun ρ' w5 hk5 hE => ?_)
            obtain ⟨g1, g5, g7, g8⟩ := hE
            simp at g1 g5 g7 g8
            simp -implicitDefEqProofs [g8, e8, w1]
            exact ⟨40 - (q + 1), by omega, q + 1, rfl, by omega, (takeA s' false).2, hP4.1.keep hk5 (fun h => h) (fun h => h), (take_ok ho _), ((take_pr s').trans hpr), (kw hP4).trans hk5 (fun _ _ h => h) (fun _ _ h => h.elim), by simp [g1, e1, hve], by simp [g5, e5], by simp [g7, e7], by omega⟩
          · skip
            by_cases k6 : ys[q].k = 6
            · simp -implicitDefEqProofs [hbox, hc0, k6]
              refine valA_of (hT.a.take hPb ho false) (fun u w4 hq4 => ?_)
              obtain ⟨hu, hP4⟩ := hq4
              simp only at hu hP4
              subst hu
              simp -implicitDefEqProofs
              refine tail9 hT hP4.1 (take_ok ho _) ((take_pr s').trans hpr) (by simp [e5]) (by simp [e7]) (fun ρ' w5 hk5 hE => ?_)
              obtain ⟨g1, g5, g7, g8⟩ := hE
              simp at g1 g5 g7 g8
              simp -implicitDefEqProofs [g8, e8, w1]
              exact ⟨40 - (q + 1), by omega, q + 1, rfl, by omega, (takeA s' false).2, hP4.1.keep hk5 (fun h => h) (fun h => h), (take_ok ho _), ((take_pr s').trans hpr), (kw hP4).trans hk5 (fun _ _ h => h) (fun _ _ h => h.elim), by simp [g1, e1, hve], by simp [g5, e5], by simp [g7, e7], by omega⟩
            · skip
              simp -implicitDefEqProofs [hbox, hc0, k2, k5, k6]
              refine tail9 hT hPb ho hpr (by simp [e5]) (by simp [e7]) (fun ρ' w5 hk5 hE => ?_)
              obtain ⟨g1, g5, g7, g8⟩ := hE
              simp at g1 g5 g7 g8
              simp -implicitDefEqProofs [g8, e8, w1]
              exact ⟨40 - (q + 1), by omega, q + 1, rfl, by omega, s', hPb.keep hk5 (fun h => h) (fun h => h), ho, hpr, kw0.trans hk5 (fun _ _ h => h) (fun _ _ h => h.elim), by simp [g1, e1, hve], by simp [g5, e5], by simp [g7, e7], by omega⟩
      · have : q = 40 := by omega
        subst this
        have h5 : (40 : Int) < ys.length := by omega
        simp -implicitDefEqProofs [e1, e8, hv'.lenS, h5]
        exact rest9 hT hf hP' ho (by simp [e5]) (by simp [e7, hpr])
    · have h1' : ¬ (q : Int) < ys.length := by omega
      simp -implicitDefEqProofs [e1, e8, hv'.lenS, h1']
      exact rest9 hT hf hP' ho (by simp [e5]) (by simp [e7, hpr])
  · exact ⟨0, s, rfl, by omega, hp3, hok, rfl, Keeps.refl _ _, by simp, by simp, by simp, by simp⟩
end Go.Proofs.Ytkplodhjceieeaa
