/-
  Rmap: rows of spots in memory; comparing; the binary search.
-/
import Derived.Test.YtcfhhfdkecbphaaRc
import Derived.Test.YtcfhhfdkecbphaaRd
import Derived.Test.YtcfhhfdkecbphaaRe
import Derived.Test.YtcfhhfdkecbphaaRs
import Derived.Test.YtcfhhfdkecbphaaJt
namespace Go.Proofs.Ytcfhhfdkecbphaa
open Go Go.Ideal

def ESp : En Sp := ⟨2, 27, fun s => [.int .i64 s.1, .int .i64 s.2], fun _ => rfl, fun _ v hv => by simp at hv; rcases hv with rfl | rfl <;> rfl, by decide⟩
abbrev spV (s : Sp) : Value := .agg #[.int .i64 s.1, .int .i64 s.2]

theorem rowTag {α : Type} {E : En α} {w : World} {v : Value} {xs : List α} (h : RowE E w v xs) {j : Nat} (hj : blkOf v = some j) : ∃ c, cellsOf? w j = some (c, E.te, (0, 0)) := by
  rcases h with ⟨rfl, _⟩ | ⟨b', o, cap, c, rfl, hc, _⟩
  · cases hj
  · simp only [blkOf, Option.some.injEq] at hj; subst hj; exact ⟨_, hc⟩

theorem nil23 {o1 o2 : Operand} {p : Option Addr} {w : World} : binS Try.prog .eql 23 o1 o2 (.pointer p) (.pointer none) w = .ret (.bool p.isNone, w) := nilEq (by kernel_rfl) (by kernel_rfl)
theorem under49 : Try.prog.underlying 49 = some (.map 3 36) := by kernel_rfl
theorem body (f : Nat) (h : (Try.prog.funcs[f]?).any (fun fn => fn.body.isSome && fn.name != "runtime.NumGoroutine") = true) (K : Kont) (args cap : Array Value) (w : World) : callV Try.prog K (.func (.func f) #[] cap) args w = K.enter f (args ++ cap) w := by
  unfold callV
  simp only [h, and_self, Array.size_empty, if_true]
theorem body23 : (Try.prog.funcs[23]?).any (fun fn => fn.body.isSome && fn.name != "runtime.NumGoroutine") = true := by kernel_rfl

/-! ### Comparing -/
def cmpI (a b : Int) : Int := if a < b then -1 else if b < a then 1 else 0
def cmpS (a b : Sp) : Int := if a.1 ≠ b.1 then cmpI a.1 b.1 else cmpI a.2 b.2
theorem cmp_lt (a b : Sp) : cmpS a b < 0 ↔ ltS a b := by
  unfold cmpS cmpI ltS
  split <;> split <;> (try split) <;> omega
theorem cmp_eq (a b : Sp) : cmpS a b = 0 ↔ a = b := by
  obtain ⟨a1, a2⟩ := a; obtain ⟨b1, b2⟩ := b
  unfold cmpS cmpI
  simp only [Prod.mk.injEq]
  split <;> split <;> (try split) <;> omega

structure Cmp0 (K : Kont) : Prop where
  go : ∀ w a b, (K.enter 30 #[n64 a, n64 b] w).all fun z => z.1 = n64 (cmpI a b) ∧ z.2 = w
structure Cmp1 (K : Kont) : Prop where
  go : ∀ w a b, (K.enter 23 #[spV a, spV b] w).all fun z => z.1 = n64 (cmpS a b) ∧ Keeps w z.2 (fun _ => False)

theorem run30 {K : Kont} {fuel : Nat} {w : World} (a b : Int) : wpGFn Try.prog K fuel 30 g30 #[n64 a, n64 b] w fun v w' => v = n64 (cmpI a b) ∧ w' = w := by
  rw [gfn_start]
  by_cases h1 : a < b
  · simp -implicitDefEqProofs [g30, h1, cmpI]
  · by_cases h2 : b < a
    · simp -implicitDefEqProofs [g30, h1, h2, cmpI]
    · simp -implicitDefEqProofs [g30, h1, h2, cmpI]

theorem run23 {K : Kont} {fuel : Nat} (hC : Cmp0 K) {w : World} (a b : Sp) : wpGFn Try.prog K fuel 23 g23 #[spV a, spV b] w fun v w' => v = n64 (cmpS a b) ∧ Keeps w w' (fun _ => False) := by
  rw [gfn_start]
  obtain ⟨a1, a2⟩ := a; obtain ⟨b1, b2⟩ := b
  have hk : Keeps w (World.push (World.push w (.cells #[.int .i64 a1, .int .i64 a2] 27)) (.cells #[.int .i64 b1, .int .i64 b2] 27)) (fun _ => False) := (Keeps.push _ _ (fun _ => False)).trans (Keeps.push _ _ (fun _ => False)) (fun _ _ h => h) (fun _ _ h => h)
  by_cases h : a1 = b1
  · simp -implicitDefEqProofs [g23, h]
    refine valA_of (hC.go _ _ _) (fun u w2 hq => ?_)
    obtain ⟨hu, hw⟩ := hq
    simp only at hu hw
    subst hu hw
    simp -implicitDefEqProofs [cmpS, h]
    subst h
    exact hk
  · simp -implicitDefEqProofs [g23, h]
    refine valA_of (hC.go _ _ _) (fun u w2 hq => ?_)
    obtain ⟨hu, hw⟩ := hq
    simp only at hu hw
    subst hu hw
    simp -implicitDefEqProofs [cmpS, h]
    exact hk

/-! ### The search -/
structure Srch (K : Kont) : Prop where
  go : ∀ {w : World} {v : Value} {l : List Sp}, RowE ESp w v l → l.Pairwise ltS → l.length ≤ 1000000 → ∀ s, (K.enter 22 #[v, spV s, .func (.func 23) #[] #[]] w).all fun z => z.1 = .tuple #[n64 (pos s l), .bool (decide (s ∈ l))] ∧ Keeps w z.2 (fun _ => False)

theorem shr1 {o1 o2 : Operand} {w : World} (i j q : Nat) (hq : q = (i + j) / 2) : binS Try.prog .shr 63 o1 o2 (.int .u64 ((i : Int) + j)) (.int .u64 1) w = .ret (.int .u64 q, w) := by
  have h1 : min (1 : Int).toNat IntKind.u64.bits = 1 := by decide
  have h2 : ((i : Int) + j).fdiv 2 = q := by rw [Int.fdiv_eq_ediv_of_nonneg _ (by decide)]; omega
  simp only [binS, arith, or_true, true_or, if_true, h1, h2, T.bind]
  simp
  exact h2

theorem run22 {K : Kont} {fuel : Nat} (hC : Cmp1 K) (hf : 2000000 ≤ fuel) {w : World} {v : Value} {l : List Sp} (hv : RowE ESp w v l) (hl : l.Pairwise ltS) (hn : l.length ≤ 1000000) (s : Sp) :
    wpGFn Try.prog K fuel 22 g22 #[v, spV s, .func (.func 23) #[] #[]] w fun u w' => u = .tuple #[n64 (pos s l), .bool (decide (s ∈ l))] ∧ Keeps w w' (fun _ => False) := by
  rw [gfn_start]
  have hlen := fun w' => hv.lenS (w' := w')
  have hpl := pos_le s l
  simp -implicitDefEqProofs [g22, hlen]
  have hk1 : Keeps w (World.push w (.cells #[.int .i64 s.1, .int .i64 s.2] 27)) (fun _ => False) := Keeps.push _ _ _
  have hb1 : cellsOf? (World.push w (.cells #[.int .i64 s.1, .int .i64 s.2] 27)) w.heap.size = some (#[.int .i64 s.1, .int .i64 s.2], 27, (0, 0)) := by simp
  generalize World.push w (.cells #[.int .i64 s.1, .int .i64 s.2] 27) = w1 at *
  refine loop_go (fun k ρ w' => ∃ i j : Nat, k = j - i ∧ i ≤ pos s l ∧ pos s l ≤ j ∧ j ≤ l.length ∧ ρ 9 = n64 i ∧ ρ 10 = n64 j ∧ ρ 0 = v ∧ ρ 2 = .func (.func 23) #[] #[] ∧ ρ 4 = pt w.heap.size ∧ ρ 8 = n64 l.length ∧ Keeps w1 w' (fun _ => False)) ?_ (i := l.length) ?_ (by show l.length < fuel; omega)
  · rintro k ρ w2 ⟨i, j, rfl, hi, hj, hjl, e9, e10, e0, e2, e4, e8, hk⟩
    by_cases h : i < j
    · obtain ⟨mid, hmid⟩ : ∃ mid, mid = (i + j) / 2 := ⟨_, rfl⟩
      have hm1 : i ≤ mid := by omega
      have hm2 : mid < j := by omega
      have hml : mid < l.length := by omega
      have hv' := hv.keep (hk1.trans hk (H := fun _ => False) (fun _ _ h => h) (fun _ _ h => h)) (fun _ _ h => h)
      have hb' := hk.cells hb1 (fun h => h)
      obtain ⟨rb, ro, rcap, rc, hve, hrc, hrsz, hext, _⟩ := hv'.at hml
      simp only [ESp] at hrc hrsz hext
      have x1 : IntKind.i64.wrap ((i : Int) + j) = (i : Int) + j := by rw [IntKind.wrap_i64]; omega
      have x2 : IntKind.u64.wrap ((i : Int) + j) = (i : Int) + j := by rw [IntKind.wrap_u64]; omega
      have x3 : IntKind.i64.wrap (mid : Int) = mid := by rw [IntKind.wrap_i64]; omega
      have x4 : IntKind.i64.wrap ((mid : Int) + 1) = (mid : Int) + 1 := by rw [IntKind.wrap_i64]; omega
      have hsh := fun o1 o2 w => shr1 (o1 := o1) (o2 := o2) (w := w) i j mid hmid
      simp -implicitDefEqProofs [e9, e10, e0, e2, e4, e8, h, x1, x2, x3, hsh, hve, hrc, hrsz, hext, hml, hb', body 23 body23]
      refine valA_of (hC.go _ l[mid] s) (fun u w3 hq => ?_)
      obtain ⟨hu, hk3⟩ := hq
      simp only at hu hk3
      subst hu
      have hpm := pos_lt hl mid hml (s := s)
      have hkk := hk.trans hk3 (H := fun _ => False) (fun _ _ h => h) (fun _ _ h => h)
      by_cases hc : ltS l[mid] s
      · have hc2 := (cmp_lt l[mid] s).2 hc
        have hp2 := hpm.2 hc
        simp -implicitDefEqProofs [e9, e10, e0, e2, e4, e8, hc2, x4]
        exact ⟨j - (mid + 1), by omega, mid + 1, j, rfl, by omega, hj, hjl, by simp, rfl, hve, hkk⟩
      · have hc2 : ¬ cmpS l[mid] s < 0 := fun h => hc ((cmp_lt _ _).1 h)
        have hp2 : ¬ mid < pos s l := fun h => hc (hpm.1 h)
        simp -implicitDefEqProofs [e9, e10, e0, e2, e4, e8, hc2, x4]
        exact ⟨mid - i, by omega, i, mid, rfl, hi, by omega, by omega, rfl, rfl, hve, hkk⟩
    · have hij : i = j := by omega
      subst hij
      have hip : i = pos s l := by omega
      have hv' := hv.keep (hk1.trans hk (H := fun _ => False) (fun _ _ h => h) (fun _ _ h => h)) (fun _ _ h => h)
      have hkw := hk1.trans hk (H := fun _ => False) (fun _ _ h => h) (fun _ _ h => h)
      have hb' := hk.cells hb1 (fun h => h)
      by_cases hil : i < l.length
      · obtain ⟨rb, ro, rcap, rc, hve, hrc, hrsz, hext, _⟩ := hv'.at hil
        simp only [ESp] at hrc hrsz hext
        simp -implicitDefEqProofs [e9, e10, e0, e2, e4, e8, hil, hve, hrc, hrsz, hext, hb', body 23 body23]
        refine valA_of (hC.go _ l[i] s) (fun u w3 hq => ?_)
        obtain ⟨hu, hk3⟩ := hq
        simp only at hu hk3
        subst hu
        simp -implicitDefEqProofs
        have hmem := pos_mem hl (s := s)
        refine ⟨⟨by omega, ?_⟩, hkw.trans hk3 (fun _ _ h => h) (fun _ _ h => h)⟩
        rw [cmp_eq, hmem]
        subst hip
        exact ⟨fun h => ⟨hil, h⟩, fun ⟨_, h⟩ => h⟩
      · simp -implicitDefEqProofs [e9, e10, e0, e2, e4, e8, hil]
        have hmem := pos_mem hl (s := s)
        refine ⟨⟨by omega, fun hs => ?_⟩, hkw⟩
        obtain ⟨h1, _⟩ := hmem.1 hs
        omega
  · exact ⟨0, l.length, rfl, Nat.zero_le _, hpl, Nat.le_refl _, by simp, by simp, by simp, by simp, by simp, by simp, Keeps.refl _ _⟩
end Go.Proofs.Ytcfhhfdkecbphaa
