/-
  Does a line hold one of some pages? And the answers laid.
-/
import Derived.Test.YtplcocifndpplaaPc
namespace Go.Proofs.Ytplcocifndpplaa
open Go Go.Ideal

def meets (c : Line) (s p n : Int) : Bool := decide (c.s = s) && (if p < 0 then decide (c.p < n + p) else decide (c.p < p + n) && decide (p < c.p + sizeOf c.o))

def Meet (c : Line) (s p n q : Int) : Prop := c.s = s ∧ p ≤ q ∧ (p < 0 ∧ q < n ∧ q < n + p ∨ 0 ≤ p ∧ q - p < n)

theorem size_cases (o : Int) : sizeOf o = 8 ∨ sizeOf o = 64 ∨ sizeOf o = 1 := by unfold sizeOf; grind

theorem lineRight_spec {c : Line} (h : lineRight c = true) : (c.o = 0 ∨ c.o = 3 ∨ c.o = 6) ∧ 0 ≤ c.s ∧ 0 ≤ c.p ∧ c.p < 4096 ∧ c.p % sizeOf c.o = 0 ∧ 0 ≤ c.f ∧ c.f < 1048576 ∧ c.f % sizeOf c.o = 0 := by
  simp only [lineRight, Bool.and_eq_true, Bool.or_eq_true, decide_eq_true_eq] at h
  obtain ⟨⟨⟨⟨⟨⟨⟨h1, h2⟩, h3⟩, h4⟩, h5⟩, h6⟩, h7⟩, h8⟩ := h
  exact ⟨by rcases h1 with (h | h) | h <;> simp [h], h2, h3, h4, h5, h6, h7, h8⟩

theorem meets_true {c : Line} {s p n q : Int} (h : Meet c s p n q) (_h0 : 0 ≤ c.p) (h1 : c.p ≤ q) (h2 : q < c.p + sizeOf c.o) : meets c s p n = true := by
  obtain ⟨h3, h4, h5⟩ := h
  unfold meets
  by_cases hp : p < 0
  · simp only [hp, if_true, Bool.and_eq_true, decide_eq_true_eq]; omega
  · simp only [hp, if_false, Bool.and_eq_true, decide_eq_true_eq]; omega

theorem meets_false {c : Line} {s p n : Int} (hn : 1 ≤ n) (h0 : 0 ≤ c.p) (h : ∀ q, c.p ≤ q → q < c.p + sizeOf c.o → ¬ Meet c s p n q) : meets c s p n = false := by
  have hs := size_cases c.o
  cases hm : meets c s p n with
  | false => rfl
  | true =>
    exfalso
    unfold meets at hm
    by_cases hp : p < 0
    · simp only [hp, if_true, Bool.and_eq_true, decide_eq_true_eq] at hm
      exact h c.p (by omega) (by omega) ⟨hm.1, by omega, .inl ⟨hp, by omega, by omega⟩⟩
    · simp only [hp, if_false, Bool.and_eq_true, decide_eq_true_eq] at hm
      by_cases hq : p ≤ c.p
      · exact h c.p (by omega) (by omega) ⟨hm.1, by omega, .inr ⟨by omega, by omega⟩⟩
      · exact h p (by omega) (by omega) ⟨hm.1, by omega, .inr ⟨by omega, by omega⟩⟩

theorem run48 {K : Kont} {fuel : Nat} (hK : Has4 K) (hf : 70 ≤ fuel) (c : Line) (hc : lineRight c = true) (s p n : Int) (hp : -9223372036854775808 ≤ p ∧ p < 9223372036854775808) (hn : 1 ≤ n ∧ n < 9223372036854775808) (w : World) :
    wpGFn Try.prog K fuel 48 g48 #[c.val, .int .i64 s, .int .i64 p, .int .i64 n] w fun v _ => v = .bool (meets c s p n) := by
  obtain ⟨_, _, hc1, hc2, _⟩ := lineRight_spec hc
  have hs := size_cases c.o
  rw [gfn_start]
  simp [g48, Line.val, Line.cells]
  refine loop_go (fun k ρ w' => ∃ q b, k = (c.p + sizeOf c.o - q).toNat ∧ c.p ≤ q ∧ q ≤ c.p + sizeOf c.o ∧ ρ 9 = .int .i64 q ∧ ρ 1 = .int .i64 s ∧ ρ 2 = .int .i64 p ∧ ρ 3 = .int .i64 n ∧ ρ 4 = .pointer (some ⟨b, 0, none⟩) ∧
    cellsOf? w' b = some (#[.int .i64 c.s, .int .i64 c.p, .int .i64 c.o, .int .i64 c.f, .bool c.w], 31, (0, 0)) ∧ ∀ q', c.p ≤ q' → q' < q → ¬ Meet c s p n q') ?_ (i := (sizeOf c.o).toNat) ?_ (by simp; omega)
  · rintro k ρ w' ⟨q, b, rfl, h1, h2, h3, h4, h5, h6, h7, h8, h9⟩
    have w1 : IntKind.i64.wrap (c.p + sizeOf c.o) = c.p + sizeOf c.o := by rw [IntKind.wrap_i64]; omega
    have w2 : IntKind.i64.wrap (q + 1) = q + 1 := by rw [IntKind.wrap_i64]; omega
    have w3 : p < 0 → IntKind.i64.wrap (n + p) = n + p := fun h => by rw [IntKind.wrap_i64]; omega
    have w4 : 0 ≤ p → p ≤ q → IntKind.i64.wrap (q - p) = q - p := fun h h' => by rw [IntKind.wrap_i64]; omega
    have next : ¬ Meet c s p n q → ∀ q', c.p ≤ q' → q' < q + 1 → ¬ Meet c s p n q' := fun hq q' a b => by
      rcases Int.lt_or_eq_of_le (show q' ≤ q by omega) with h | h
      · exact h9 q' a h
      · rw [h]; exact hq
    simp [h3, h4, h5, h6, h7, h8, hK.size, w1, w2]
    (repeat' (first | apply And.intro | intro _)) <;> first
      | exact meets_true (q := q) ⟨by omega, by omega, by omega⟩ hc1 h1 (by omega)
      | exact ⟨(c.p + sizeOf c.o - (q + 1)).toNat, by omega, q + 1, rfl, by omega, by omega, rfl, next (fun hm => by obtain ⟨m1, m2, m3⟩ := hm; omega)⟩
      | exact meets_false hn.1 hc1 (fun q' a b => h9 q' a (by omega))
  · exact ⟨c.p, w.heap.size, by congr 1; omega, by omega, by omega, by simp, by simp, by simp, by simp, by simp, by simp, fun q' h1 h2 => absurd h1 (by omega)⟩

def an5 : Answers := fun f a => match f, a.toList with
  | 49, [.agg cs] => match cs.toList with
    | [.int .i64 s, .int .i64 p, .int .i64 o, .int .i64 f, .bool w] => some (.bool (lineRight ⟨s, p, o, f, w⟩))
    | _ => none
  | 21, [.agg cs] => match cs.toList with
    | [.int .i64 s, .int .i64 p, .int .i64 o, .int .i64 f, .bool w] => some (.bool (lineRight ⟨s, p, o, f, w⟩))
    | _ => none
  | 20, [.agg cs, .int .i64 s', .int .i64 p'] => match cs.toList with
    | [.int .i64 s, .int .i64 p, .int .i64 o, .int .i64 f, .bool w] => if lineRight ⟨s, p, o, f, w⟩ = true then some (.bool (lineHolds ⟨s, p, o, f, w⟩ s' p')) else none
    | _ => none
  | 48, [.agg cs, .int .i64 s', .int .i64 p', .int .i64 n'] => match cs.toList with
    | [.int .i64 s, .int .i64 p, .int .i64 o, .int .i64 f, .bool w] =>
      if lineRight ⟨s, p, o, f, w⟩ = true ∧ (-9223372036854775808 ≤ p' ∧ p' < 9223372036854775808) ∧ 1 ≤ n' ∧ n' < 9223372036854775808 then some (.bool (meets ⟨s, p, o, f, w⟩ s' p' n')) else none
    | _ => none
  | 15, [] => some (.bool true)
  | 28, [] => some (.bool true)
  | _, _ => none
def sp5 : Answers := Answers.more sp4 an5

set_option maxRecDepth 100000 in
theorem woke15 : ((runA Try.prog sp4 100).enter 15 #[] default).allB isTrue = true := by kernel_rfl
set_option maxRecDepth 100000 in
theorem woke28 : ((runA Try.prog sp4 100).enter 28 #[] default).allB isTrue = true := by kernel_rfl

theorem sp5_ok : LaidA Try.prog sp5 := sp4_ok.more mixed an5 fun f a v h => by
  obtain ⟨l⟩ := a
  simp only [an5] at h
  split at h
  · rename_i cs
    split at h
    · rename_i s p o f w hcs
      obtain ⟨l⟩ := cs
      simp only at hcs; subst hcs
      simp only [Option.some.injEq] at h; subst h
      exact ⟨rfl, rfl, 2, enter_ok low49 rfl (run49 (has4 0) s p o f w _)⟩
    · cases h
  · rename_i cs
    split at h
    · rename_i s p o f w hcs
      obtain ⟨l⟩ := cs
      simp only at hcs; subst hcs
      simp only [Option.some.injEq] at h; subst h
      exact ⟨rfl, rfl, 2, enter_ok low21 rfl (run21 (has4 0) s p o f w _)⟩
    · cases h
  · rename_i cs s' p'
    split at h
    · rename_i s p o f w hcs
      obtain ⟨l⟩ := cs
      simp only at hcs; subst hcs
      split at h
      · rename_i hr
        simp only [Option.some.injEq] at h; subst h
        exact ⟨rfl, rfl, 2, enter_ok low20 rfl (run20 (has4 0) ⟨s, p, o, f, w⟩ hr s' p' _)⟩
      · cases h
    · cases h
  · rename_i cs s' p' n'
    split at h
    · rename_i s p o f w hcs
      obtain ⟨l⟩ := cs
      simp only at hcs; subst hcs
      split at h
      · rename_i hr
        simp only [Option.some.injEq] at h; subst h
        exact ⟨rfl, rfl, 100, enter_ok low48 rfl (run48 (has4 98) (by omega) ⟨s, p, o, f, w⟩ hr.1 s' p' n' hr.2.1 hr.2.2 _)⟩
      · cases h
    · cases h
  · simp only [Option.some.injEq] at h; subst h
    exact ⟨rfl, rfl, 100, T.all_of_allB (fun _ h => isTrue_spec h) woke15⟩
  · simp only [Option.some.injEq] at h; subst h
    exact ⟨rfl, rfl, 100, T.all_of_allB (fun _ h => isTrue_spec h) woke28⟩
  · cases h

/-- What is known of calls with plain arguments. -/
structure Has (K : Kont) : Prop where
  size : ∀ (n : Int) (w : World), K.enter 46 #[.int .i64 n] w = .ret (.int .i64 (sizeOf n), w)
  right49 : ∀ (c : Line) (w : World), K.enter 49 #[c.val] w = .ret (.bool (lineRight c), w)
  right21 : ∀ (c : Line) (w : World), K.enter 21 #[c.val] w = .ret (.bool (lineRight c), w)
  holds : ∀ (c : Line) (s p : Int) (w : World), lineRight c = true → K.enter 20 #[c.val, .int .i64 s, .int .i64 p] w = .ret (.bool (lineHolds c s p), w)
  meets : ∀ (c : Line) (s p n : Int) (w : World), lineRight c = true → (-9223372036854775808 ≤ p ∧ p < 9223372036854775808) → 1 ≤ n ∧ n < 9223372036854775808 → K.enter 48 #[c.val, .int .i64 s, .int .i64 p, .int .i64 n] w = .ret (.bool (meets c s p n), w)
  awake15 : ∀ w : World, K.enter 15 #[] w = .ret (.bool true, w)
  awake28 : ∀ w : World, K.enter 28 #[] w = .ret (.bool true, w)

theorem has (m : Nat) : Has (runA Try.prog sp5 (m + 1)) where
  size := fun _ _ => rfl
  right49 := fun _ _ => rfl
  right21 := fun _ _ => rfl
  holds := fun c s p w h => by
    have : sp5 20 #[c.val, .int .i64 s, .int .i64 p] = some (.bool (lineHolds c s p)) := by simp [sp5, Answers.more, an5, Line.val, Line.cells, h]
    simp only [runA, this]
  meets := fun c s p n w h hp hn => by
    have : sp5 48 #[c.val, .int .i64 s, .int .i64 p, .int .i64 n] = some (.bool (Proofs.Ytplcocifndpplaa.meets c s p n)) := by simp [sp5, Answers.more, an5, Line.val, Line.cells, h, hp, hn]
    simp only [runA, this]
  awake15 := fun _ => rfl
  awake28 := fun _ => rfl
end Go.Proofs.Ytplcocifndpplaa
