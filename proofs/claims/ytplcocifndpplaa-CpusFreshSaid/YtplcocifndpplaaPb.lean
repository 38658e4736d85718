/-
  What the small functions answer: plain numbers to plain numbers.
-/
import Derived.Test.YtplcocifndpplaaPa
import Derived.Test.YtplcocifndpplaaJj
namespace Go.Proofs.Ytplcocifndpplaa
open Go Go.Ideal

/-- A line of a buffer. -/
structure Line where
  s : Int
  p : Int
  o : Int
  f : Int
  w : Bool
  deriving DecidableEq

def Line.cells (c : Line) : Array Value := #[.int .i64 c.s, .int .i64 c.p, .int .i64 c.o, .int .i64 c.f, .bool c.w]
def Line.val (c : Line) : Value := .agg c.cells

def sizeOf (n : Int) : Int := if n = 3 then 8 else if n = 6 then 64 else 1
def lineRight (c : Line) : Bool := (decide (c.o = 0) || decide (c.o = 3) || decide (c.o = 6)) && decide (0 ≤ c.s) && decide (0 ≤ c.p) && decide (c.p < 4096) && decide (c.p % sizeOf c.o = 0) && decide (0 ≤ c.f) && decide (c.f < 1048576) && decide (c.f % sizeOf c.o = 0)
def lineHolds (c : Line) (s p : Int) : Bool := decide (c.s = s) && decide (c.p ≤ p) && decide (p < c.p + sizeOf c.o)

/-- Answers laid: the size of an order. -/
def an1 : Answers := fun f a => match f, a.toList with
  | 46, [.int .i64 n] => some (.int .i64 (sizeOf n))
  | _, _ => none

theorem mixed : Try.prog.follows .mixedOrders = true := by kernel_rfl

def sp0 : Answers := fun _ _ => none
theorem sp0_ok : LaidA Try.prog sp0 := LaidA.start Try.prog
def sp1 : Answers := Answers.more sp0 an1

theorem sp1_ok : LaidA Try.prog sp1 := sp0_ok.more mixed an1 fun f a v h => by
  obtain ⟨l⟩ := a
  simp only [an1] at h
  split at h
  · rename_i n
    simp only [Option.some.injEq] at h; subst h
    refine ⟨rfl, rfl, 1, enter_ok low46 rfl ?_⟩
    simp [wpGFn, g46, sizeOf]
    grind
  · cases h

theorem sp1_46 (m : Nat) (n : Int) (w : World) : (runA Try.prog sp1 (m + 1)).enter 46 #[.int .i64 n] w = .ret (.int .i64 (sizeOf n), w) := rfl

theorem toNat_andNot (p : Nat) (hp : p < 2 ^ 64) (k : Nat) (_hk : k < 64) : (BitVec.ofNat 64 p &&& ~~~ BitVec.ofNat 64 (2 ^ k - 1)).toNat = p - p % 2 ^ k := by
  have h1 : BitVec.ofNat 64 p &&& ~~~ BitVec.ofNat 64 (2 ^ k - 1) = BitVec.ofNat 64 (p / 2 ^ k * 2 ^ k) := by
    apply BitVec.eq_of_getLsbD_eq
    intro i hi
    simp only [BitVec.getLsbD_and, BitVec.getLsbD_not, BitVec.getLsbD_ofNat, hi, decide_true, Bool.true_and, Nat.testBit_two_pow_sub_one]
    rw [← Nat.shiftLeft_eq, ← Nat.shiftRight_eq_div_pow, Nat.testBit_shiftLeft, Nat.testBit_shiftRight]
    by_cases hik : i < k
    · have : ¬ k ≤ i := by omega
      simp [hik, this]
    · have h2 : k ≤ i := by omega
      simp [hik, h2, show k + (i - k) = i by omega]
  rw [h1, BitVec.toNat_ofNat, Nat.mod_eq_of_lt]
  · have := Nat.div_add_mod p (2 ^ k)
    rw [Nat.mul_comm] at this
    omega
  · exact Nat.lt_of_le_of_lt (Nat.div_mul_le_self _ _) hp

theorem andNot_int (p : Int) (h0 : 0 ≤ p) (h1 : p < 1048576) (k : Nat) (hk : k ≤ 8) : andNot64 p ((2 : Int) ^ k - 1) = p - p % (2 : Int) ^ k := by
  unfold andNot64
  obtain ⟨n, rfl⟩ : ∃ n : Nat, p = n := ⟨p.toNat, by omega⟩
  have e1 : BitVec.ofInt 64 (n : Int) = BitVec.ofNat 64 n := by simp
  have h2k : (2 : Int) ^ k - 1 = ((2 ^ k - 1 : Nat) : Int) := by
    have : 1 ≤ 2 ^ k := Nat.one_le_two_pow
    push_cast [this]; rfl
  have e2 : BitVec.ofInt 64 ((2 : Int) ^ k - 1) = BitVec.ofNat 64 (2 ^ k - 1) := by rw [h2k]; simp
  rw [e1, e2, toNat_andNot n (by omega) k (by omega)]
  have hle : n % 2 ^ k ≤ n := Nat.mod_le _ _
  have : ((n - n % 2 ^ k : Nat) : Int) = (n : Int) - (n : Int) % (2 : Int) ^ k := by push_cast [hle]; rfl
  have hb : n - n % 2 ^ k ≤ n := Nat.sub_le _ _
  rw [← this, IntKind.wrap_i64]
  generalize n - n % 2 ^ k = r at hb
  omega

/-- Answers laid: whether a block begins evenly. -/
def an2 : Answers := fun f a => match f, a.toList with
  | 69, [.int .i64 n] => some (.bool (decide (0 ≤ n) && decide (n ≤ 8)))
  | _, _ => none
def sp2 : Answers := Answers.more sp1 an2
theorem sp2_ok : LaidA Try.prog sp2 := sp1_ok.more mixed an2 fun f a v h => by
  obtain ⟨l⟩ := a
  simp only [an2] at h
  split at h
  · rename_i n
    simp only [Option.some.injEq] at h; subst h
    refine ⟨rfl, rfl, 1, enter_ok low69 rfl ?_⟩
    simp [wpGFn, g69]
    grind
  · cases h

def an3 : Answers := fun f a => match f, a.toList with
  | 70, [.int .i64 p, .int .i64 n] => if 0 ≤ p ∧ p < 1048576 ∧ (n = 0 ∨ n = 3 ∨ n = 6) then some (.int .i64 (p - p % sizeOf n)) else none
  | _, _ => none
def sp3 : Answers := Answers.more sp2 an3
theorem sp3_ok : LaidA Try.prog sp3 := sp2_ok.more mixed an3 fun f a v h => by
  obtain ⟨l⟩ := a
  simp only [an3] at h
  split at h
  · rename_i p n
    split at h
    · rename_i hp
      simp only [Option.some.injEq] at h; subst h
      refine ⟨rfl, rfl, 2, enter_ok low70 rfl ?_⟩
      have e : ∀ (m : Nat) (n : Int) (w : World), (runA Try.prog sp2 (m + 1)).enter 69 #[.int .i64 n] w = .ret (.bool (decide (0 ≤ n) && decide (n ≤ 8)), w) := fun _ _ _ => rfl
      obtain ⟨h0, h1, hn⟩ := hp
      have a0 : andNot64 p 0 = p - p % 1 := andNot_int p h0 h1 0 (by omega)
      have a3 : andNot64 p 7 = p - p % 8 := andNot_int p h0 h1 3 (by omega)
      have a6 : andNot64 p 63 = p - p % 64 := andNot_int p h0 h1 6 (by omega)
      rcases hn with rfl | rfl | rfl <;> simp [wpGFn, g70, e, sizeOf, IntKind.wrap_i64, a0, a3, a6]
    · cases h
  · cases h

def even (p n : Int) : Bool := decide (p % sizeOf n = 0)
def an4 : Answers := fun f a => match f, a.toList with
  | 65, [.int .i64 p, .int .i64 n] => if 0 ≤ p ∧ p < 1048576 ∧ (n = 0 ∨ n = 3 ∨ n = 6) then some (.bool (even p n)) else none
  | _, _ => none
def sp4 : Answers := Answers.more sp3 an4
theorem sp4_ok : LaidA Try.prog sp4 := sp3_ok.more mixed an4 fun f a v h => by
  obtain ⟨l⟩ := a
  simp only [an4] at h
  split at h
  · rename_i p n
    split at h
    · rename_i hp
      simp only [Option.some.injEq] at h; subst h
      refine ⟨rfl, rfl, 2, enter_ok low65 rfl ?_⟩
      have e1 : ∀ (m : Nat) (n : Int) (w : World), (runA Try.prog sp3 (m + 1)).enter 69 #[.int .i64 n] w = .ret (.bool (decide (0 ≤ n) && decide (n ≤ 8)), w) := fun _ _ _ => rfl
      have e2 : ∀ (m : Nat) (w : World), (runA Try.prog sp3 (m + 1)).enter 70 #[.int .i64 p, .int .i64 n] w = .ret (.int .i64 (p - p % sizeOf n), w) := fun m w => by
        have : sp3 70 #[.int .i64 p, .int .i64 n] = some (.int .i64 (p - p % sizeOf n)) := by simp [sp3, Answers.more, an3, hp]
        simp only [runA, this]
      simp [wpGFn, g65, e1, e2, even]
      grind
    · cases h
  · cases h


/-- What is asked of a world with the answers so far. -/
structure Has4 (K : Kont) : Prop where
  size : ∀ (n : Int) (w : World), K.enter 46 #[.int .i64 n] w = .ret (.int .i64 (sizeOf n), w)
  even : ∀ (p n : Int) (w : World), 0 ≤ p ∧ p < 1048576 ∧ (n = 0 ∨ n = 3 ∨ n = 6) → K.enter 65 #[.int .i64 p, .int .i64 n] w = .ret (.bool (even p n), w)

theorem has4 (m : Nat) : Has4 (runA Try.prog sp4 (m + 1)) where
  size := fun _ _ => rfl
  even := fun p n w hp => by
    have : sp4 65 #[.int .i64 p, .int .i64 n] = some (.bool (Proofs.Ytplcocifndpplaa.even p n)) := by simp [sp4, Answers.more, an4, hp]
    simp only [runA, this]

theorem run49 {K : Kont} {fuel : Nat} (hK : Has4 K) (s p o f : Int) (b : Bool) (w : World) : wpGFn Try.prog K fuel 49 g49 #[.agg #[.int .i64 s, .int .i64 p, .int .i64 o, .int .i64 f, .bool b]] w fun v _ => v = .bool (lineRight ⟨s, p, o, f, b⟩) := by
  by_cases ho : 0 ≤ p ∧ p < 4096 ∧ 0 ≤ f ∧ f < 1048576 ∧ (o = 0 ∨ o = 3 ∨ o = 6)
  · have e1 := fun w => hK.even p o w ⟨ho.1, by omega, ho.2.2.2.2⟩
    have e2 := fun w => hK.even f o w ⟨ho.2.2.1, ho.2.2.2.1, ho.2.2.2.2⟩
    simp [wpGFn, g49, e1, e2]
    simp only [lineRight, even]
    grind
  · simp [wpGFn, g49]
    simp only [lineRight]
    (repeat' (first | apply And.intro | intro _)) <;> first | (exfalso; omega) | (simp [*]; done) | grind

theorem run21 {K : Kont} {fuel : Nat} (hK : Has4 K) (s p o f : Int) (b : Bool) (w : World) : wpGFn Try.prog K fuel 21 g21 #[.agg #[.int .i64 s, .int .i64 p, .int .i64 o, .int .i64 f, .bool b]] w fun v _ => v = .bool (lineRight ⟨s, p, o, f, b⟩) := by
  have hs : ∀ o, sizeOf o = 8 ∨ sizeOf o = 64 ∨ sizeOf o = 1 := fun o => by unfold sizeOf; grind
  have hz : sizeOf o ≠ 0 := by rcases hs o with h | h | h <;> omega
  simp [wpGFn, g21, hK.size, hz]
  by_cases ho : 0 ≤ p ∧ 0 ≤ f
  · rw [Int.tmod_eq_emod_of_nonneg ho.1, Int.tmod_eq_emod_of_nonneg ho.2]
    simp only [lineRight]
    (repeat' (first | apply And.intro | intro _)) <;> first | (exfalso; omega) | (simp [*]; done) | grind
  · simp only [lineRight]
    (repeat' (first | apply And.intro | intro _)) <;> first | (exfalso; omega) | (simp [*]; done) | grind

theorem run20 {K : Kont} {fuel : Nat} (hK : Has4 K) (c : Line) (hc : lineRight c = true) (s p : Int) (w : World) : wpGFn Try.prog K fuel 20 g20 #[c.val, .int .i64 s, .int .i64 p] w fun v _ => v = .bool (lineHolds c s p) := by
  have hs : ∀ o, sizeOf o = 8 ∨ sizeOf o = 64 ∨ sizeOf o = 1 := fun o => by unfold sizeOf; grind
  have hb : 0 ≤ c.p ∧ c.p < 4096 := by simp only [lineRight] at hc; grind
  have hw : IntKind.i64.wrap (c.p + sizeOf c.o) = c.p + sizeOf c.o := by rw [IntKind.wrap_i64]; rcases hs c.o with h | h | h <;> omega
  simp [wpGFn, g20, hK.size, Line.val, Line.cells, hw]
  simp only [lineHolds]
  grind
end Go.Proofs.Ytplcocifndpplaa
