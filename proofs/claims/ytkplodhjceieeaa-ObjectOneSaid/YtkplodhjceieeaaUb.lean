/-
  The pool, plainly: what each call answers and leaves.
-/
import Derived.Test.YtkplodhjceieeaaJt
import Derived.Test.YtkplodhjceieeaaJs
namespace Go.Proofs.Ytkplodhjceieeaa
open Go Go.Ideal

/-- A pool: of each frame 0, 1 (free) or 2 (in use). -/
structure PS where
  o : Int
  mo : Int
  is : List Int
  pr : Int
  su : Int

def szO (o : Int) : Int := if o = 6 then 64 else 8

/-- The places below n that hold v, rising. -/
def atN (is : List Int) (v : Int) : Nat → List Int
  | 0 => []
  | n + 1 => if is[n]? = some v then atN is v n ++ [(n : Int)] else atN is v n
def freeL (is : List Int) : List Int := atN is 1 1024
def usedL (is : List Int) : List Int := atN is 2 1024

theorem atN_mem {is : List Int} {v : Int} {n : Nat} {x : Int} : x ∈ atN is v n ↔ 0 ≤ x ∧ x < n ∧ is[x.toNat]? = some v := by
  induction n with
  | zero => simp [atN]; omega
  | succ n ih =>
    simp only [atN]
    split
    · rename_i h
      rw [List.mem_append, ih, List.mem_singleton]
      constructor
      · rintro (⟨h1, h2, h3⟩ | rfl)
        · exact ⟨h1, by omega, h3⟩
        · exact ⟨by omega, by omega, by simpa using h⟩
      · rintro ⟨h1, h2, h3⟩
        by_cases hx : x = n
        · exact .inr hx
        · exact .inl ⟨h1, by omega, h3⟩
    · rename_i h
      rw [ih]
      constructor
      · rintro ⟨h1, h2, h3⟩; exact ⟨h1, by omega, h3⟩
      · rintro ⟨h1, h2, h3⟩
        by_cases hx : x = n
        · subst hx; exact absurd (by simpa using h3) h
        · exact ⟨h1, by omega, h3⟩
theorem atN_sorted (is : List Int) (v : Int) (n : Nat) : (atN is v n).Pairwise (· < ·) := by
  induction n with
  | zero => simp [atN]
  | succ n ih =>
    simp only [atN]
    split
    · rw [List.pairwise_append]
      refine ⟨ih, by simp, fun a ha b hb => ?_⟩
      simp at hb; subst hb
      exact (atN_mem.1 ha).2.1
    · exact ih
theorem atN_nodup (is : List Int) (v : Int) (n : Nat) : (atN is v n).Nodup := (atN_sorted is v n).imp (fun h => Int.ne_of_lt h)
theorem atN_len (is : List Int) (v : Int) (n : Nat) : (atN is v n).length ≤ n := by
  induction n with
  | zero => simp [atN]
  | succ n ih =>
    simp only [atN]
    split
    · rw [List.length_append, List.length_singleton]; omega
    · omega

theorem free_mem {is : List Int} {x : Int} : x ∈ freeL is ↔ 0 ≤ x ∧ x < 1024 ∧ is[x.toNat]? = some 1 := atN_mem
theorem free_nodup (is : List Int) : (freeL is).Nodup := atN_nodup _ _ _
theorem free_len (is : List Int) : (freeL is).length ≤ 1024 := atN_len _ _ _

/-- Lists of the same places are one. -/
theorem sorted_eq {l : List Int} {is : List Int} (hn : l.Nodup) (h : ∀ x, x ∈ l ↔ x ∈ freeL is) : sorted l = freeL is := by
  have hp : (sorted l).Perm (freeL is) := (List.mergeSort_perm _ _).trans ((List.perm_ext_iff_of_nodup hn (free_nodup is)).2 h)
  refine hp.eq_of_pairwise (le := fun a b => a ≤ b) (fun a b _ _ h1 h2 => Int.le_antisymm h1 h2) ?_ ((atN_sorted is 1 1024).imp (fun h => Int.le_of_lt h))
  have := List.pairwise_mergeSort (le := fun x y : Int => decide (x ≤ y)) (fun a b c h1 h2 => by simp at *; omega) (fun a b => by simp; omega) l
  exact this.imp (fun h => by simpa using h)

structure PS.ok (s : PS) : Prop where
  len : s.is.length = 1024
  ord : s.o = 3 ∨ s.o = 6
  val : ∀ x ∈ s.is, x = 0 ∨ x = 1 ∨ x = 2
  even : ∀ i : Nat, i < 1024 → s.is[i]? ≠ some 0 → (i : Int) % szO s.o = 0 ∧ (i : Int) ≤ 1024 - szO s.o
  pr : 0 ≤ s.pr ∧ s.pr ≤ (freeL s.is).length
  su : 0 ≤ s.su ∧ s.su ≤ s.mo
  mo : s.mo ≤ 64

theorem szO_cases (o : Int) : szO o = 8 ∨ szO o = 64 := by unfold szO; split <;> simp

/-- What a frame's page is. -/
def isAt (is : List Int) (f : Int) : Int := if 0 ≤ f then (is[f.toNat]?).getD 0 else 0
theorem isAt_some {is : List Int} {f : Int} (h : 0 ≤ f) (hl : f < is.length) : is[f.toNat]? = some (isAt is f) := by
  have : f.toNat < is.length := by omega
  simp [isAt, h, this]

def mayA (s : PS) (f : Int) : Int := if f < 0 ∨ 1024 - szO s.o < f then 3 else if f % szO s.o ≠ 0 then 4 else if isAt s.is f ≠ 0 then 7 else 0
def setA (s : PS) (f v : Int) : PS := { s with is := s.is.set f.toNat v }
def growA (s : PS) (f : Int) : Int × PS := if mayA s f = 0 then (0, setA s f 1) else (mayA s f, s)
def spareA (s : PS) : Int := (freeL s.is).length - s.pr
def lastL (l : List Int) : Int := l.getLastD 0
def headL (l : List Int) : Int := l.headD 0
def shrinkA (s : PS) : (Int × Int) × PS := if spareA s < 1 then ((0, 12), s) else ((lastL (freeL s.is), 0), setA s (lastL (freeL s.is)) 0)
def promiseA (s : PS) (n : Int) : Int × PS := if n < 0 then (2, s) else if spareA s < n then (8, s) else (0, { s with pr := s.pr + n })
def unpromiseA (s : PS) (n : Int) : Int × PS := if n < 0 then (2, s) else if s.pr < n then (3, s) else (0, { s with pr := s.pr - n })
def takeA (s : PS) (yes : Bool) : (Int × Int) × PS :=
  if yes = true ∧ s.pr < 1 then ((0, 3), s) else if yes = false ∧ spareA s < 1 then ((0, 9), s)
  else ((headL (freeL s.is), 0), { setA s (headL (freeL s.is)) 2 with pr := if yes then s.pr - 1 else s.pr })
def extraA (s : PS) (f : Int) : Int × PS := if mayA s f ≠ 0 then (mayA s f, s) else if s.mo ≤ s.su then (13, s) else (0, { setA s f 2 with su := s.su + 1 })
def giveA (s : PS) (f : Int) (yes : Bool) : (Bool × Int) × PS :=
  if isAt s.is f ≠ 2 then ((false, 6), s)
  else if 0 < s.su ∧ yes = false then ((true, 0), { setA s f 0 with su := s.su - 1 })
  else ((false, 0), { setA s f 1 with pr := if yes then s.pr + 1 else s.pr })

theorem spareA_set (s : PS) : spareA s = (freeL s.is).length - s.pr := rfl

/-! ### Sets of places -/
theorem set_at (is : List Int) (f v : Int) (h0 : 0 ≤ f) (hl : f < is.length) (i : Nat) : (is.set f.toNat v)[i]? = if (i : Int) = f then some v else is[i]? := by
  rw [List.getElem?_set]
  by_cases h : f.toNat = i
  · have : (i : Int) = f := by omega
    rw [if_pos h, if_pos this, if_pos (by omega)]
  · have : ¬ (i : Int) = f := by omega
    rw [if_neg h, if_neg this]

theorem isAt_set (is : List Int) (f v g : Int) (h0 : 0 ≤ f) (hl : f < is.length) : isAt (is.set f.toNat v) g = if g = f then v else isAt is g := by
  unfold isAt
  by_cases hg : 0 ≤ g
  · rw [if_pos hg, if_pos hg, set_at is f v h0 hl]
    have : ((g.toNat : Nat) : Int) = g := by omega
    rw [this]
    split <;> rfl
  · rw [if_neg hg, if_neg hg, if_neg (by omega)]

/-- How many hold a value, behind a change. -/
theorem atN_set (is : List Int) (f v u : Int) (h0 : 0 ≤ f) (hl : f < is.length) (n : Nat) :
    ((atN (is.set f.toNat v) u n).length : Int) = (atN is u n).length + (if f < n then (if v = u then 1 else 0) - (if isAt is f = u then 1 else 0) else 0) := by
  induction n with
  | zero => simp [atN]; omega
  | succ n ih =>
    simp only [atN, set_at is f v h0 hl]
    by_cases hn : (n : Int) = f
    · have h2 : is[n]? = some (isAt is f) := by
        rw [← isAt_some h0 hl]; congr 1; omega
      have h3 : ¬ f < (n : Int) := by omega
      have h4 : f < ((n + 1 : Nat) : Int) := by omega
      rw [if_pos hn, h2, if_pos h4]
      rw [if_neg h3] at ih
      simp only [Option.some.injEq]
      rw [Int.add_zero] at ih
      by_cases hv : v = u
      · subst hv
        by_cases hi : isAt is f = v
        · simp only [hi, if_true, List.length_append, List.length_singleton]; omega
        · simp only [hi, if_true, if_false, List.length_append, List.length_singleton]; omega
      · by_cases hi : isAt is f = u
        · simp only [hi, hv, if_true, if_false, List.length_append, List.length_singleton]; omega
        · simp only [hi, hv, if_false]; omega
    · rw [if_neg hn]
      have h5 : (f < ((n + 1 : Nat) : Int)) ↔ f < (n : Int) := by omega
      simp only [h5]
      split
      · simp only [List.length_append, List.length_singleton]; omega
      · exact ih

theorem free_set (is : List Int) (f v : Int) (h0 : 0 ≤ f) (hf : f < 1024) (hl : is.length = 1024) :
    ((freeL (is.set f.toNat v)).length : Int) = (freeL is).length + ((if v = 1 then 1 else 0) - (if isAt is f = 1 then 1 else 0)) := by
  have := atN_set is f v 1 h0 (by omega) 1024
  rw [if_pos (by omega)] at this
  exact this
theorem used_set (is : List Int) (f v : Int) (h0 : 0 ≤ f) (hf : f < 1024) (hl : is.length = 1024) :
    ((usedL (is.set f.toNat v)).length : Int) = (usedL is).length + ((if v = 2 then 1 else 0) - (if isAt is f = 2 then 1 else 0)) := by
  have := atN_set is f v 2 h0 (by omega) 1024
  rw [if_pos (by omega)] at this
  exact this

theorem may_zero {s : PS} {f : Int} (h : mayA s f = 0) : 0 ≤ f ∧ f ≤ 1024 - szO s.o ∧ f % szO s.o = 0 ∧ isAt s.is f = 0 := by
  unfold mayA at h
  split at h
  · cases h
  · split at h
    · cases h
    · split at h
      · cases h
      · rename_i h1 h2 h3
        refine ⟨by omega, by omega, ?_, ?_⟩
        · exact Decidable.byContradiction fun hh => h2 hh
        · exact Decidable.byContradiction fun hh => h3 hh

theorem PS.ok.set {s : PS} (h : s.ok) {f v : Int} (h0 : 0 ≤ f) (hf : f < 1024) (hv : v = 0 ∨ v = 1 ∨ v = 2) (he : v = 0 ∨ (f % szO s.o = 0 ∧ f ≤ 1024 - szO s.o)) :
    (s.is.set f.toNat v).length = 1024 ∧ (∀ x ∈ s.is.set f.toNat v, x = 0 ∨ x = 1 ∨ x = 2) ∧ ∀ i : Nat, i < 1024 → (s.is.set f.toNat v)[i]? ≠ some 0 → (i : Int) % szO s.o = 0 ∧ (i : Int) ≤ 1024 - szO s.o := by
  refine ⟨by rw [List.length_set]; exact h.len, fun x hx => ?_, fun i hi hne => ?_⟩
  · rcases List.mem_or_eq_of_mem_set hx with hx | rfl
    · exact h.val x hx
    · exact hv
  · rw [set_at s.is f v h0 (by rw [h.len]; omega)] at hne
    by_cases hif : (i : Int) = f
    · rw [if_pos hif] at hne
      rcases he with rfl | he
      · exact absurd rfl hne
      · rw [hif]; exact he
    · rw [if_neg hif] at hne
      exact h.even i hi hne

theorem free_even {s : PS} (h : s.ok) {f : Int} (hf : f ∈ freeL s.is) : 0 ≤ f ∧ f < 1024 ∧ isAt s.is f = 1 ∧ f % szO s.o = 0 ∧ f ≤ 1024 - szO s.o := by
  obtain ⟨h1, h2, h3⟩ := free_mem.1 hf
  have := h.even f.toNat (by omega) (by rw [h3]; simp)
  have e : ((f.toNat : Nat) : Int) = f := by omega
  rw [e] at this
  exact ⟨h1, h2, by simp [isAt, h1, h3], this.1, this.2⟩
theorem in_even {s : PS} (h : s.ok) {f : Int} (hf : isAt s.is f ≠ 0) : 0 ≤ f ∧ f < 1024 ∧ f % szO s.o = 0 ∧ f ≤ 1024 - szO s.o := by
  unfold isAt at hf
  by_cases h0 : 0 ≤ f
  · rw [if_pos h0] at hf
    by_cases hl : f.toNat < s.is.length
    · have hlen := h.len
      have := h.even f.toNat (by omega) (by rw [List.getElem?_eq_getElem hl] at hf ⊢; simpa using hf)
      have e : ((f.toNat : Nat) : Int) = f := by omega
      rw [e] at this
      exact ⟨h0, by omega, this⟩
    · rw [List.getElem?_eq_none (by omega)] at hf; exact absurd rfl hf
  · rw [if_neg h0] at hf; exact absurd rfl hf

theorem last_mem {l : List Int} (h : l ≠ []) : lastL l ∈ l := by
  unfold lastL
  rw [List.getLastD_eq_getLast?, List.getLast?_eq_some_getLast h]
  exact List.getLast_mem h
theorem head_mem {l : List Int} (h : l ≠ []) : headL l ∈ l := by
  cases l with
  | nil => exact absurd rfl h
  | cons a l => simp [headL]

theorem grow_ok {s : PS} (h : s.ok) (f : Int) : (growA s f).2.ok := by
  unfold growA
  split
  · rename_i hm
    obtain ⟨h0, h1, h2, h3⟩ := may_zero hm
    have hz := szO_cases s.o
    obtain ⟨g1, g2, g3⟩ := h.set (v := 1) h0 (by omega) (.inr (.inl rfl)) (.inr ⟨h2, h1⟩)
    have := free_set s.is f 1 h0 (by omega) h.len
    simp [h3] at this
    exact ⟨g1, h.ord, g2, g3, ⟨h.pr.1, by have := h.pr.2; simp only [setA]; omega⟩, h.su, h.mo⟩
  · exact h
theorem shrink_ok {s : PS} (h : s.ok) : (shrinkA s).2.ok := by
  unfold shrinkA
  split
  · exact h
  · rename_i hs
    have hpr := h.pr
    have hne : freeL s.is ≠ [] := fun e => by rw [spareA_set, e] at hs; simp at hs; omega
    obtain ⟨h0, h1, h2, h3⟩ := free_even h (last_mem hne)
    obtain ⟨g1, g2, g3⟩ := h.set (v := 0) h0 h1 (.inl rfl) (.inl rfl)
    have := free_set s.is _ 0 h0 h1 h.len
    simp [h2] at this
    rw [spareA_set] at hs
    exact ⟨g1, h.ord, g2, g3, ⟨h.pr.1, by simp only [setA]; omega⟩, h.su, h.mo⟩
theorem promise_ok {s : PS} (h : s.ok) (n : Int) : (promiseA s n).2.ok := by
  unfold promiseA
  split
  · exact h
  · split
    · exact h
    · rename_i h1 h2
      rw [spareA_set] at h2
      have := h.pr
      exact ⟨h.len, h.ord, h.val, h.even, ⟨by simp only; omega, by simp only; omega⟩, h.su, h.mo⟩
theorem unpromise_ok {s : PS} (h : s.ok) (n : Int) : (unpromiseA s n).2.ok := by
  unfold unpromiseA
  split
  · exact h
  · split
    · exact h
    · have := h.pr
      exact ⟨h.len, h.ord, h.val, h.even, ⟨by simp only; omega, by simp only; omega⟩, h.su, h.mo⟩
theorem take_ne {s : PS} (h : s.ok) {yes : Bool} (h1 : ¬ (yes = true ∧ s.pr < 1)) (h2 : ¬ (yes = false ∧ spareA s < 1)) : freeL s.is ≠ [] := by
  have hpr := h.pr
  rw [spareA_set] at h2
  intro e
  rw [e] at h2 hpr
  cases yes <;> simp at h1 h2 hpr <;> omega
theorem take_ok {s : PS} (h : s.ok) (yes : Bool) : (takeA s yes).2.ok := by
  unfold takeA
  split
  · exact h
  · split
    · exact h
    · rename_i h1 h2
      have hne := take_ne h h1 h2
      obtain ⟨g0, g1, g2, g3, g4⟩ := free_even h (head_mem hne)
      obtain ⟨e1, e2, e3⟩ := h.set (v := 2) g0 g1 (.inr (.inr rfl)) (.inr ⟨g3, g4⟩)
      have hc := free_set s.is _ 2 g0 g1 h.len
      simp [g2] at hc
      have hpr := h.pr
      rw [spareA_set] at h2
      refine ⟨e1, h.ord, e2, e3, ?_, h.su, h.mo⟩
      simp only [setA]
      cases yes <;> simp at h1 h2 ⊢ <;> omega
theorem extra_ok {s : PS} (h : s.ok) (f : Int) : (extraA s f).2.ok := by
  unfold extraA
  split
  · exact h
  · split
    · exact h
    · rename_i hm hs
      obtain ⟨h0, h1, h2, h3⟩ := may_zero (Decidable.byContradiction fun hh => hm hh)
      have hz := szO_cases s.o
      obtain ⟨g1, g2, g3⟩ := h.set (v := 2) h0 (by omega) (.inr (.inr rfl)) (.inr ⟨h2, h1⟩)
      have := free_set s.is f 2 h0 (by omega) h.len
      simp [h3] at this
      have hsu := h.su
      exact ⟨g1, h.ord, g2, g3, ⟨h.pr.1, by have := h.pr.2; simp only [setA]; omega⟩, ⟨by simp only; omega, by simp only [setA]; omega⟩, h.mo⟩
theorem give_ok {s : PS} (h : s.ok) (f : Int) (yes : Bool) : (giveA s f yes).2.ok := by
  unfold giveA
  split
  · exact h
  · rename_i h2
    have h2 : isAt s.is f = 2 := Decidable.byContradiction fun hh => h2 hh
    obtain ⟨g0, g1, g3, g4⟩ := in_even h (f := f) (by rw [h2]; decide)
    have hpr := h.pr
    have hsu := h.su
    split
    · rename_i h3
      obtain ⟨e1, e2, e3⟩ := h.set (v := 0) g0 g1 (.inl rfl) (.inl rfl)
      have hc := free_set s.is f 0 g0 g1 h.len
      simp [h2] at hc
      exact ⟨e1, h.ord, e2, e3, ⟨h.pr.1, by simp only [setA]; omega⟩, ⟨by simp only; omega, by simp only [setA]; omega⟩, h.mo⟩
    · obtain ⟨e1, e2, e3⟩ := h.set (v := 1) g0 g1 (.inr (.inl rfl)) (.inr ⟨g3, g4⟩)
      have hc := free_set s.is f 1 g0 g1 h.len
      simp [h2] at hc
      refine ⟨e1, h.ord, e2, e3, ?_, h.su, h.mo⟩
      simp only [setA]
      cases yes <;> simp <;> omega
end Go.Proofs.Ytkplodhjceieeaa
