/-
  'awake' as an answer: a call without arguments that answers true.
-/
import Derived.Test.YteljibbnpheekaaGreatFs
import Derived.Test.YteljibbnpheekaaGreatProg
namespace Go.Proofs.YteljibbnpheekaaGreat
open Go Go.Ideal Go.Proofs
def yesH (g : FuncId) : HeapAns := fun f a w => if f = g ∧ a.size = 0 then some (.ret (.bool true, w)) else none
theorem yesL {g : FuncId} (hc : ∀ w : World, Calls Tryz.prog g #[] w fun e w' => e = .returned (.bool true) ∧ RowKit.Below w.heap.size w w') : LaidH Tryz.prog (yesH g) where
  calls := fun {B w0 β σ w f args args' t Q} hR ha hf hQ => by
    unfold yesH at hf
    split at hf
    · rename_i h
      simp only [Option.some.injEq] at hf
      subst hf
      obtain ⟨rfl, h0⟩ := h
      have h1 : args' = #[] := by
        have := ha.1
        apply Array.eq_empty_of_size_eq_zero
        omega
      subst h1
      refine (hc w).mono fun e w' he => ?_
      obtain ⟨rfl, hb⟩ := he
      exact ⟨β, .bool true, σ, .refl _, hR.grow hb, .bool _, hQ⟩
    · cases hf
theorem yes_ne {g f : FuncId} {a : Array Value} {w : World} (h : f ≠ g) : yesH g f a w = none := by simp [yesH, h]
end Go.Proofs.YteljibbnpheekaaGreat
