/-
  'awake' as an answer: a call without arguments that answers true.
-/
import Derived.Test.YteljibbnpheekaaGreatFs
import Derived.Test.YteljibbnpheekaaGreatProg
namespace Go.Proofs.YteljibbnpheekaaGreat
open Go Go.Ideal Go.Proofs

def yesH (g : FuncId) : HeapAns := fun f a w => if f = g ∧ a.size = 0 then some (.ret (.bool true, w)) else none
theorem yesL {g : FuncId} (hc : ∀ w : World, Calls Tryz.prog g #[] w fun e w' => e = .returned (.bool true) ∧ RowKit.Below w.heap.size w w') : LaidH Tryz.prog (yesH g) where
  calls := fun {B w0 β σ w f args args' t Q} hR ha hf hQ => by
    unfold yesH at hf
    split at hf
    · rename_i h
      simp only [Option.some.injEq] at hf
      subst hf
      obtain ⟨rfl, h0⟩ := h
      have h1 : args' = #[] := by
        have := ha.1
        apply Array.eq_empty_of_size_eq_zero
        omega
      subst h1
      refine (hc w).mono fun e w' he => ?_
      obtain ⟨rfl, hb⟩ := he
      exact ⟨β, .bool true, σ, .refl _, hR.grow hb, .bool _, hQ⟩
    · cases hf
theorem yes_ne {g f : FuncId} {a : Array Value} {w : World} (h : f ≠ g) : yesH g f a w = none := by simp [yesH, h]
noncomputable def yesF (g : FuncId) : FAns := fun f a w => match Nat.beq f g with
  | true => match a.toList with
    | [] => some (.ret (.bool true, w))
    | _ :: _ => none
  | false => none
theorem yes_fh (g : FuncId) : FHOk (yesF g) (yesH g) := fun f args fw w hs => by
  unfold yesF
  cases hb : Nat.beq f g with
  | true =>
    have := Nat.eq_of_beq_eq_true hb
    subst this
    cases hl : args.toList with
    | nil =>
      have : args.size = 0 := by rw [← Array.length_toList, hl]; rfl
      exact ⟨.ret (.bool true, w), by unfold yesH; rw [if_pos ⟨rfl, this⟩], .ret hs⟩
    | cons x l =>
      have : args.size ≠ 0 := by rw [← Array.length_toList, hl]; simp
      show yesH f f args w = none
      unfold yesH; rw [if_neg (fun h => this h.2)]
  | false =>
    have : f ≠ g := fun h => by subst h; rw [Nat.beq_refl] at hb; cases hb
    show yesH g f args w = none
    exact yes_ne this
theorem fast_all {P : Program} {G : GTab} (hG : GOk P G) {FH : FAns} {H : HeapAns} (hH : FHOk FH H) {m : Nat} {f : FuncId} {args : Array Value} {fw : FW} {w : World} (hs : SimW fw w) (h : ((frun P G FH m).enter f args fw).allB isTrueF = true) :
    ((runH P H m).enter f args w).all fun x => x.1 = .bool true :=
  (frun_ok hG hH m).enter f args fw w _ hs (T.all_of_allB (fun _ ha _ _ => isTrueF_spec ha) h)
end Go.Proofs.YteljibbnpheekaaGreat
