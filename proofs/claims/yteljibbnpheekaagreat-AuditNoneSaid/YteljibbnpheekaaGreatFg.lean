/-
  The fast evaluator: the sort of numbers as an answer.
-/
import Derived.Test.YteljibbnpheekaaGreatFe
namespace Go.Ideal
open Go
def isTrueF : Value × FW → Bool
  | (.bool b, _) => b
  | _ => false
theorem isTrueF_spec {x : Value × FW} (h : isTrueF x = true) : x.1 = .bool true := by
  obtain ⟨v, w⟩ := x
  cases v with
  | bool b =>
    have h' : b = true := h
    subst h'
    rfl
  | _ => cases h
noncomputable def orF (A B : FAns) : FAns := fun f a w => match A f a w with
  | some t => some t
  | none => B f a w
theorem FHOk.or {A B : FAns} {H K : HeapAns} (h : FHOk A H) (k : FHOk B K) : FHOk (orF A B) (orH H K) := fun f args fw w hs => by
  have h1 := h f args fw w hs
  unfold orF
  cases ha : A f args fw with
  | some t =>
    rw [ha] at h1
    obtain ⟨t', h2, h3⟩ := h1
    exact ⟨t', by unfold orH; rw [h2], h3⟩
  | none =>
    rw [ha] at h1
    have h2 := k f args fw w hs
    cases hb : B f args fw with
    | some t =>
      rw [hb] at h2
      obtain ⟨t', h3, h4⟩ := h2
      exact ⟨t', by unfold orH; rw [h1]; exact h3, h4⟩
    | none =>
      rw [hb] at h2
      show orH H K f args w = none
      unfold orH; rw [h1]; exact h2
end Go.Ideal
