/-
  Two rows of the pool's calls that come as arguments.
-/
import Derived.Test.YtkplodhjceieeaaVs
import Derived.Test.YtkplodhjceieeaaJq
namespace Go.Proofs.Ytkplodhjceieeaa
open Go Go.Ideal Go.ChangeShapes

section
variable {H : Type} {enc : TypeId × Value → H} {W : World} {base fuel : Nat} {sp : Nat → Bool} {hd : Bool}

theorem acts_two {v v' : Value} {f1 f2 : Nat} {y y' : DataW H × List MemPlace} (hok : ∃ base, Cell.okWide Try.prog W .any base 53 v) (h : DataW.trod enc Try.prog W 0 (fun _ => true) true f1 53 [v] = some y)
    (hok' : ∃ base, Cell.okWide Try.prog W .any base 53 v') (h' : DataW.trod enc Try.prog W 0 (fun _ => true) true f2 53 [v'] = some y') :
    ∃ β σ vI vI' xs xs', R Try.prog W.heap.size (Base.of W) β σ W ∧ VR β vI v ∧ VR β vI' v' ∧ ActsAt σ vI xs ∧ ActsAt σ vI' xs' := by
  obtain ⟨o, bi, F, ys, hs, hv, hel, hys⟩ := slice_seen (es := 4) under53 cellsOf63 (by decide) (fun n cs y hy => by
    obtain ⟨a, rfl⟩ := trod_act hy
    exact ⟨rfl, act_plain⟩) (.inr hok) h
  obtain ⟨o', bi', F', ys', hs', hv', hel', hys'⟩ := slice_seen (es := 4) under53 cellsOf63 (by decide) (fun n cs y hy => by
    obtain ⟨a, rfl⟩ := trod_act hy
    exact ⟨rfl, act_plain⟩) (.inr hok') h'
  obtain ⟨xs, rfl⟩ := acts_rows ys hys
  obtain ⟨xs', rfl⟩ := acts_rows ys' hys'
  refine ⟨manyBeta [(o, bi), (o', bi')], manyWorld [(o, bi), (o', bi')], F 0, F' 1, xs, xs', R.many _ (fun x hx => ?_), hv _ 0 rfl, hv' _ 1 rfl, hel _ 0 rfl, hel' _ 1 rfl⟩
  simp only [List.mem_cons, List.not_mem_nil, or_false] at hx
  rcases hx with rfl | rfl
  · exact hs
  · exact hs'
end
end Go.Proofs.Ytkplodhjceieeaa
