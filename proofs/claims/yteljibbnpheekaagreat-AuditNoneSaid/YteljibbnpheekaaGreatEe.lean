/-
  Steps that come as an argument.
-/
import Derived.Test.YteljibbnpheekaaGreatEa
import Derived.Test.YteljibbnpheekaaGreatEl
import Derived.SizedLaws
namespace Go.Proofs.YteljibbnpheekaaGreat
open Go Go.Ideal Go.ChangeShapes
theorem own : ownKnob Tryz.prog.godebug = none := by kernel_rfl
theorem mixed : Tryz.prog.follows .mixedOrders = true := by kernel_rfl
theorem under3 : Tryz.prog.underlying 3 = some (.int .i64) := by kernel_rfl
section
variable {H : Type} {enc : TypeId × Value → H} {W : World} {base fuel : Nat} {sp : Nat → Bool} {hd : Bool}
def ArgE (w : World) (v : Value) (xs : List Stp) : Prop := (v = .slice none 0 0 ∧ xs = []) ∨ ∃ k c e fz, v = .slice (some ⟨k, 0, none⟩) xs.length (OPEN + 1) ∧ cellsOf? w k = some (c, e, fz) ∧ fz ≠ (0, 0) ∧ 0 + xs.length * 12 ≤ c.size ∧ c.toList.extract 0 (0 + xs.length * 12) = flat ESt xs
theorem ArgE.src {w : World} {v : Value} {xs : List Stp} (h : ArgE w v xs) : SrcE ESt w v xs := by
  rcases h with ⟨rfl, rfl⟩ | ⟨k, c, e, fz, rfl, hc, _, h1, h2⟩
  · exact .inl ⟨0, rfl, rfl⟩
  · exact .inr ⟨k, 0, _, c, e, fz, rfl, hc, h1, h2⟩
end
end Go.Proofs.YteljibbnpheekaaGreat
