/-
  ObjectKept: the ideal walk.
-/
import Derived.Test.YtkplodhjceieeaaXh
namespace Go.Proofs.Ytkplodhjceieeaa
open Go Go.Ideal

/-- Numbers, as they lie. -/
def IntsAt (w : World) (v : Value) (xs : List Int) : Prop := Elems w v 1 (xs.map fun n => #[n64 n])
theorem IntsAt.lenS {w w' : World} {v : Value} {xs : List Int} (h : IntsAt w v xs) : Ideal.lenS v w' = .ret (.int .i64 (xs.length : Int), w') := by
  obtain ⟨vb, vc, rfl, _⟩ := h
  simp [Ideal.lenS]
theorem IntsAt.at {w : World} {v : Value} {xs : List Int} (h : IntsAt w v xs) {i : Nat} (hi : i < xs.length) : ∃ b o cap c e fz, v = .slice (some ⟨b, o, none⟩) xs.length cap ∧ cellsOf? w b = some (c, e, fz) ∧ o + i < c.size ∧ c[o + i]? = some (n64 xs[i]) := by
  obtain ⟨vb, vc, rfl, h2⟩ := h
  obtain ⟨b, o, c, e, fz, rfl, g2, g3, g4⟩ := h2 i (by simpa using hi)
  refine ⟨b, o, vc, c, e, fz, by simp, g2, by omega, ?_⟩
  have h5 : (c.extract (o + i * 1) (o + i * 1 + 1))[0]? = some (n64 xs[i]) := by rw [g4]; simp
  rw [Array.getElem?_extract, if_pos (by omega)] at h5
  simpa using h5
/-- A row that nobody writes. -/
def Froz (w : World) (v : Value) : Prop := ∀ b o vl vc c e fz, v = .slice (some ⟨b, o, none⟩) vl vc → cellsOf? w b = some (c, e, fz) → c.size ≠ 0 → fz ≠ (0, 0)
theorem elems_keepT {w w' : World} {v : Value} {es : Nat} {xs : List (Array Value)} (h : Elems w v es xs) (hes : 0 < es) (hf : Froz w v) (hk : KeepT w w') : Elems w' v es xs := by
  obtain ⟨vb, vc, rfl, h2⟩ := h
  refine ⟨vb, vc, rfl, fun i hi => ?_⟩
  obtain ⟨b, o, c, e, fz, rfl, g2, g3, g4⟩ := h2 i hi
  exact ⟨b, o, c, e, fz, rfl, hk.2 _ _ _ _ g2 (fun h => absurd h (hf b o _ _ c e fz rfl g2 (by omega))), g3, g4⟩
theorem froz_start {P : Program} {W σ : World} {β : Beta} (hR : R P W.heap.size (Base.of W) β σ W) (v : Value) : Froz σ v := by
  intro b o vl vc c e fz _ hc hn hz
  subst hz
  have hb : σ.heap[b]? = some (.cells c e (0, 0)) := by
    unfold cellsOf? at hc
    split at hc
    · rename_i h; simp only [Option.some.injEq, Prod.mk.injEq] at hc; obtain ⟨rfl, rfl, rfl⟩ := hc; exact h
    · cases hc
  obtain ⟨bi, hbi⟩ := hR.cov b (Array.getElem?_eq_some_iff.1 hb).1
  have h1 := hR.new _ _ _ hb hbi rfl
  have h2 := hR.lt hb hbi rfl
  omega
end Go.Proofs.Ytkplodhjceieeaa
