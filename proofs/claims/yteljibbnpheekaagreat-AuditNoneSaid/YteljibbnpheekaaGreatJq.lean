/-
  Arguments that are more than one slice of plain data.
-/
import Derived.Test.YteljibbnpheekaaGreatJp
namespace Go.Ideal
open Go Go.RowKit Go.ChangeShapes
structure Seen (P : Program) (W : World) (o : Obj) (bi : BI) : Prop where
  obj : live o = true → ∃ o', W.heap[bi.r]? = some o' ∧ ∀ β, OR β bi o o'
  dd : live o = false → o = dead
  esz : ∀ c e fz, o = .cells c e fz → live o = true → ∀ i, P.info? e = some i → i.size = bi.es
  nw : wr o = false
theorem Seen.row {P : Program} {W : World} {r off n es : Nat} {c : Array Value} {te : TypeId} {fz : Nat × Nat} (hb : W.heap[r]? = some (.cells c te fz)) (hn : 0 < n) (hle : off + n ≤ c.size)
    (hp : ∀ (i : Nat) (v : Value), i < n → c[off + i]? = some v → selfD 4 v = true) (hi : ∀ i, P.info? te = some i → i.size = es) :
    Seen P W (.cells (c.extract off (off + n)) te (0, n)) ⟨r, off, n, es, c.size⟩ := by
  refine ⟨fun _ => ⟨_, hb, fun β => ?_⟩, fun hl => by simp [live] at hl, fun c' e' fz' h _ i hinf => ?_, ?_⟩
  · have hsz : (c.extract off (off + n)).size = n := by rw [Array.size_extract]; omega
    refine OR.cells (fz := (0, n)) (bi := ⟨r, off, n, es, c.size⟩) hsz rfl hle (fun i v hv => ?_) (.inr ⟨rfl, hn, Nat.le_of_eq hsz⟩)
    rw [Array.getElem?_extract] at hv
    split at hv
    · rename_i hlt
      have hin : i < n := by omega
      exact ⟨v, hv, selfVR _ 4 v (hp i v hin hv)⟩
    · cases hv
  · simp only [Obj.cells.injEq] at h
    obtain ⟨_, rfl, _⟩ := h
    exact hi i hinf
  · simp only [wr]
    rw [beq_eq_false_iff_ne]
    intro h
    simp only [Prod.mk.injEq] at h
    omega
end Go.Ideal
