/-
  TLBDoes: every call is answered as the document says.
-/
import Derived.Test.YtplcocifndpplaaPo
namespace Go.Proofs.Ytplcocifndpplaa
open Go Go.Ideal

structure Top (K : Kont) : Prop where
  api : Api K
  made : ∀ {w : World} {size : Int} {v : Value} {xs : List ActR}, ActsAt w v xs → (K.enter 14 #[i64 size, v] w).all fun r => Made w r.2 r.1 size xs

theorem top (m : Nat) (hm : 2000 ≤ m) : Top (runA Try.prog sp5 (m + 7)) where
  api := api (m + 2) (by omega)
  made := fun hv => enter_ok (m := m + 6) low14 rfl (run14 (api (m + 1) (by omega)) (fun h2 hr hl h1 hsz a ha => enter_ok (m := m + 5) low44 rfl (run44 (api m hm) h2 hr hl h1 hsz a ha)) (by omega) hv)

theorem run3 {K : Kont} {fuel : Nat} (hT : Top K) {w : World} {size s p : Int} {v : Value} {xs : List ActR} (hv : ActsAt w v xs) :
    wpGFn Try.prog K fuel 3 g3 #[.agg #[i64 size, v, i64 s, i64 p]] w fun r _ => r = .bool true := by
  rw [gfn_start]
  have k0 : Keeps w (World.push w (.cells #[i64 size, v, i64 s, i64 p] 24)) (fun _ => False) := Keeps.push _ _ _
  have hv0 := hv.keep k0
  simp -implicitDefEqProofs [g3]
  refine valA_of (hT.made hv0) (fun v1 w1 hq => ?_)
  simp only at hq
  rcases hq with ⟨_, rfl, _⟩ | ⟨hok, b, x, rfl, h2, hk, hnew⟩
  · simp -implicitDefEqProofs [hT.api.has.awake15, nil26]
  · have hg := runL_good hok.1 (xs.take 60)
    generalize runL size (xs.take 60) = ls at *
    have hl : ls.length ≤ 64 := by have := hg.len; omega
    simp -implicitDefEqProofs [hT.api.has.awake15, nil26]
    refine valA_of (hT.api.look h2.hb hg.right (by omega) s p) (fun v2 w2 hq2 => ?_)
    obtain ⟨hv2, k2⟩ := hq2
    simp only at hv2 k2
    subst hv2
    obtain ⟨h3, _⟩ := h2.new k2
    have kz2 : Keeps w2 (World.set (World.push w2 (.cells zeroL.cells 31)) w2.heap.size (.cells ((lookL ls s p).getD zeroL).cells 31)) (fun _ => False) :=
      (Keeps.push w2 (.cells zeroL.cells 31) (fun _ => False)).trans (Keeps.set _ w2.heap.size _ (F := fun j => j = w2.heap.size) (fun _ => rfl)) (fun _ _ h => h) (fun j hj h => by omega)
    obtain ⟨h4, _⟩ := h3.new kz2
    have c10 : cellsOf? (World.set (World.push w2 (.cells zeroL.cells 31)) w2.heap.size (.cells ((lookL ls s p).getD zeroL).cells 31)) w2.heap.size = some (((lookL ls s p).getD zeroL).cells, 31, (0, 0)) := by simp
    simp -implicitDefEqProofs [lookV, Line.val]
    generalize World.set (World.push w2 (.cells zeroL.cells 31)) w2.heap.size (.cells ((lookL ls s p).getD zeroL).cells 31) = w3 at *
    refine valA_of (hT.api.look9 h4.hx hg.right (by omega) s p) (fun v4 w4 hq4 => ?_)
    obtain ⟨hv4, k4⟩ := hq4
    simp only at hv4 k4
    subst hv4
    obtain ⟨h5, _⟩ := h4.new k4
    have kz4 : Keeps w4 (World.set (World.push w4 (.cells zeroL.cells 31)) w4.heap.size (.cells ((lookL ls s p).getD zeroL).cells 31)) (fun _ => False) :=
      (Keeps.push w4 (.cells zeroL.cells 31) (fun _ => False)).trans (Keeps.set _ w4.heap.size _ (F := fun j => j = w4.heap.size) (fun _ => rfl)) (fun _ _ h => h) (fun j hj h => by omega)
    obtain ⟨h6, _⟩ := h5.new kz4
    have c10' := kz4.cells (k4.cells c10 (fun h => h)) (fun h => h)
    have c12 : cellsOf? (World.set (World.push w4 (.cells zeroL.cells 31)) w4.heap.size (.cells ((lookL ls s p).getD zeroL).cells 31)) w4.heap.size = some (((lookL ls s p).getD zeroL).cells, 31, (0, 0)) := by simp
    obtain ⟨vx, hvx, hlx, _⟩ := h6.hx
    simp -implicitDefEqProofs [lookV, Line.val, -cells_set, hvx]
    generalize World.set (World.push w4 (.cells zeroL.cells 31)) w4.heap.size (.cells ((lookL ls s p).getD zeroL).cells 31) = w5 at *
    refine valA_of (hT.api.lines h6.hb (by omega)) (fun v6 w6 hq6 => ?_)
    obtain ⟨hv6, k6, _⟩ := hq6
    simp only at hv6 k6
    have vX := veq_slice_self (v := vx) (by obtain ⟨x, y, h⟩ := hlx.shape; exact ⟨_, _, _, h⟩)
    simp -implicitDefEqProofs [k6.cells hvx (fun h => h), vX]
    refine valA_of (hT.api.same hv6 (hlx.keep k6 (fun _ _ h => h)) (by omega)) (fun v7 w7 hq7 => ?_)
    obtain ⟨hv7, hw7⟩ := hq7
    simp only at hv7 hw7
    subst hv7 hw7
    simp -implicitDefEqProofs [k6.cells c10' (fun h => h), k6.cells c12 (fun h => h), line_eq, bool_eq]
end Go.Proofs.Ytplcocifndpplaa
