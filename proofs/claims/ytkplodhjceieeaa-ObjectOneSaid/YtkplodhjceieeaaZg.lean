/-
  Objects: a call of both, walked; both behind some calls.
-/
import Derived.Test.YtkplodhjceieeaaZf
namespace Go.Proofs.Ytkplodhjceieeaa
open Go Go.Ideal

def BothO (w : World) (b l r x : Nat) (s : OS) : Prop := ∃ pb pf vh vl, ObjAt w b l r pb pf s ∧ RefO w x vh vl s

set_option maxRecDepth 20000 in
theorem drop_len (s : OS) (id : Int) : (dropO s id).1.1.length ≤ 2000 := by
  have h := free_len (fIs s id)
  have h2 : (dropO s id).1.1 = [] ∨ (dropO s id).1.1 = framesA s id := by
    unfold dropO
    split
    · exact .inl rfl
    · split
      · exact .inl rfl
      · exact .inr rfl
  rcases h2 with e | e
  · rw [e, List.length_nil]; omega
  · rw [e]; exact Nat.le_trans h (by omega)

theorem run51 {K : Kont} {fuel : Nat} (hK : Objs K) (hR : Refs K) {w : World} {b l r x : Nat} {s : OS} {B : Nat} (h : BothO w b l r x s) (hs : s.ok B) (hB : B ≤ 1000) (a : ActO) :
    wpGFn Try.prog K fuel 51 g51 #[pt b, pt x, .agg a.cells] w fun v w' => v = .bool true ∧ BothO w' b l r x (stepO s a) ∧ KeepZ w w' := by
  rw [gfn_start]
  obtain ⟨pb, pf, vh, vl, hp, hq⟩ := h
  have k0 : Keeps w (World.push w (.cells a.cells 51)) (fun _ => False) := Keeps.push _ _ _
  have hb0 : cellsOf? (World.push w (.cells a.cells 51)) w.heap.size = some (#[n64 a.k, n64 a.id, n64 a.page, n64 a.frame, n64 a.to], 51, (0, 0)) := by simp [ActO.cells]
  have hp0 := hp.keep k0
  have hq0 := hq.keep k0 (fun _ _ h => h)
  have hsz0 : w.heap.size < (World.push w (.cells a.cells 51)).heap.size := by simp
  have key : ∀ {w1 : World} {s' : OS} {pb' pf' : Int → Nat}, ObjAt w1 b l r pb' pf' s' → KeepT (World.push w (.cells a.cells 51)) w1 → cellsOf? w1 w.heap.size = some (#[n64 a.k, n64 a.id, n64 a.page, n64 a.frame, n64 a.to], 51, (0, 0)) ∧ RefO w1 x vh vl s ∧ ∀ {w2 : World}, RefTo2 w1 w2 x vh vl s' → BothO w2 b l r x s' ∧ KeepZ w w2 := by
    intro w1 s' pb' pf' h1 h2
    have hq1 := hq0.keepT h2
    refine ⟨h2.2 _ _ _ _ hb0 (fun _ => by decide), hq1, fun h3 => ?_⟩
    obtain ⟨⟨vh', vl', h4⟩, h5⟩ := h3
    exact ⟨⟨pb', pf', vh', vl', h1.keepM hq1 h5, h4⟩, (KeepT.of0 k0).z.trans (h2.z.trans (mvO_z hq1 h5))⟩
  have hold : ∀ j, MvO x vh vl j → j < w.heap.size := fun j hj => by
    obtain ⟨c, e, hc, _⟩ := mvO_cells hq hj
    exact cells_lt hc
  generalize hw0 : World.push w (.cells a.cells 51) = w0 at *
  by_cases c0 : a.k = 0
  · simp -implicitDefEqProofs [g51, hw0, hb0, c0]
    refine valA_of (hK.make hp0 hs (by omega)) (fun v w1 hq => ?_)
    obtain ⟨hv, ⟨x1, y1, h1⟩, h2⟩ := hq
    simp only at hv h1 h2
    obtain ⟨hb1, hr1, hfin⟩ := key h1 h2
    subst hv
    simp -implicitDefEqProofs
    refine valA_of (hR.make hr1 hs hB) (fun v w2 hq => ?_)
    obtain ⟨hv, h3⟩ := hq
    simp only at hv h3
    subst hv
    simp -implicitDefEqProofs [stepO, c0]
    exact hfin h3
  · by_cases c1 : a.k = 1
    · simp -implicitDefEqProofs [g51, hw0, hb0, c1]
      refine valA_of (hK.hold hp0 hs (by omega) a.id) (fun v w1 hq => ?_)
      obtain ⟨hv, h1, h2⟩ := hq
      simp only at hv h1 h2
      obtain ⟨hb1, hr1, hfin⟩ := key h1 h2
      subst hv
      simp -implicitDefEqProofs [hb1]
      refine valA_of (hR.hold hr1 hs hB a.id) (fun v w2 hq => ?_)
      obtain ⟨hv, h3⟩ := hq
      simp only at hv h3
      subst hv
      have hst : stepO s a = if 0 < heldA s a.id then putH s a.id (heldA s a.id + 1) else s := by unfold stepO; rw [if_neg c0, if_pos c1]
      simp -implicitDefEqProofs [hst]
      exact hfin h3
    · by_cases c2 : a.k = 2
      · simp -implicitDefEqProofs [g51, hw0, hb0, c2]
        refine valA_of (hK.drop hp0 hs (by omega) a.id) (fun v w1 hq => ?_)
        obtain ⟨vr, hv, hrow, hfr, h1, h2⟩ := hq
        simp only at hv hrow h1 h2
        obtain ⟨hb1, hr1, hfin⟩ := key h1 h2
        subst hv
        simp -implicitDefEqProofs [hb1]
        refine valA_of (hR.drop hr1 hs hB a.id) (fun v w2 hq => ?_)
        obtain ⟨vr2, hv, hrow2, h3⟩ := hq
        simp only at hv hrow2 h3
        subst hv
        have hrow3 := hrow.keep h3.2 (fun j hj h => by have := hold j h; have := hfr j hj; omega)
        have hlen := drop_len s a.id
        simp -implicitDefEqProofs
        refine valA_of (hR.num hrow3.src hrow2.src hlen) (fun v w3 hq => ?_)
        obtain ⟨hv, hw⟩ := hq
        simp only at hv hw
        subst hv hw
        have hst : stepO s a = (dropO s a.id).2 := by unfold stepO; rw [if_neg c0, if_neg c1, if_pos c2]
        simp -implicitDefEqProofs [hst]
        exact hfin h3
      · have setc : a.k = 3 ∨ a.k = 4 ∨ a.k = 5 → stepO s a = (setO s a.id a.page a.frame).2 := fun h => by unfold stepO; rw [if_neg c0, if_neg c1, if_neg c2, if_pos h]
        by_cases c3 : a.k = 3
        · simp -implicitDefEqProofs [g51, hw0, hb0, c3]
          refine valA_of (hK.set hp0 a.id a.page a.frame) (fun v w1 hq => ?_)
          obtain ⟨hv, h1, h2⟩ := hq
          simp only at hv h1 h2
          obtain ⟨hb1, hr1, hfin⟩ := key h1 h2
          subst hv
          simp -implicitDefEqProofs [hb1]
          refine valA_of (hR.set hr1 hs a.id a.page a.frame) (fun v w2 hq => ?_)
          obtain ⟨hv, h3⟩ := hq
          simp only at hv h3
          subst hv
          simp -implicitDefEqProofs [setc (.inl c3)]
          exact hfin h3
        · by_cases c4 : a.k = 4
          · simp -implicitDefEqProofs [g51, hw0, hb0, c4]
            refine valA_of (hK.set hp0 a.id a.page a.frame) (fun v w1 hq => ?_)
            obtain ⟨hv, h1, h2⟩ := hq
            simp only at hv h1 h2
            obtain ⟨hb1, hr1, hfin⟩ := key h1 h2
            subst hv
            simp -implicitDefEqProofs [hb1]
            refine valA_of (hR.set hr1 hs a.id a.page a.frame) (fun v w2 hq => ?_)
            obtain ⟨hv, h3⟩ := hq
            simp only at hv h3
            subst hv
            simp -implicitDefEqProofs [setc (.inr (.inl c4))]
            exact hfin h3
          · by_cases c5 : a.k = 5
            · simp -implicitDefEqProofs [g51, hw0, hb0, c5]
              refine valA_of (hK.set hp0 a.id a.page a.frame) (fun v w1 hq => ?_)
              obtain ⟨hv, h1, h2⟩ := hq
              simp only at hv h1 h2
              obtain ⟨hb1, hr1, hfin⟩ := key h1 h2
              subst hv
              simp -implicitDefEqProofs [hb1]
              refine valA_of (hR.set hr1 hs a.id a.page a.frame) (fun v w2 hq => ?_)
              obtain ⟨hv, h3⟩ := hq
              simp only at hv h3
              subst hv
              simp -implicitDefEqProofs [setc (.inr (.inr c5))]
              exact hfin h3
            · simp -implicitDefEqProofs [g51, hw0, hb0, c0, c1, c2, c3, c4, c5]
              refine valA_of (hK.chg hp0 hs a.frame a.to) (fun v w1 hq => ?_)
              obtain ⟨hv, h1, h2⟩ := hq
              simp only at hv h1 h2
              obtain ⟨hb1, hr1, hfin⟩ := key h1 h2
              subst hv
              simp -implicitDefEqProofs [hb1]
              refine valA_of (hR.chg hr1 hs a.frame a.to) (fun v w2 hq => ?_)
              obtain ⟨hv, h3⟩ := hq
              simp only at hv h3
              subst hv
              have hst : stepO s a = (chgO s a.frame a.to).2 := by unfold stepO; rw [if_neg c0, if_neg c1, if_neg c2, if_neg (by omega)]
              simp -implicitDefEqProofs [hst]
              exact hfin h3
end Go.Proofs.Ytkplodhjceieeaa
