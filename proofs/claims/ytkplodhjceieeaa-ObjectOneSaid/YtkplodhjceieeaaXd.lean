/-
  Objects: Set, Change.
-/
import Derived.Test.YtkplodhjceieeaaXc
namespace Go.Proofs.Ytkplodhjceieeaa
open Go Go.Ideal

/-- What one object's map and the owners' leave. -/
theorem ObjAt.two {w w' : World} {b l r : Nat} {pb pf : Int → Nat} {s s' : OS} (h : ObjAt w b l r pb pf s) {id : Int} (hl : 0 < heldA s id) (hh : s'.held = s.held) (hk : Keeps w w' (fun j => j = pf id ∨ j = r))
    (hf : ∃ m, MapAt w' (pf id) m ∧ ∀ p, getM m p = (pageA s' id p).map fun o => n64 o.frame) (ho : ∃ m, MapAt w' r m ∧ ∀ f, getM m f = (ownA s' f).map fun o => .agg #[n64 o.id, n64 o.page])
    (hj : ∀ j, j ≠ id → ∀ p, pageA s' j p = pageA s j p) : ObjAt w' b l r pb pf s' ∧ KeepT w w' := by
  have he : ∀ j, heldA s' j = heldA s j := fun j => by unfold heldA; rw [hh]
  obtain ⟨mf0, f0, _⟩ := h.frs id hl
  obtain ⟨mo0, o0, _⟩ := h.mo
  have nc : ∀ {j c e fz}, cellsOf? w j = some (c, e, fz) → ¬ (j = pf id ∨ j = r) := fun hc hx => by
    rcases hx with rfl | rfl
    · rw [f0.nocells] at hc; cases hc
    · rw [o0.nocells] at hc; cases hc
  refine ⟨⟨by rw [hh]; exact hk.cells h.cell (nc h.cell), ?_, ho, fun j hj' => ?_, fun j hj' => ?_, fun i j hi hj' => ?_, fun i j hi hj' => ?_, h.ne, fun i hi => h.nef i (by rw [← he]; exact hi)⟩, KeepT.of hk fun j c e fz hx hc => absurd hx (nc hc)⟩
  · obtain ⟨m, h1, h2⟩ := h.ml
    exact ⟨m, h1.keep hk (fun e => e.elim (fun e => (h.nef id hl).1 e.symm) h.ne), fun j => by rw [he]; exact h2 j⟩
  · rw [he] at hj' ⊢
    exact hk.cells (h.obj j hj') (nc (h.obj j hj'))
  · rw [he] at hj'
    by_cases hji : j = id
    · subst hji; exact hf
    · obtain ⟨m, h1, h2⟩ := h.frs j hj'
      exact ⟨m, h1.keep hk (fun e => e.elim (fun e => hji (h.injf j id hj' hl e)) (h.nef j hj').2), fun p => by rw [hj j hji]; exact h2 p⟩
  · rw [he] at hi hj'; exact h.inj i j hi hj'
  · rw [he] at hi hj'; exact h.injf i j hi hj'

open Classical in
noncomputable def setO (s : OS) (id p f : Int) : Int × OS :=
  if ¬ 0 < heldA s id then (6, s) else if ¬ ((0 ≤ p ∧ p < 4096) ∧ (0 ≤ f ∧ f < 1024)) then (3, s) else if pageA s id p ≠ none ∨ ownA s f ≠ none then (7, s) else (0, setL s id p f)

theorem infoInt : ∃ i, Try.prog.info? 3 = some i ∧ i.zero = some (n64 0) := by
  have h1 : (Try.prog.info? 3).map (·.zero) = some (some (n64 0)) := by kernel_rfl
  cases h : Try.prog.info? 3 with
  | none => rw [h] at h1; cases h1
  | some i => rw [h] at h1; simp only [Option.map_some, Option.some.injEq] at h1; exact ⟨i, rfl, h1⟩
theorem info91 : ∃ i, Try.prog.info? 91 = some i ∧ i.zero = some (.agg #[n64 0, n64 0]) := by
  have h1 : (Try.prog.info? 91).map (·.zero) = some (some (.agg #[n64 0, n64 0])) := by kernel_rfl
  cases h : Try.prog.info? 91 with
  | none => rw [h] at h1; cases h1
  | some i => rw [h] at h1; simp only [Option.map_some, Option.some.injEq] at h1; exact ⟨i, rfl, h1⟩
theorem und83 : Try.prog.underlying 83 = some (.map 3 3) := by kernel_rfl
theorem und79 : Try.prog.underlying 79 = some (.map 3 91) := by kernel_rfl
theorem und3 : Try.prog.underlying 3 = some (.int .i64) := by kernel_rfl

theorem run17 {K : Kont} {fuel : Nat} (hF : Find K) {w : World} {b l r : Nat} {pb pf : Int → Nat} {s : OS} {B : Nat} (hp : ObjAt w b l r pb pf s) (id p f : Int) :
    wpGFn Try.prog K fuel 17 g17 #[pt b, n64 id, n64 p, n64 f] w fun v w' => v = n64 (setO s id p f).1 ∧ ObjAt w' b l r pb pf (setO s id p f).2 ∧ KeepT w w' := by
  rw [gfn_start]
  simp -implicitDefEqProofs [g17]
  refine valA_of (hF.find hp.r id) (fun u w1 hq => ?_)
  obtain ⟨hu, hw⟩ := hq
  simp only at hu hw
  subst hu hw
  by_cases h : 0 < heldA s id
  · by_cases hp0 : 0 ≤ p
    · by_cases hp1 : p < 4096
      · have hp2 : ¬ 4096 ≤ p := by omega
        have hp3 : ¬ p < 0 := by omega
        simp -implicitDefEqProofs [findP, findE, h, hp3, hp1, hp2]
        refine valA_of (hF.frame w1 f) (fun u w2 hq => ?_)
        obtain ⟨hu, hw⟩ := hq
        simp only at hu hw
        subst hu hw
        by_cases hf : 0 ≤ f ∧ f < 1024
        · obtain ⟨mf, hmf, hgf⟩ := hp.frs id h
          obtain ⟨mo, hmo, hgo⟩ := hp.mo
          have kb : ∀ c : Array Value, Keeps w2 (World.set (World.push w2 (.cells #[.int .i64 0, .int .i64 0] 91)) w2.heap.size (.cells c 91)) (fun _ => False) := fun c =>
            (Keeps.push w2 _ (fun _ => False)).trans (Keeps.set _ w2.heap.size _ (F := fun j => j = w2.heap.size) (fun _ => rfl)) (fun _ _ h => h) (fun j hj h => by omega)
          have hlf := lookup_map (w := w2) (r := pf id) (m := mf) (z := n64 0) (i := p) (ok := true) hmf.is
          have hlo := lookup_map (w := w2) (r := r) (m := mo) (z := .agg #[.int .i64 0, .int .i64 0]) (i := f) (ok := true) hmo.is
          rw [hgf] at hlf
          rw [hgo] at hlo
          cases hpa : pageA s id p with
          | some o1 =>
            cases hoa : ownA s f with
            | some o2 =>
              simp only [hpa, hoa, Option.map_some, if_true] at hlf hlo
              simp -implicitDefEqProofs [hf, hp.obj id h, hp.cell, hlf, hlo, setO, h, hp0, hp1, hpa]
              exact ⟨hp.keep (kb _), KeepT.of0 (kb _)⟩
            | none =>
              simp only [hpa, hoa, Option.map_some, Option.map_none, if_true] at hlf hlo
              simp -implicitDefEqProofs [hf, hp.obj id h, hp.cell, hlf, hlo, setO, h, hp0, hp1, hpa]
              exact ⟨hp.keep (kb _), KeepT.of0 (kb _)⟩
          | none =>
            cases hoa : ownA s f with
            | some o2 =>
              simp only [hpa, hoa, Option.map_some, Option.map_none, if_true] at hlf hlo
              simp -implicitDefEqProofs [hf, hp.obj id h, hp.cell, hlf, hlo, setO, h, hp0, hp1, hpa, hoa]
              exact ⟨hp.keep (kb _), KeepT.of0 (kb _)⟩
            | none =>
              simp only [hpa, hoa, Option.map_none, if_true] at hlf hlo
              have hn1 : ¬ pb id = w2.heap.size := by have := cells_lt (hp.obj id h); omega
              have hn2 : ¬ b = w2.heap.size := by have := cells_lt hp.cell; omega
              obtain ⟨i3, hi3, hz3⟩ := infoInt
              obtain ⟨i9, hi9, hz9⟩ := info91
              have kw := kb #[.int .i64 0, .int .i64 0]
              simp -implicitDefEqProofs [hf, hp.obj id h, hp.cell, hlf, hlo, hn1, hn2, fillS, Instr.fill]
              generalize World.set (World.push w2 (.cells #[.int .i64 0, .int .i64 0] 91)) w2.heap.size (.cells #[.int .i64 0, .int .i64 0] 91) = wb at *
              have hpw := hp.keep kw
              have hne := (hp.nef id h).2
              refine mapEntry_go (m := mf) (r := pf id) (i := p) und83 und3 hi3 hz3 rfl (by simp) (by simp) rfl rfl (hmf.keep kw (fun h => h)) (fun e1 n1 st v he1 => ?_)
              simp -implicitDefEqProofs
              refine entryStore_go (m := mf) (r := pf id) (i := p) (st := st) (v := n64 f) (by simp) (by simp) (by simp) rfl rfl rfl he1 (fun e2 n2 hm2 => ?_)
              have k1 : Keeps wb (World.set (World.set wb (pf id) (.map e1 n1)) (pf id) (.map e2 n2)) (fun j => j = pf id) := (Keeps.set _ _ _ (F := fun j => j = pf id) (fun _ => rfl)).trans (Keeps.set _ _ _ (F := fun j => j = pf id) (fun _ => rfl)) (fun _ _ h => h) (fun _ _ h => h)
              generalize World.set (World.set wb (pf id) (.map e1 n1)) (pf id) (.map e2 n2) = wc at *
              simp -implicitDefEqProofs
              refine mapEntry_go (m := mo) (r := r) (i := f) und79 und3 hi9 hz9 rfl (by simp) (by simp) rfl rfl ((hmo.keep kw (fun h => h)).keep k1 (fun e => hne e.symm)) (fun e3 n3 st3 v3 he3 => ?_)
              simp -implicitDefEqProofs
              refine entryStore_go (m := mo) (r := r) (i := f) (st := st3) (v := .agg #[n64 id, n64 p]) (by simp) (by simp) (by simp) rfl rfl rfl he3 (fun e4 n4 hm4 => ?_)
              have k2 : Keeps wc (World.set (World.set wc r (.map e3 n3)) r (.map e4 n4)) (fun j => j = r) := (Keeps.set _ _ _ (F := fun j => j = r) (fun _ => rfl)).trans (Keeps.set _ _ _ (F := fun j => j = r) (fun _ => rfl)) (fun _ _ h => h) (fun _ _ h => h)
              generalize World.set (World.set wc r (.map e3 n3)) r (.map e4 n4) = wd at *
              have hso : setO s id p f = (0, setL s id p f) := by unfold setO; rw [if_neg (by simpa using h), if_neg (by simp [hp0, hp1, hf]), if_neg (by simp [hpa, hoa])]
              have fin := hpw.two (s' := setL s id p f) h rfl (k1.trans k2 (H := fun j => j = pf id ∨ j = r) (fun _ _ h => .inl h) (fun _ _ h => .inr h))
                ⟨_, hm2.keep k2 (fun e => hne e), fun q => by
                  rw [getM_put, hgf, page_set hpa]
                  by_cases hq : q = p
                  · subst hq; simp
                  · rw [if_neg hq, if_neg (fun e => hq e.2)]⟩
                ⟨_, hm4, fun g => by
                  rw [getM_put, hgo, own_set hoa]
                  by_cases hg : g = f
                  · subst hg; simp
                  · rw [if_neg hg, if_neg hg]⟩
                (fun j hj q => by rw [page_set hpa, if_neg (fun e => hj e.1)])
              simp -implicitDefEqProofs [hso]
              exact ⟨fin.1, (KeepT.of0 kw).trans fin.2⟩
        · simp -implicitDefEqProofs [hf, setO, h, hp0, hp1]
          exact ⟨hp, KeepT.refl _⟩
      · have hp2 : 4096 ≤ p := by omega
        have hp3 : ¬ p < 0 := by omega
        simp -implicitDefEqProofs [findP, findE, h, hp0, hp1, hp2, hp3, setO]
        exact ⟨hp, KeepT.refl _⟩
    · have hp3 : p < 0 := by omega
      simp -implicitDefEqProofs [findP, findE, h, hp0, hp3, setO]
      exact ⟨hp, KeepT.refl _⟩
  · simp -implicitDefEqProofs [findP, findE, h, setO]
    exact ⟨hp, KeepT.refl _⟩
end Go.Proofs.Ytkplodhjceieeaa
