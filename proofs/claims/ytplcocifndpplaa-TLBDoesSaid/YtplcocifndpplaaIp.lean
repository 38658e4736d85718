/-
  The operations side by side: append, whole; one operation.
-/
import Derived.Test.YtplcocifndpplaaIn
namespace Go.Ideal
open Go
section
variable {P : Program} {B : Nat} {w0 : Base} {β : Beta}

theorem nil_new {size n : Nat} {b : Option Addr} {c : Nat} {σ σ' : World} {cs : Array Value} (h : (Builtin.firstCells size n (.slice b n c)).run P σ = .ok cs σ') (hb : b = none → n = 0) : cs.size = n * size := by
  obtain ⟨_, h2, h3⟩ := firstCells_spec h
  cases b with
  | none => rw [h3 rfl, hb rfl]; simp
  | some a => exact h2 rfl

theorem VR.nilLen {b : Option Addr} {l c : Nat} {v : Value} (h : VR β (.slice b l c) v) (hb : b = none) : l = 0 := by
  subst hb; cases h; rfl

theorem tsim_iappend {at_ : Array TypeId} {ty : TypeId} {args args' : Array Value} (ha : AR β args args') : TSim P B w0 β (iappend P at_ args) (Builtin.append_ at_ ty args') VR := by
  intro β1 σ w hle hR Q hQ
  unfold iappend at hQ
  split at hQ
  · rename_i sT xT base sLen sCap xb n xc h0 h1 ha0 ha1
    obtain ⟨s', ha0', hsr0⟩ := ha.get ha0
    obtain ⟨x', ha1', hxr0⟩ := ha.get ha1
    have hsr := hsr0.mono hle
    have hxr := hxr0.mono hle
    split at hQ
    · rename_i elem xe hs hx
      split at hQ
      · rename_i i hi
        split at hQ
        · rename_i hcond
          obtain ⟨hsz, hb0, hb, hz⟩ := hcond
          split at hQ
          · rename_i new w1 hnew
            have hw1 := (firstCells_spec hnew).1
            subst hw1
            have hns : new.size = n * i.size := nil_new hnew (fun e => VR.nilLen hxr e)
            split at hQ
            · rename_i hone
              obtain ⟨xb', xc', rfl⟩ : ∃ b c, x' = .slice b n c := by cases hxr <;> exact ⟨_, _, rfl⟩
              obtain ⟨_, new', hnew', hn⟩ := rsim_firstCells hxr (size := i.size) (n := n) (fun a l c e => by simp only [Value.slice.injEq] at e; omega) β1 _ w (.refl _) hR new _ hnew
              -- a closed one that must grow
              have grow : ∀ {σ1 : World} {v : Value}, (growCells P w1 elem i.size sLen (.slice base sLen sCap) new n).all (fun x => x = (v, σ1)) → (∀ b l c, s' = .slice b l c → ¬ sLen + n ≤ c) →
                  ∃ β2 v' w', β1.le β2 ∧ (Builtin.append_ at_ ty args').run P w = .ok v' w' ∧ R P B w0 β2 σ1 w' ∧ VR β2 v v' := by
                intro σ1 v hv hroom
                unfold growCells at hv
                split at hv
                · rename_i old w2 hold
                  have hw2 := (firstCells_spec hold).1
                  subst hw2
                  have hos : old.size = sLen * i.size := nil_new hold (fun e => VR.nilLen hsr e)
                  simp only [newCells, T.all, Prod.mk.injEq] at hv
                  obtain ⟨rfl, rfl⟩ := hv
                  exact tsim_grow_closed h0 h1 hs hx hi ha0' ha1' hsr hxr hz hsz hb0 hb hR hnew hold (by rw [Array.size_append, hos, hns, Nat.add_mul]) hroom
                · exact hv.elim
              have one : ∀ {t : T (Value × World)} {Q : Value × World → Prop}, (∀ {a b}, t = .ret (a, b) → True) → t.all Q → (∃ v σ1, t.all (fun x => x = (v, σ1)) ∧ Q (v, σ1)) ∨ ∃ n k, t = .pick n k := by
                intro t Q _ h
                cases t with
                | ret a => exact .inl ⟨a.1, a.2, rfl, h⟩
                | bad => exact h.elim
                | pick n k => exact .inr ⟨n, k, rfl⟩
              have grow1 : ∀ {Q : Value × World → Prop}, (growCells P w1 elem i.size sLen (.slice base sLen sCap) new n).all Q →
                  ∃ v σ1, (growCells P w1 elem i.size sLen (.slice base sLen sCap) new n).all (fun x => x = (v, σ1)) ∧ Q (v, σ1) := by
                intro Q h
                rcases one (fun _ => trivial) h with h | ⟨n, k, h⟩
                · exact h
                · exfalso
                  unfold growCells at h
                  split at h <;> cases h
              by_cases hclosed : sCap < OPEN
              · rw [if_pos hclosed] at hQ
                by_cases hroom : sLen + n ≤ sCap
                · rw [if_pos hroom] at hQ
                  cases hsr with
                  | nilSlice =>
                    have hn0 : n = 0 := by omega
                    subst hn0
                    have hrun := run_append_in (ty := ty) (w := w) (w2 := w) h0 h1 ha0' ha1' hs hx hi (by omega) hnew' rfl
                    exact ⟨β1, _, w1, _, w, .refl _, hrun, hR, .nilSlice, hQ⟩
                  | @slice b o _ _ o' cap' bi hbi hsc =>
                    dsimp only at hQ
                    rcases hsc with ⟨_, rfl, hlen, ho⟩ | ⟨h, _⟩ | ⟨h, _⟩
                    · split at hQ
                      · rename_i u w2 hst
                        by_cases hc0 : cap' = 0
                        · have hn0 : n = 0 := by omega
                          subst hn0
                          have he : new = #[] := Array.eq_empty_of_size_eq_zero (by rw [hns]; simp)
                          subst he
                          have he' : new' = #[] := Array.eq_empty_of_size_eq_zero (by rw [← hn.1]; rfl)
                          subst he'
                          simp only [storeCells, Sem.run_pure, Result.ok.injEq] at hst
                          obtain ⟨_, rfl⟩ := hst
                          have hrun := run_append_in (ty := ty) (w := w) (w2 := w) h0 h1 ha0' ha1' hs hx hi (by omega) hnew' (by simp [storeCells, Sem.run_pure])
                          exact ⟨β1, _, _, _, w, .refl _, hrun, hR, .slice hbi (.inl ⟨hclosed, rfl, hroom, .inr hc0⟩), hQ⟩
                        · have ho' : o' = o + bi.d := ho.resolve_right hc0
                          subst ho'
                          have hp : PR β1 ⟨b, o, none⟩ ⟨bi.r, o + bi.d, none⟩ := ⟨b, o, bi, hbi, rfl, rfl⟩
                          obtain ⟨β2, _, w3, hle2, hst', hR2, _⟩ := sim_storeCells (P := P) (B := B) (w0 := w0) _ _ 0 (hp.add (sLen * i.size)) hn.lr β1 _ w (.refl _) hR _ _ hst
                          have hrun := run_append_in (ty := ty) (w := w) (w2 := w3) h0 h1 ha0' ha1' hs hx hi hroom hnew' hst'
                          exact ⟨β2, _, _, _, w3, hle2, hrun, hR2, .slice (hle2 _ _ hbi) (.inl ⟨hclosed, rfl, hroom, .inl rfl⟩), hQ⟩
                      · exact hQ.elim
                    · omega
                    · omega
                · rw [if_neg hroom] at hQ
                  obtain ⟨v, σ1, hv, hq⟩ := grow1 hQ
                  obtain ⟨β2, v', w', g1, g2, g3, g4⟩ := grow hv (fun b l c e => by
                    subst e
                    cases hsr with
                    | nilSlice => exact hroom
                    | slice hbi hsc =>
                      rcases hsc with ⟨_, rfl, _⟩ | ⟨h, _⟩ | ⟨h, _⟩
                      · exact hroom
                      · omega
                      · omega)
                  exact ⟨β2, v, σ1, v', w', g1, g2, g3, g4, hq⟩
              · rw [if_neg hclosed] at hQ
                by_cases hopen : sCap = OPEN
                · subst hopen
                  rw [if_pos rfl] at hQ
                  cases hsr with
                  | @slice b o _ _ o' cap' bi hbi hsc =>
                    dsimp only at hQ
                    rcases hsc with ⟨h, _⟩ | ⟨_, hes, hsc⟩ | ⟨h, _⟩
                    · exact absurd h (Nat.lt_irrefl _)
                    rotate_left
                    · exact absurd h (Nat.lt_irrefl _)
                    split at hQ
                    · rename_i c e hc
                      split at hQ
                      · rename_i hcond2
                        obtain ⟨rfl, _⟩ := hcond2
                        have hies : i.size = bi.es := hR.esz _ _ _ _ _ hc rfl hbi i hi
                        have hcn : c.size = bi.n := by
                          obtain ⟨ob, _, hor⟩ := hR.obj _ _ _ hc hbi rfl
                          cases hor; assumption
                        split at hQ
                        · -- in place in both
                          rename_i hfit
                          split at hQ
                          · rename_i u w2 hst
                            rcases hsc with ⟨rfl, g1, g2, g3⟩ | ⟨rfl, rfl, g1⟩
                            · have hroom : sLen + n ≤ cap' := by
                                refine Nat.le_of_mul_le_mul_right (c := bi.es) ?_ hes
                                simp only [hies] at hfit
                                omega
                              have hp : PR β1 ⟨b, o, none⟩ ⟨bi.r, o + bi.d, none⟩ := ⟨b, o, bi, hbi, rfl, rfl⟩
                              obtain ⟨β2, _, w3, hle2, hst', hR2, _⟩ := sim_storeCells (P := P) (B := B) (w0 := w0) _ _ 0 (hp.add (sLen * i.size)) hn.lr β1 _ w (.refl _) hR _ _ hst
                              have hrun := run_append_in (ty := ty) (w := w) (w2 := w3) h0 h1 ha0' ha1' hs hx hi hroom hnew' hst'
                              exact ⟨β2, _, _, _, w3, hle2, hrun, hR2, .slice (hle2 _ _ hbi) (.inr (.inl ⟨rfl, hes, .inl ⟨rfl, g1, hroom, g3⟩⟩)), hQ⟩
                            · have hn0 : n = 0 := by
                                have : (0 + n) * bi.es = 0 := by simp only [hies] at hfit; omega
                                rcases Nat.mul_eq_zero.1 this with h | h <;> omega
                              subst hn0
                              have he : new = #[] := Array.eq_empty_of_size_eq_zero (by rw [hns]; simp)
                              subst he
                              have he' : new' = #[] := Array.eq_empty_of_size_eq_zero (by rw [← hn.1]; rfl)
                              subst he'
                              simp only [storeCells, Sem.run_pure, Result.ok.injEq] at hst
                              obtain ⟨_, rfl⟩ := hst
                              have hrun := run_append_in (ty := ty) (w := w) (w2 := w) h0 h1 ha0' ha1' hs hx hi (by omega) hnew' (by simp [storeCells, Sem.run_pure])
                              exact ⟨β1, _, _, _, w, .refl _, hrun, hR, .slice hbi (.inr (.inl ⟨rfl, hes, .inr ⟨rfl, rfl, g1⟩⟩)), hQ⟩
                          · exact hQ.elim
                        · split at hQ
                          · exact hQ.elim
                          · rename_i hpos
                            obtain ⟨v, σ1, hv, hq⟩ := grow1 (T.all_bind.1 hQ)
                            by_cases hroom : sLen + n ≤ cap'
                            · unfold growCells at hv
                              split at hv
                              · rename_i old w2 hold
                                have hw2 := (firstCells_spec hold).1
                                subst hw2
                                have hos : old.size = sLen * i.size := nil_new hold (fun e => by cases e)
                                simp only [newCells, T.all, Prod.mk.injEq] at hv
                                obtain ⟨rfl, rfl⟩ := hv
                                rcases hsc with ⟨ho', g1, g2, g3⟩ | ⟨rfl, rfl, g1⟩
                                · obtain ⟨β2, v', w', q1, q2, q3, q4⟩ := tsim_grow_place (ty := ty) h0 h1 hs hx hi hbi hc ho' g3 hes ha0' ha1' hxr hroom hR hnew hone hns hold hos
                                  exact ⟨β2, _, _, v', w', q1, q2, q3, q4, hq⟩
                                · exact absurd (by omega) hpos
                              · exact hv.elim
                            · obtain ⟨β2, v', w', q1, q2, q3, q4⟩ := grow hv (fun b l c e => by
                                simp only [Value.slice.injEq] at e
                                obtain ⟨_, _, rfl⟩ := e
                                exact hroom)
                              have hb2 : b < σ1.heap.size := q3.dom _ _ (q1 _ _ hbi)
                              exact ⟨β2, _, _, v', w', q1, q2, q3.kill hb2, q4, hq⟩
                      · exact hQ.elim
                    · exact hQ.elim
                · rw [if_neg hopen] at hQ
                  exact hQ.elim
            · exact hQ.elim
          · exact hQ.elim
        · exact hQ.elim
      · exact hQ.elim
    · exact hQ.elim
  · exact hQ.elim
end
end Go.Ideal
