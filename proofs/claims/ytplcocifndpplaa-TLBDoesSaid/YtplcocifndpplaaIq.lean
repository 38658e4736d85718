/-
  One operation, ideal and real.
-/
import Derived.Test.YtplcocifndpplaaIp
namespace Go.Ideal
open Go

inductive NR (β : Beta) : Next → Next → Prop
  | value {v v' : Value} (h : VR β v v') : NR β (.value v) (.value v')
  | skip : NR β .skip .skip
  | enter (f : FuncId) {args args' : Array Value} (h : AR β args args') : NR β (.enter f args) (.enter f args')
  | round {l : Nat} {bi : BI} (hl : β l = some bi) (f f' : FuncId) {tmps tmps' : Array Value} (h : AR β tmps tmps') (assign body : Code) :
      NR β (.round l f tmps assign body) (.round bi.r f' tmps' assign body)

section
variable {P : Program} {B : Nat} {w0 : Base} {β : Beta}

theorem ERL.filter {β : Beta} {p : MapEntry → Bool} (hp : ∀ x x', ER β x x' → p x = p x') : ∀ {l m : List MapEntry}, ERL β l m → ERL β (l.filter p) (m.filter p)
  | [], [], _ => trivial
  | a :: l, b :: m, h => by
    simp only [List.filter_cons, ← hp a b h.1]
    split
    · exact ⟨h.1, ERL.filter hp h.2⟩
    · exact ERL.filter hp h.2
  | [], _ :: _, h => h.elim
  | _ :: _, [], h => h.elim

theorem ERL.length {β : Beta} : ∀ {l m : List MapEntry}, ERL β l m → l.length = m.length
  | [], [], _ => rfl
  | _ :: _, _ :: _, h => by simp [ERL.length h.2]
  | [], _ :: _, h => h.elim
  | _ :: _, [], h => h.elim

theorem ERL.index {β : Beta} : ∀ {l m : List MapEntry}, ERL β l m → ∀ (i : Nat) (v v' : MapEntry), l[i]? = some v → m[i]? = some v' → ER β v v'
  | [], [], _, i, v, v', h, _ => by simp at h
  | a :: l, b :: m, hl, 0, v, v', h, h' => by
    simp at h h'; subst h; subst h'; exact hl.1
  | a :: l, b :: m, hl, i + 1, v, v', h, h' => ERL.index hl.2 i v v' (by simpa using h) (by simpa using h')
  | [], _ :: _, h, _, _, _, _, _ => h.elim
  | _ :: _, [], h, _, _, _, _, _ => h.elim

theorem EAR.filter {β : Beta} {es es' : Array MapEntry} (h : EAR β es es') {p : MapEntry → Bool} (hp : ∀ x x', ER β x x' → p x = p x') : EAR β (es.filter p) (es'.filter p) := by
  have := h.list.filter hp
  rw [← Array.toList_filter, ← Array.toList_filter] at this
  refine ⟨?_, fun i x x' e e' => this.index i x x' ?_ ?_⟩
  · have := this.length; rwa [Array.length_toList, Array.length_toList] at this
  · rw [Array.getElem?_toList]; exact e
  · rw [Array.getElem?_toList]; exact e'

theorem EAR.append {β : Beta} {c c' d d' : Array MapEntry} (h : EAR β c c') (k : EAR β d d') : EAR β (c ++ d) (c' ++ d') := by
  refine ⟨by simp [h.1, k.1], fun i x x' e e' => ?_⟩
  rw [Array.getElem?_append] at e e'
  rw [h.1] at e
  by_cases hi : i < c'.size
  · rw [if_pos hi] at e e'
    exact h.2 i x x' e e'
  · rw [if_neg hi] at e e'
    exact k.2 _ x x' e e'

theorem EAR.all {β : Beta} {es es' : Array MapEntry} (h : EAR β es es') {p : MapEntry → Bool} (hp : ∀ x x', ER β x x' → p x = p x') : es.all p = es'.all p := by
  rw [Bool.eq_iff_iff, Array.all_eq_true, Array.all_eq_true]
  constructor
  · intro g i hi
    have hi' : i < es.size := by rw [h.1]; exact hi
    rw [← hp _ _ (h.2 i es[i] es'[i] (by simp [hi']) (by simp [hi]))]
    exact g i hi'
  · intro g i hi
    have hi' : i < es'.size := by rw [← h.1]; exact hi
    rw [hp _ _ (h.2 i es[i] es'[i] (by simp [hi]) (by simp [hi']))]
    exact g i hi'

/-- Both go on over a map: whichever entry the real run takes is one of the choices. -/
theorem tsim_next {x x' : Value} (hx : VR β x x') (isS : Bool) (ty : TypeId) : TSim P B w0 β (inext P x isS ty) (Instr.next x' isS ty) VR := by
  intro β1 σ w hle hR Q hQ
  cases hx with
  | @ptr b o bi hb =>
    cases o with
    | succ o => exact hQ.elim
    | zero =>
      simp only [inext] at hQ
      have hb1 := hle _ _ hb
      cases ho : σ.heap[b]? with
      | none => rw [ho] at hQ; exact hQ.elim
      | some ob =>
        rw [ho] at hQ
        cases ob with
        | mapIter m since seen last =>
          obtain ⟨o', ho', hor⟩ := hR.obj _ _ _ ho hb1 rfl
          cases m with
          | none =>
            cases isS with
            | true => exact hQ.elim
            | false =>
              cases hor with
              | nilIter _ _ _ h0 =>
                refine ⟨β1, _, σ, .tuple #[.bool false], w, .refl _, ?_, hR, ?_, hQ⟩
                · unfold Instr.next
                  rw [h0]
                  simp [getObj, Sem.run, ho', Result.andThen, Sem.run_pure]
                · have := (AR.empty β1).push (VR.bool false)
                  exact .tuple this.1 this.2
          | some m =>
            cases isS with
            | true => exact hQ.elim
            | false =>
              dsimp only at hQ
              cases hm : σ.heap[m]? with
              | none => rw [hm] at hQ; exact hQ.elim
              | some om =>
                rw [hm] at hQ
                cases om with
                | map es clock =>
                  dsimp only at hQ
                  cases hor with
                  | @mapIter _ bm hbm _ _ _ h0 =>
                    obtain ⟨om', hom', hor2⟩ := hR.obj _ _ _ hm hbm rfl
                    cases hor2 with
                    | @map _ es' _ hs he =>
                      have hear : EAR β1 es es' := ⟨hs, he⟩
                      split at hQ
                      · exact hQ.elim
                      · rename_i hcond
                        have hp1 : ∀ x x', ER β1 x x' → (!seen.contains x.born) = (!seen.contains x'.born) := fun x x' h => by rw [h.born]
                        have hp2 : ∀ x x', ER β1 x x' → decide (x.born < since) = decide (x'.born < since) := fun x x' h => by rw [h.born]
                        have hp3 : ∀ x x', ER β1 x x' → decide (x.born ≥ since) = decide (x'.born ≥ since) := fun x x' h => by rw [h.born]
                        have hp4 : ∀ x x', ER β1 x x' → decide (x.born ≥ last) = decide (x'.born ≥ last) := fun x x' h => by rw [h.born]
                        have hl := hear.filter hp1
                        have hold := hl.filter hp2
                        have hnew := hl.filter hp3
                        obtain ⟨left, hleft⟩ : ∃ left, left = es.filter (fun e => !seen.contains e.born) := ⟨_, rfl⟩
                        obtain ⟨left', hleft'⟩ : ∃ left', left' = es'.filter (fun e => !seen.contains e.born) := ⟨_, rfl⟩
                        rw [← hleft, ← hleft'] at hold hnew
                        rw [← hleft] at hQ
                        have happ := hold.append hnew
                        have hempty : (left.filter (fun e => decide (e.born < since))).isEmpty = (left'.filter (fun e => decide (e.born < since))).isEmpty := by simp [Array.isEmpty, hold.1]
                        obtain ⟨cand, hcand⟩ : ∃ cand, cand = (if (left.filter (fun e => decide (e.born < since))).isEmpty then #[none] else #[]) ++ (left.filter (fun e => decide (e.born < since)) ++ left.filter (fun e => decide (e.born ≥ since))).map some := ⟨_, rfl⟩
                        obtain ⟨cand', hcand'⟩ : ∃ cand', cand' = (if (left'.filter (fun e => decide (e.born < since))).isEmpty then #[none] else #[]) ++ (left'.filter (fun e => decide (e.born < since)) ++ left'.filter (fun e => decide (e.born ≥ since))).map some := ⟨_, rfl⟩
                        rw [← hcand] at hQ
                        have hsz : cand.size = cand'.size := by
                          rw [hcand, hcand', ← hempty]
                          simp only [Array.size_append, Array.size_map, happ.1, hold.1, hnew.1]
                        have hci : ∀ i : Nat, (∃ e e' : MapEntry, cand[i]? = some (some e) ∧ cand'[i]? = some (some e') ∧ ER β1 e e') ∨ (cand[i]? = some none ∧ cand'[i]? = some none) ∨ (cand[i]? = none ∧ cand'[i]? = none) := by
                          intro i
                          rw [hcand, hcand', ← hempty]
                          have tail : ∀ k : Nat, (∃ e e' : MapEntry, ((left.filter (fun e => decide (e.born < since)) ++ left.filter (fun e => decide (e.born ≥ since))).map some)[k]? = some (some e) ∧ ((left'.filter (fun e => decide (e.born < since)) ++ left'.filter (fun e => decide (e.born ≥ since))).map some)[k]? = some (some e') ∧ ER β1 e e') ∨
                              (((left.filter (fun e => decide (e.born < since)) ++ left.filter (fun e => decide (e.born ≥ since))).map some)[k]? = none ∧ ((left'.filter (fun e => decide (e.born < since)) ++ left'.filter (fun e => decide (e.born ≥ since))).map some)[k]? = none) := by
                            intro k
                            simp only [Array.getElem?_map]
                            cases hg : (left.filter (fun e => decide (e.born < since)) ++ left.filter (fun e => decide (e.born ≥ since)))[k]? with
                            | none =>
                              have : (left'.filter (fun e => decide (e.born < since)) ++ left'.filter (fun e => decide (e.born ≥ since)))[k]? = none := by
                                rw [Array.getElem?_eq_none_iff] at hg ⊢
                                rw [← happ.1]; exact hg
                              rw [this]
                              exact .inr ⟨rfl, rfl⟩
                            | some e =>
                              obtain ⟨e', h1, h2⟩ := happ.get hg
                              rw [h1]
                              exact .inl ⟨e, e', rfl, rfl, h2⟩
                          by_cases hemp : (left.filter (fun e => decide (e.born < since))).isEmpty = true
                          · rw [if_pos hemp]
                            cases i with
                            | zero => exact .inr (.inl ⟨by rw [Array.getElem?_append_left (by simp)]; rfl, by rw [Array.getElem?_append_left (by simp)]; rfl⟩)
                            | succ i =>
                              rw [Array.getElem?_append_right (by simp), Array.getElem?_append_right (by simp)]
                              rcases tail (i + 1 - (#[none] : Array (Option MapEntry)).size) with h | h
                              · exact .inl h
                              · exact .inr (.inr h)
                          · rw [if_neg hemp]
                            rw [Array.empty_append, Array.empty_append]
                            rcases tail i with h | h
                            · exact .inl h
                            · exact .inr (.inr h)
                        have hch : 0 < cand'.size → ∃ j wj, j < cand'.size ∧ (wj = w ∨ wj = w.drew) ∧ (choose (Question.mapNext cand'.size)).run P w = .ok j wj := by
                          intro hpos
                          simp only [choose, Sem.run]
                          by_cases hf : (Question.mapNext cand'.size).forced = true
                          · rw [if_pos hf]
                            exact ⟨0, w, hpos, .inl rfl, rfl⟩
                          · rw [if_neg hf]
                            exact ⟨_, w.drew, Nat.mod_lt _ hpos, .inr rfl, rfl⟩
                        obtain ⟨hpos, hall⟩ := hQ
                        obtain ⟨j, wj, hj, hwj, hchoose⟩ := hch (hsz ▸ hpos)
                        have hQj := hall j (by rw [hsz]; exact hj)
                        dsimp only at hQj
                        have hRj : R P B w0 β1 σ wj := by
                          rcases hwj with rfl | rfl
                          · exact hR
                          · exact hR.drew
                        have hoj : wj.heap[bi.r]? = some (.mapIter (some bm.r) since seen last) := by rcases hwj with rfl | rfl <;> exact ho'
                        have hcond' : (!seen.isEmpty && !es'.isEmpty && es'.all fun x => decide (x.born ≥ last)) = false := by
                          rw [← hear.all hp4, show es'.isEmpty = es.isEmpty by simp [Array.isEmpty, hear.1]]
                          simpa using hcond
                        have hhead : ∀ {r : Result Value}, ((do
                              match cand'[j]? with
                              | some (some e) =>
                                setObj bi.r (.mapIter (some bm.r) since (seen.push e.born) clock)
                                pure (.tuple #[.bool true, e.key, e.val])
                              | some none => pure (.tuple #[.bool false])
                              | none => Go.stuck "Next: no such candidate") : Sem Value).run P wj = r → (Instr.next (.pointer (some ⟨bi.r, 0 + bi.d, none⟩)) false ty).run P w = r := by
                          intro r hr
                          rw [h0]
                          unfold Instr.next
                          simp only [Nat.add_zero, Sem.run_bind]
                          rw [show (getObj bi.r).run P w = .ok (.mapIter (some bm.r) since seen last) w by simp [getObj, Sem.run, ho']]
                          simp only [Result.andThen, Sem.run_bind]
                          rw [show (getObj bm.r).run P w = .ok (.map es' clock) w by simp [getObj, Sem.run, hom']]
                          simp only [Result.andThen]
                          rw [if_neg (by rw [hcond']; exact Bool.false_ne_true)]
                          simp only [Sem.run_bind]
                          rw [← hleft', ← hcand', hchoose]
                          simp only [Result.andThen]
                          exact hr
                        rcases hci j with ⟨e, e', g1, g2, g3⟩ | ⟨g1, g2⟩ | ⟨g1, g2⟩
                        · rw [g1] at hQj
                          have hkey : e.key = e'.key := g3.key.1
                          have hset : (setObj bi.r (.mapIter (some bm.r) since (seen.push e'.born) clock)).run P wj = .ok () (putObj wj bi.r (.mapIter (some bm.r) since (seen.push e'.born) clock)) := by
                            simp only [setObj, Sem.run, hoj]
                            rfl
                          have hrun := hhead (r := .ok (.tuple #[.bool true, e'.key, e'.val]) (putObj wj bi.r (.mapIter (some bm.r) since (seen.push e'.born) clock))) (by
                            rw [g2]
                            simp only [Sem.run_bind, hset, Result.andThen, Sem.run_pure])
                          have hR2 := hRj.putObj hb1 ho rfl (o := .mapIter (some m) since (seen.push e.born) clock) (o' := .mapIter (some bm.r) since (seen.push e.born) clock)
                            (.mapIter hbm since (seen.push e.born) clock h0) rfl (fun _ _ _ h => by cases h)
                          rw [g3.born] at hR2
                          have hkv : VR β1 e.key e'.key := by
                            rw [← hkey]
                            obtain ⟨a, b, hab⟩ := keyFit_int g3.key.2
                            rw [hab]; exact .int a b
                          have htup := (((AR.empty β1).push (VR.bool true)).push hkv).push g3.val
                          refine ⟨β1, .tuple #[.bool true, e.key, e.val], _, _, _, .refl _, hrun, hR2, .tuple htup.1 htup.2, ?_⟩
                          rw [← g3.born]; exact hQj
                        · rw [g1] at hQj
                          have hrun := hhead (r := .ok (.tuple #[.bool false]) wj) (by rw [g2]; simp only [Sem.run_pure])
                          have := (AR.empty β1).push (VR.bool false)
                          exact ⟨β1, _, σ, _, wj, .refl _, hrun, hRj, .tuple this.1 this.2, hQj⟩
                        · rw [g1] at hQj
                          exact hQj.elim
                | _ => exact hQ.elim
        | stringIter s p =>
          cases isS with
          | false => exact hQ.elim
          | true =>
            obtain ⟨o', ho', hor⟩ := hR.obj _ _ _ ho hb1 rfl
            cases hor with
            | stringIter _ _ h0 =>
              have ha : ∀ {w1 : World} {r : Nat}, w1.heap[r]? = some (.stringIter s p) → (Instr.next (.pointer (some ⟨r, 0, none⟩)) true ty).run P w1 =
                  if p < s.size then .ok (.tuple #[.bool true, goInt p, .int .i32 (Utf8.decode s p).1]) (putObj w1 r (.stringIter s (p + (Utf8.decode s p).2))) else .ok (.tuple #[.bool false]) w1 := by
                intro w1 r h
                unfold Instr.next
                simp only [Sem.run_bind, show (getObj r).run P w1 = .ok (.stringIter s p) w1 by simp [getObj, Sem.run, h], Result.andThen]
                split
                · simp only [Sem.run_bind, show ∀ o, (setObj r o).run P w1 = .ok () (putObj w1 r o) by intro o; simp only [setObj, Sem.run, h]; rfl, Result.andThen, Sem.run_pure]
                · simp only [Sem.run_pure]
              rw [ha ho] at hQ
              have hr := ha ho'
              by_cases hp : p < s.size
              · rw [if_pos hp] at hQ hr
                have := (((AR.empty β1).push (VR.bool true)).push (VR.int .i64 p)).push (VR.int .i32 (Utf8.decode s p).1)
                exact ⟨β1, _, _, _, _, .refl _, by rw [h0]; exact hr, hR.putObj hb1 ho rfl (.stringIter s _ h0) rfl (fun _ _ _ h => by cases h), .tuple this.1 this.2, hQ⟩
              · rw [if_neg hp] at hQ hr
                have := (AR.empty β1).push (VR.bool false)
                exact ⟨β1, _, _, _, _, .refl _, by rw [h0]; exact hr, hR, .tuple this.1 this.2, hQ⟩
        | _ => exact hQ.elim
  | nilPtr => exact hQ.elim
  | _ => exact hQ.elim
end
end Go.Ideal
