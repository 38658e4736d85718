/-
  Ranges over functions, in small words.
-/
import Derived.Test.YtplcocifndpplaaJm
namespace Go.Ideal
open Go

def findRange : Code → Option (Code × Code)
  | .seq x y => match findRange x with
    | some r => some r
    | none => findRange y
  | .cond _ x y => match findRange x with
    | some r => some r
    | none => findRange y
  | .block _ c | .loop c => findRange c
  | .rangeFunc _ _ a b => some (a, b)
  | _ => none

def rangeOf (P : Program) (f : FuncId) : Code × Code := (((P.funcs[f]?).bind fun fn => fn.body.bind findRange).getD (.skip, .skip))
def lowRange (P : Program) (f : FuncId) : Nat × GC × GC :=
  let n := ((P.funcs[f]?).map (·.ntmps)).getD 0
  (n, grpC (lowC P n (pcOf (rangeOf P f).1)), grpC (lowC P n (pcOf (rangeOf P f).2)))

@[simp] theorem of_arr (n : Nat) (ρ : Env) (i : Nat) : Env.of (arr n ρ) i = if i < n then ρ i else undef := by
  simp only [Env.of, arr, Array.getD_eq_getD_getElem?, Array.getElem?_ofFn]
  by_cases h : i < n <;> simp [h]

theorem size_arr (n : Nat) (ρ : Env) : (arr n ρ).size = n := by simp [arr]

section
variable {P : Program} {K : Kont} {fuel : Nat} {fn : FuncId} {n : Nat}

theorem gc_range {t : Tmp} {ps : Array Tmp} {A B : Code} {ρ : Env} {ds : List Deferred} {w : World} {Q : SPost} {f : FuncId} {first captured : Array Value} (ht : t < n) (hev : ρ t = .func (.func f) first captured)
    (hb : (P.funcs[f]?).any (fun fn => fn.body.isSome && fn.name != "runtime.NumGoroutine") = true)
    (h : (K.enter f (#[.func (.yield (w.heap.size + 1)) #[] #[]] ++ captured)
      (World.push (World.push w (.deferred (some []))) (.loop { state := .ready, pending := none, fn := fn, tmps := arr n ρ, params := ps, assign := A, body := B, defers := w.heap.size }))).all fun r =>
        ∃ x, r.2.heap[w.heap.size + 1]? = some (.loop x) ∧ x.state ≠ .busy ∧
          match x.pending with
          | none => Q .normal (Env.of (arr n ρ)) ({ target := .collected w.heap.size, args := #[] } :: ds) (World.set r.2 (w.heap.size + 1) (.loop { x with state := .exhausted }))
          | some .ret => Q .ret (Env.of (arr n ρ)) ({ target := .collected w.heap.size, args := #[] } :: ds) (World.set r.2 (w.heap.size + 1) (.loop { x with state := .exhausted }))
          | some (.exit id) => Q (.exit id) (Env.of (arr n ρ)) ({ target := .collected w.heap.size, args := #[] } :: ds) (World.set r.2 (w.heap.size + 1) (.loop { x with state := .exhausted }))
          | _ => False) : wpGC P K fuel fn none n (.rangeFunc (.tmp t) ps A B) ρ ds w Q := by
  show (icode P K fuel fn none (.rangeFunc (.tmp t) ps A B) ⟨arr n ρ, ds⟩ w).all _
  have he : (Instr.enterLoop fn (arr n ρ) ps A B none).run P w = .ok (w.heap.size + 1, [{ target := .collected w.heap.size, args := #[] }])
      (World.push (World.push w (.deferred (some []))) (.loop { state := .ready, pending := none, fn := fn, tmps := arr n ρ, params := ps, assign := A, body := B, defers := w.heap.size })) := by
    simp [Instr.enterLoop, Sem.run_bind, Result.andThen, World.push]
    rfl
  have hev' : (⟨arr n ρ, ds⟩ : Act).eval (.tmp t) = .func (.func f) first captured := by
    rw [eval_env, ev_tmp, of_arr, if_pos ht]; exact hev
  unfold icode
  simp only [he, constFit, hev']
  rw [if_pos hb]
  refine T.all_bind.2 (T.all_mono (fun r hr => ?_) h)
  obtain ⟨v, w3⟩ := r
  obtain ⟨x, hx, hbusy, hq⟩ := hr
  have hend : (Instr.endLoop (w.heap.size + 1)).run P w3 = .ok x.pending (World.set w3 (w.heap.size + 1) (.loop { x with state := .exhausted })) := by
    have hns : ¬ (x.state == LoopState.busy) = true := by
      intro hh; exact hbusy (by cases hs : x.state <;> simp_all)
    simp only [Instr.endLoop, Instr.getLoop, Sem.run_bind, getObj, Sem.run, hx, Result.andThen, Sem.run_pure, if_neg hns, setObj]
    rfl
  obtain ⟨st, pend, xf, xt, xp, xa, xb, xd⟩ := x
  simp only [hend]
  simp only at hq
  split at hq
  · exact ⟨size_arr n ρ, hq⟩
  · exact ⟨size_arr n ρ, hq⟩
  · exact ⟨size_arr n ρ, hq⟩
  · exact hq.elim

theorem fin_mark {r : Nat} {as : Array Value} {ds : List Deferred} {w : World} {Q : World → Prop} (h : w.heap[r]? = some (.deferred (some []))) (hq : wpFin P ds (World.set w r (.deferred none)) Q) : wpFin P ({ target := .collected r, args := as } :: ds) w Q := by
  unfold wpFin
  have : (Instr.takeDeferred r).run P w = .ok [] (World.set w r (.deferred none)) := by
    simp only [Instr.takeDeferred, Sem.run_bind, getObj, Sem.run, h, Result.andThen, setObj]
    rfl
  simp only [this]
  exact hq

theorem round_rule {l : Nat} {f : FuncId} {tmps : Array Value} {A B : Code} {ga gb : GC} {w : World} {Q : Value × World → Prop} (hA : grpC (lowC P n (pcOf A)) = ga) (hB : grpC (lowC P n (pcOf B)) = gb) (hn : tmps.size = n)
    (h : wpGC P K fuel f (some l) n ga (Env.of tmps) [] w fun e ρ ds w1 => e = .normal ∧ ∃ r, w1.heap[l]? = some (.loop r) ∧ r.state = .ready ∧
      wpGC P K fuel f (some l) n gb ρ ds (World.set w1 l (.loop { r with state := .busy })) fun e _ _ w3 => ∃ x, w3.heap[l]? = some (.loop x) ∧
        match e with
        | .normal => Q (.bool true, World.set w3 l (.loop { x with state := .ready, pending := none }))
        | .ret => Q (.bool false, World.set w3 l (.loop { x with state := .done, pending := some .ret }))
        | .exit id => Q (.bool false, World.set w3 l (.loop { x with state := .done, pending := some (.exit id) }))
        | _ => False) : (iround P K fuel l f tmps A B w).all Q := by
  subst hA; subst hB
  unfold iround
  have h1 := icode_pc (P := P) (K := K) (fuel := fuel) (fn := f) (Q := fun r : Exit × Act × World => r.2.1.tmps.size = n ∧ (r.1 = .normal ∧ ∃ x, r.2.2.heap[l]? = some (.loop x) ∧ x.state = .ready ∧ wpGC P K fuel f (some l) n (grpC (lowC P n (pcOf B))) (Env.of r.2.1.tmps) r.2.1.defers (World.set r.2.2 l (.loop { x with state := .busy })) fun e _ _ w3 => ∃ x, w3.heap[l]? = some (.loop x) ∧
        match e with
        | .normal => Q (.bool true, World.set w3 l (.loop { x with state := .ready, pending := none }))
        | .ret => Q (.bool false, World.set w3 l (.loop { x with state := .done, pending := some .ret }))
        | .exit id => Q (.bool false, World.set w3 l (.loop { x with state := .done, pending := some (.exit id) }))
        | _ => False)) A (wpC_ok (a := { tmps := tmps, defers := [] }) (pcOf A) hn (wpGC_ok _ h))
  refine T.all_bind.2 (T.all_mono (fun p hp => ?_) h1)
  obtain ⟨e, a, w1⟩ := p
  obtain ⟨hs, rfl, x, hx, hready, hbody⟩ := hp
  simp only at hs hx hbody
  have hbegin : (Instr.beginRound l).run P w1 = .ok () (World.set w1 l (.loop { x with state := .busy })) := by
    simp only [Instr.beginRound, Instr.getLoop, Sem.run_bind, getObj, Sem.run, hx, Result.andThen, Sem.run_pure, setObj, hready]
    rfl
  simp only [hbegin]
  have h2 := icode_pc (P := P) (K := K) (fuel := fuel) (fn := f) B (wpC_ok (a := a) (pcOf B) hs (wpGC_ok _ hbody))
  refine T.all_bind.2 (T.all_mono (fun p hp => ?_) h2)
  obtain ⟨e, a3, w3⟩ := p
  obtain ⟨_, y, hy, hq⟩ := hp
  simp only at hy hq
  have hend : ∀ j : Option Code, (Instr.endRound l j).run P w3 = .ok (.bool j.isNone) (World.set w3 l (.loop { y with state := if j.isNone then .ready else .done, pending := j })) := by
    intro j
    simp only [Instr.endRound, Instr.getLoop, Sem.run_bind, getObj, Sem.run, hy, Result.andThen, Sem.run_pure, setObj]
    rfl
  cases e with
  | normal => simp only [hend, ofRun]; exact hq
  | ret => simp only [hend, ofRun]; exact hq
  | exit id => simp only [hend, ofRun]; exact hq
  | _ => exact hq.elim

/-- Memory that is as it was, but for some blocks. -/
def Keeps (w w' : World) (F : Nat → Prop) : Prop := w.heap.size ≤ w'.heap.size ∧ ∀ j, j < w.heap.size → ¬ F j → w'.heap[j]? = w.heap[j]?

theorem Keeps.refl (w : World) (F : Nat → Prop) : Keeps w w F := ⟨Nat.le_refl _, fun _ _ _ => rfl⟩
theorem Keeps.trans {a b c : World} {F G H : Nat → Prop} (h : Keeps a b F) (k : Keeps b c G) (hF : ∀ j, j < a.heap.size → F j → H j) (hG : ∀ j, j < a.heap.size → G j → H j) : Keeps a c H :=
  ⟨Nat.le_trans h.1 k.1, fun j hj hn => by
    rw [k.2 j (Nat.lt_of_lt_of_le hj h.1) (fun hg => hn (hG j hj hg)), h.2 j hj (fun hf => hn (hF j hj hf))]⟩
theorem Keeps.mono {a b : World} {F H : Nat → Prop} (h : Keeps a b F) (hF : ∀ j, j < a.heap.size → F j → H j) : Keeps a b H := ⟨h.1, fun j hj hn => h.2 j hj fun hf => hn (hF j hj hf)⟩
theorem Keeps.push (w : World) (o : Obj) (F : Nat → Prop) : Keeps w (World.push w o) F := ⟨by simp, fun j hj _ => by rw [at_push, if_neg (Nat.ne_of_lt hj)]⟩
theorem Keeps.set (w : World) (b : Nat) (o : Obj) {F : Nat → Prop} (h : b < w.heap.size → F b) : Keeps w (World.set w b o) F := ⟨by simp, fun j hj hn => by
  rw [at_set, if_neg]; rintro ⟨rfl, hb⟩; exact hn (h hb)⟩
theorem Keeps.kill (w : World) (b : Nat) {F : Nat → Prop} (h : b < w.heap.size → F b) : Keeps w (Ideal.kill w b) F := Keeps.set w b dead h
theorem Keeps.at {w w' : World} {F : Nat → Prop} (h : Keeps w w' F) {b : Nat} {o : Obj} (ho : w.heap[b]? = some o) (hn : ¬ F b) : w'.heap[b]? = some o := by
  rw [h.2 b (Array.getElem?_eq_some_iff.1 ho).1 hn]; exact ho
theorem Keeps.cells {w w' : World} {F : Nat → Prop} (h : Keeps w w' F) {b : Nat} {x : Array Value × TypeId × (Nat × Nat)} (ho : cellsOf? w b = some x) (hn : ¬ F b) : cellsOf? w' b = some x := by
  have := h.2 b (cells_lt ho) hn
  unfold cellsOf? at ho ⊢
  rw [this]; exact ho
theorem Keeps.maps {w w' : World} {F : Nat → Prop} (h : Keeps w w' F) {b : Nat} {x : Array MapEntry × Nat} (ho : mapOf? w b = some x) (hn : ¬ F b) : mapOf? w' b = some x := by
  have := h.2 b (maps_lt ho) hn
  unfold mapOf? at ho ⊢
  rw [this]; exact ho
end
end Go.Ideal
