/-
  One operation, ideal and real: all kinds.
-/
import Derived.Test.YtplcocifndpplaaIq
namespace Go.Ideal
open Go
section
variable {P : Program} {B : Nat} {w0 : Base} {β : Beta}

theorem of_rsim {I : Beta → World → World → Prop} {s s' : Sem Value} (h : RSim I P β s s' VR) {σ w : World} (hI : I β σ w) {Q : Next × World → Prop}
    (hQ : (ofRun ((do pure (Next.value (← s)) : Sem Next).run P σ)).all Q) :
    ∃ v v', Q (.value v, σ) ∧ (do pure (Next.value (← s')) : Sem Next).run P w = .ok (.value v') w ∧ VR β v v' := by
  rw [Sem.run_bind] at hQ
  cases hs : s.run P σ with
  | halt x y => rw [hs] at hQ; exact hQ.elim
  | ok v σ1 =>
    rw [hs] at hQ
    obtain ⟨rfl, v', h1, h2⟩ := h β σ w (.refl _) hI v σ1 hs
    exact ⟨v, v', by simpa [Result.andThen, Sem.run_pure, ofRun, T.all] using hQ, by rw [Sem.run_bind, h1]; rfl, h2⟩

theorem of_rsimP {s s' : Sem Value} (h : RSim (fun _ _ _ => True) P β s s' VR) {σ w : World} {Q : Next × World → Prop}
    (hQ : (ofRun ((do pure (Next.value (← s)) : Sem Next).run P σ)).all Q) :
    ∃ v v', Q (.value v, σ) ∧ (do pure (Next.value (← s')) : Sem Next).run P w = .ok (.value v') w ∧ VR β v v' := of_rsim h (I := fun _ _ _ => True) trivial hQ

theorem of_sim {s s' : Sem Value} (h : Sim P B w0 β s s' VR) {σ w : World} (hI : R P B w0 β σ w) {Q : Next × World → Prop}
    (hQ : (ofRun ((do pure (Next.value (← s)) : Sem Next).run P σ)).all Q) :
    ∃ β2 nx σ' nx' w', β.le β2 ∧ (do pure (Next.value (← s')) : Sem Next).run P w = .ok nx' w' ∧ R P B w0 β2 σ' w' ∧ NR β2 nx nx' ∧ Q (nx, σ') := by
  rw [Sem.run_bind] at hQ
  cases hs : s.run P σ with
  | halt x y => rw [hs] at hQ; exact hQ.elim
  | ok v σ1 =>
    rw [hs] at hQ
    obtain ⟨β2, v', w', h0, h1, h2, h3⟩ := h β σ w (.refl _) hI v σ1 hs
    exact ⟨β2, .value v, σ1, .value v', w', h0, by rw [Sem.run_bind, h1]; rfl, h2, .value h3, by simpa [Result.andThen, Sem.run_pure, ofRun, T.all] using hQ⟩

theorem of_simU {s s' : Sem Unit} (h : Sim P B w0 β s s' (fun _ _ _ => True)) {σ w : World} (hI : R P B w0 β σ w) {Q : Next × World → Prop}
    (hQ : (ofRun ((do s; pure Next.skip : Sem Next).run P σ)).all Q) :
    ∃ β2 nx σ' nx' w', β.le β2 ∧ (do s'; pure Next.skip : Sem Next).run P w = .ok nx' w' ∧ R P B w0 β2 σ' w' ∧ NR β2 nx nx' ∧ Q (nx, σ') := by
  rw [Sem.run_bind] at hQ
  cases hs : s.run P σ with
  | halt x y => rw [hs] at hQ; exact hQ.elim
  | ok v σ1 =>
    rw [hs] at hQ
    obtain ⟨β2, v', w', h0, h1, h2, h3⟩ := h β σ w (.refl _) hI v σ1 hs
    exact ⟨β2, .skip, σ1, .skip, w', h0, by rw [Sem.run_bind, h1]; rfl, h2, .skip, by simpa [Result.andThen, Sem.run_pure, ofRun, T.all] using hQ⟩

theorem of_tsim {t : World → T (Value × World)} {s' : Sem Value} (h : TSim P B w0 β t s' VR) {σ w : World} (hI : R P B w0 β σ w) {Q : Next × World → Prop}
    (hQ : ((t σ).bind fun (x, w) => .ret (Next.value x, w)).all Q) :
    ∃ β2 nx σ' nx' w', β.le β2 ∧ (do pure (Next.value (← s')) : Sem Next).run P w = .ok nx' w' ∧ R P B w0 β2 σ' w' ∧ NR β2 nx nx' ∧ Q (nx, σ') := by
  obtain ⟨β2, v, σ', v', w', h0, h1, h2, h3, h4⟩ := h β σ w (.refl _) hI _ (T.all_bind.1 hQ)
  exact ⟨β2, .value v, σ', .value v', w', h0, by rw [Sem.run_bind, h1]; rfl, h2, .value h3, h4⟩

/-- What an operation names is the same on both sides. -/
def Rho (β : Beta) (o : Oper) (ρ ρ' : Operand → Value) : Prop := ∀ x ∈ o.op.operands.toList, constFit x = true → VR β (ρ x) (ρ' x)

theorem rho_map {ρ ρ' : Operand → Value} (l : Array Operand) (hl : ∀ x ∈ l.toList, VR β (ρ x) (ρ' x)) : AR β (l.map ρ) (l.map ρ') := by
  refine ⟨by simp, fun i v v' e e' => ?_⟩
  simp only [Array.getElem?_map, Option.map_eq_some_iff] at e e'
  obtain ⟨x, hx, rfl⟩ := e
  obtain ⟨y, hy, rfl⟩ := e'
  rw [hx] at hy
  simp only [Option.some.injEq] at hy
  subst hy
  exact hl x (by simpa using Array.mem_of_getElem? hx)

theorem rho_parts {ρ ρ' : Operand → Value} : ∀ (l : List (Nat × Operand)), (∀ p ∈ l, VR β (ρ p.2) (ρ' p.2)) → PartR β (l.map fun (i, x) => (i, ρ x)) (l.map fun (i, x) => (i, ρ' x))
  | [], _ => trivial
  | (i, x) :: l, hl => ⟨rfl, hl (i, x) (by simp), rho_parts l fun p hp => hl p (by simp [hp])⟩

theorem rho_opt {ρ ρ' : Operand → Value} (l : Option Operand) (hl : ∀ x ∈ l.toArray.toList, VR β (ρ x) (ρ' x)) : OVR β (l.map ρ) (l.map ρ') := by
  cases l with
  | none => trivial
  | some x => exact hl x (by simp)

theorem istep_consts {ρ : Operand → Value} {o : Oper} {σ : World} {Q : Next × World → Prop} (h : (istep P ρ o σ).all Q) : o.op.operands.all constFit = true := by
  cases hc : o.op.operands.all constFit with
  | true => rfl
  | false => simp only [istep, hc, Bool.false_eq_true, if_false] at h; exact h.elim

theorem never_nil {α : Type} : Never (runtimePanic .nilDeref : Sem α) P := never_runtimePanic _
theorem never_all {α : Type} {s : Sem α} (h : Never s P) {σ : World} {Q : α × World → Prop} (hQ : (ofRun (s.run P σ)).all Q) : False := by
  cases hs : s.run P σ with
  | halt x y => rw [hs] at hQ; exact hQ
  | ok v σ1 => exact h σ v σ1 hs

theorem keys_of_all {ρ : Operand → Value} {args : Array Operand} (hk : (args.toList.all fun x => keyFit (ρ x)) = true) : ∀ y ∈ (args.map ρ).toList, keyFit y = true := by
  rw [List.all_eq_true] at hk
  intro y hy
  rw [Array.toList_map, List.mem_map] at hy
  obtain ⟨x, hx, rfl⟩ := hy
  exact hk x hx

/-- What neither acts nor reads: one value, in whatever worlds. -/
theorem pure_istep {ρ ρ' : Operand → Value} {o : Oper} (hρ : Rho β o ρ ρ') (ha : acts o.op = false) (hr : reads o.op = false) (σ w : World) {Q : Next × World → Prop} (hQ : (istep P ρ o σ).all Q) :
    ∃ v v', Q (.value v, σ) ∧ (execOp ρ' o).run P w = .ok (.value v') w ∧ VR β v v' := by
  have hc := istep_consts hQ
  simp only [istep, hc, if_true] at hQ
  obtain ⟨dst, op, ty, pos, after, guard⟩ := o
  have hop : ∀ x ∈ op.operands.toList, constFit x = true := fun x hx => by
    have h0 := Array.all_eq_true.1 hc
    obtain ⟨i, hi, rfl⟩ := List.mem_iff_getElem.1 hx
    exact h0 i (by simpa using hi)
  have hv : ∀ x ∈ op.operands.toList, VR β (ρ x) (ρ' x) := fun x hx => hρ x hx (hop x hx)
  simp only at ha hr
  cases op with
  | move x => exact ⟨ρ x, ρ' x, by simpa [execOp, Sem.run_pure, ofRun, T.all] using hQ, by simp [execOp, Sem.run_pure], hv x (by simp [Op.operands])⟩
  | assign x => exact ⟨ρ x, ρ' x, by simpa [execOp, Sem.run_pure, ofRun, T.all] using hQ, by simp [execOp, Sem.run_pure], hv x (by simp [Op.operands])⟩
  | pick c x y =>
    have hcx := hv c (by simp [Op.operands])
    have hx := hv x (by simp [Op.operands])
    have hy := hv y (by simp [Op.operands])
    have : RSim (fun _ _ _ => True) P β (do pure (if ← asBool (ρ c) then ρ x else ρ y)) (do pure (if ← asBool (ρ' c) then ρ' x else ρ' y)) VR :=
      RSim.bind (rsim_asBool hcx) fun β1 a b hle e => by
        subst e
        refine RSim.pure fun β2 hle2 => ?_
        cases a with
        | true => exact (hx.mono hle).mono hle2
        | false => exact (hy.mono hle).mono hle2
    have := of_rsimP this (Q := Q) (σ := σ) (w := w) (by simpa [execOp, Sem.run_bind, Result.andThen, Sem.run_pure] using hQ)
    simpa [execOp, Sem.run_bind, Result.andThen, Sem.run_pure] using this
  | nilCheck x =>
    have hx := hv x (by simp [Op.operands])
    simp only [execOp] at hQ ⊢
    generalize ρ x = a at *
    generalize ρ' x = a' at *
    cases hx with
    | nilPtr => exact (never_all never_nil hQ).elim
    | nilFunc => exact (never_all never_nil hQ).elim
    | nilIface => exact (never_all never_nil hQ).elim
    | func hf hs hc2 =>
      cases hf with
      | func f => exact ⟨_, _, by simpa [Sem.run_pure, ofRun, T.all] using hQ, by simp [Sem.run_pure], .func (.func f) hs hc2⟩
      | yield e => exact ⟨_, _, by simpa [Sem.run_pure, ofRun, T.all] using hQ, by simp [Sem.run_pure], .func (.yield e) hs hc2⟩
    | tok e hv =>
      refine ⟨_, a', by simpa [Sem.run_pure, ofRun, T.all] using hQ, ?_, .tok e hv⟩
      obtain ⟨n, hn⟩ := tokVal_cases _
      rw [hv, hn]; simp [Sem.run_pure]
    | ptr h => exact ⟨_, _, by simpa [Sem.run_pure, ofRun, T.all] using hQ, by simp [Sem.run_pure], .ptr h⟩
    | bool b => exact ⟨_, _, by simpa [Sem.run_pure, ofRun, T.all] using hQ, by simp [Sem.run_pure], .bool b⟩
    | int k n => exact ⟨_, _, by simpa [Sem.run_pure, ofRun, T.all] using hQ, by simp [Sem.run_pure], .int k n⟩
    | float k n => exact ⟨_, _, by simpa [Sem.run_pure, ofRun, T.all] using hQ, by simp [Sem.run_pure], .float k n⟩
    | complex k n m => exact ⟨_, _, by simpa [Sem.run_pure, ofRun, T.all] using hQ, by simp [Sem.run_pure], .complex k n m⟩
    | string b => exact ⟨_, _, by simpa [Sem.run_pure, ofRun, T.all] using hQ, by simp [Sem.run_pure], .string b⟩
    | nilSlice => exact ⟨_, _, by simpa [Sem.run_pure, ofRun, T.all] using hQ, by simp [Sem.run_pure], .nilSlice⟩
    | slice h g => exact ⟨_, _, by simpa [Sem.run_pure, ofRun, T.all] using hQ, by simp [Sem.run_pure], .slice h g⟩
    | nilMap => exact ⟨_, _, by simpa [Sem.run_pure, ofRun, T.all] using hQ, by simp [Sem.run_pure], .nilMap⟩
    | map h => exact ⟨_, _, by simpa [Sem.run_pure, ofRun, T.all] using hQ, by simp [Sem.run_pure], .map h⟩
    | iface t h => exact ⟨_, _, by simpa [Sem.run_pure, ofRun, T.all] using hQ, by simp [Sem.run_pure], .iface t h⟩
    | agg h g => exact ⟨_, _, by simpa [Sem.run_pure, ofRun, T.all] using hQ, by simp [Sem.run_pure], .agg h g⟩
    | tuple h g => exact ⟨_, _, by simpa [Sem.run_pure, ofRun, T.all] using hQ, by simp [Sem.run_pure], .tuple h g⟩
  | build t parts =>
    simp only at hQ
    split at hQ
    · exact of_rsimP (rsim_build ‹_› (by
        have := rho_parts parts.toList (fun p hp => hv p.2 (by simp [Op.operands]; exact ⟨p.1, by simpa using hp⟩))
        simpa using this)) hQ
    · exact hQ.elim
  | binOp op t x y yt =>
    simp only at hQ
    split at hQ
    · exact of_rsimP (rsim_binOp x y (hv x (by simp [Op.operands])) (hv y (by simp [Op.operands])) ‹_›) hQ
    · exact hQ.elim
  | unOp op t x =>
    simp only at hQ
    split at hQ
    · exact of_rsimP (rsim_unary (hv x (by simp [Op.operands])) ‹_›) hQ
    · exact hQ.elim
  | convert s d x =>
    have hx := hv x (by simp [Op.operands])
    cases hval : ρ x with
    | int k n =>
      have hk' : ρ' x = .int k n := by
        rw [hval] at hx
        generalize ρ' x = y at hx ⊢
        cases hx
        rfl
      simp only [hval, Bool.and_true] at hQ
      split at hQ
      · rename_i h
        have := of_rsimP (β := β) (rsim_convert (s := s) (k := k) (n := n) h) (Q := Q) (σ := σ) (w := w) (by simpa [execOp, hval] using hQ)
        simpa [execOp, hk'] using this
      · exact hQ.elim
    | _ =>
      exfalso
      simp only [hval, Bool.and_false, Bool.false_eq_true, if_false] at hQ
      exact hQ
  | makeInterface t x => exact of_rsimP (rsim_makeInterface t (hv x (by simp [Op.operands]))) hQ
  | makeFunc fn first captured =>
    cases fn with
    | func g =>
      simp only at hQ
      split at hQ
      · rename_i he
        have he : first = #[] := by simpa using he
        subst he
        have hc2 := rho_map captured (fun x hx => hv x (by simp only [Op.operands]; simpa using hx))
        exact ⟨_, _, by simpa [execOp, Instr.makeFunc, Sem.run_bind, Result.andThen, Sem.run_pure, ofRun, T.all] using hQ, by simp [execOp, Instr.makeFunc, Sem.run_bind, Result.andThen, Sem.run_pure], .func (.func g) hc2.1 hc2.2⟩
      · exact hQ.elim
    | _ => exact hQ.elim
  | fieldAddr s x f =>
    simp only at hQ
    split at hQ
    · exact of_rsimP (rsim_fieldAt s f ‹_› (hv x (by simp [Op.operands]))) hQ
    · exact hQ.elim
  | field t x f => exact of_rsimP (rsim_field t f (hv x (by simp [Op.operands]))) hQ
  | indexAddr t x i => exact of_rsimP (rsim_indexAt (hv x (by simp [Op.operands])) (hv i (by simp [Op.operands]))) hQ
  | index t x i => exact of_rsimP (rsim_index (hv x (by simp [Op.operands])) (hv i (by simp [Op.operands]))) hQ
  | extract x i => exact of_rsimP (rsim_extract i (hv x (by simp [Op.operands]))) hQ
  | call c =>
    obtain ⟨callee, args, argTypes⟩ := c
    cases callee with
    | value f => cases ha
    | invoke x n => cases ha
    | builtin b =>
      cases b with
      | max =>
        simp only at hQ
        split at hQ
        · rename_i hk
          have h1 := rho_map args (fun x hx => hv x (by simp only [Op.operands, Call.operands]; simpa using hx))
          have := of_rsimP (rsim_max (at_ := argTypes) (ty := ty) h1 (keys_of_all hk)) (Q := Q) (σ := σ) (w := w) (by simpa [execOp, resolve, invoke, builtin, Sem.run_bind, Result.andThen, Sem.run_pure] using hQ)
          simpa [execOp, resolve, invoke, builtin, Sem.run_bind, Result.andThen, Sem.run_pure] using this
        · exact hQ.elim
      | min =>
        simp only at hQ
        split at hQ
        · rename_i hk
          have h1 := rho_map args (fun x hx => hv x (by simp only [Op.operands, Call.operands]; simpa using hx))
          have := of_rsimP (rsim_min (at_ := argTypes) (ty := ty) h1 (keys_of_all hk)) (Q := Q) (σ := σ) (w := w) (by simpa [execOp, resolve, invoke, builtin, Sem.run_bind, Result.andThen, Sem.run_pure] using hQ)
          simpa [execOp, resolve, invoke, builtin, Sem.run_bind, Result.andThen, Sem.run_pure] using this
        · exact hQ.elim
      | len => cases hr
      | _ => first | (cases ha; done) | exact hQ.elim
  | _ => first | (cases ha; done) | (cases hr; done) | exact hQ.elim

theorem rd_islice {t : TypeId} {x x' : Value} (hx : VR β x x') {lo lo' hi hi' mx mx' : Option Value} (hlo : OVR β lo lo') (hhi : OVR β hi hi') (hmx : OVR β mx mx')
    {σ w : World} (hR : R P B w0 β σ w) {Q : Value × World → Prop} (hQ : (islice P t x lo hi mx σ).all Q) : ∃ v v', (Instr.sliceAt t x' lo' hi' mx').run P w = .ok v' w ∧ VR β v v' ∧ Q (v, σ) := by
  have key : ∀ {s s' : Sem Value}, RSim (R P B w0) P β s s' VR → (ofRun (s.run P σ)).all Q → ∃ v v', s'.run P w = .ok v' w ∧ VR β v v' ∧ Q (v, σ) := by
    intro s s' h hq
    cases hs : s.run P σ with
    | halt x y => rw [hs] at hq; exact hq.elim
    | ok v σ1 =>
      rw [hs] at hq
      obtain ⟨rfl, v', h1, h2⟩ := h β σ w (.refl _) hR v σ1 hs
      exact ⟨v, v', h1, h2, hq⟩
  unfold islice at hQ
  cases hu : P.underlying t with
  | none => rw [hu] at hQ; exact hQ.elim
  | some d =>
    rw [hu] at hQ
    cases d with
    | slice elem =>
      cases x with
      | slice a len cap =>
        cases a with
        | none => exact key (rsim_sliceAt hx (.inl ⟨none, len, cap, rfl, by cases hx; exact Nat.zero_lt_of_lt (show 0 < OPEN by unfold OPEN; omega)⟩) (.inl ⟨elem, hu⟩) hlo hhi hmx) hQ
        | some a =>
          dsimp only at hQ
          by_cases hc : cap < OPEN
          · simp only [hc, if_true] at hQ
            exact key (rsim_sliceAt hx (.inl ⟨_, len, cap, rfl, hc⟩) (.inl ⟨elem, hu⟩) hlo hhi hmx) hQ
          · simp only [hc, if_false] at hQ
            by_cases he : cap = OPEN
            · subst he
              simp only [if_true] at hQ
              exact rd_isliceOpen hu hx hlo hhi hmx hR hQ
            · simp only [he, if_false] at hQ
              exact hQ.elim
      | _ => exact hQ.elim
    | string =>
      cases x with
      | string s => exact key (rsim_sliceAt hx (.inr ⟨s, rfl⟩) (.inr hu) hlo hhi hmx) hQ
      | _ => exact hQ.elim
    | _ => exact hQ.elim

/-- What reads: one value; the worlds stay. -/
theorem read_istep {ρ ρ' : Operand → Value} {o : Oper} (hρ : Rho β o ρ ρ') (hr : reads o.op = true) {σ w : World} (hR : R P B w0 β σ w) {Q : Next × World → Prop} (hQ : (istep P ρ o σ).all Q) :
    ∃ v v', Q (.value v, σ) ∧ (execOp ρ' o).run P w = .ok (.value v') w ∧ VR β v v' := by
  have hc := istep_consts hQ
  simp only [istep, hc, if_true] at hQ
  obtain ⟨dst, op, ty, pos, after, guard⟩ := o
  have hop : ∀ x ∈ op.operands.toList, constFit x = true := fun x hx => by
    have h0 := Array.all_eq_true.1 hc
    obtain ⟨i, hi, rfl⟩ := List.mem_iff_getElem.1 hx
    exact h0 i (by simpa using hi)
  have hv : ∀ x ∈ op.operands.toList, VR β (ρ x) (ρ' x) := fun x hx => hρ x hx (hop x hx)
  simp only at hr
  cases op with
  | load t x => exact of_rsim (rsim_loadAt t (hv x (by simp [Op.operands]))) hR hQ
  | lookup t x k ok =>
    simp only at hQ
    split at hQ
    · rename_i h
      simp only [Bool.and_eq_true] at h
      exact of_rsim (rsim_lookup h.1.2 h.2 (hv x (by simp [Op.operands])) (hv k (by simp [Op.operands])) h.1.1 ok) hR hQ
    · exact hQ.elim
  | entry x => exact of_rsim (rsim_entry (hv x (by simp [Op.operands]))) hR hQ
  | slice t x lo hi mx =>
    simp only at hQ
    obtain ⟨v, v', h1, h2, h3⟩ := rd_islice (hv x (by simp [Op.operands])) (rho_opt lo (fun y hy => hv y (by simp [Op.operands]; simp at hy; simp [hy])))
      (rho_opt hi (fun y hy => hv y (by simp [Op.operands]; simp at hy; simp [hy]))) (rho_opt mx (fun y hy => hv y (by simp [Op.operands]; simp at hy; simp [hy]))) hR (T.all_bind.1 hQ)
    exact ⟨v, v', h3, by simp only [execOp]; rw [Sem.run_bind, h1]; rfl, h2⟩
  | call c =>
    obtain ⟨callee, args, argTypes⟩ := c
    cases callee with
    | value f => cases hr
    | invoke x n => cases hr
    | builtin b =>
      cases b with
      | len =>
        have h1 := rho_map args (fun x hx => hv x (by simp only [Op.operands, Call.operands]; simpa using hx))
        have := of_rsim (rsim_len (at_ := argTypes) (ty := ty) h1) hR (Q := Q) (by simpa [execOp, resolve, invoke, builtin, Sem.run_bind, Result.andThen, Sem.run_pure] using hQ)
        simpa [execOp, resolve, invoke, builtin, Sem.run_bind, Result.andThen, Sem.run_pure] using this
      | _ => cases hr
  | _ => cases hr

theorem still_istep {ρ ρ' : Operand → Value} {o : Oper} (hρ : Rho β o ρ ρ') (ha : acts o.op = false) {σ w : World} (hR : R P B w0 β σ w) {Q : Next × World → Prop} (hQ : (istep P ρ o σ).all Q) :
    ∃ v v', Q (.value v, σ) ∧ (execOp ρ' o).run P w = .ok (.value v') w ∧ VR β v v' := by
  cases hr : reads o.op with
  | true => exact read_istep hρ hr hR hQ
  | false => exact pure_istep hρ ha hr σ w hQ

/-! ### Loops over functions -/
theorem sim_getLoop {l : Nat} {bi : BI} (hl : β l = some bi) : Sim P B w0 β (Instr.getLoop l) (Instr.getLoop bi.r) (fun β r r' => OR β bi (.loop r) (.loop r')) := by
  unfold Instr.getLoop
  refine Sim.bind (sim_getObj hl) fun β1 o o' hle ho => ?_
  obtain ⟨ho, _⟩ := ho
  cases o with
  | loop r =>
    cases o' with
    | loop r' => exact Sim.pure fun β2 hle2 => ho.mono hle2
    | _ => cases ho
  | _ => exact Sim.stuck

theorem setParams {β : Beta} : ∀ (l : List (Tmp × Value)) (m : List (Tmp × Value)) (t t' : Array Value), AR β t t' → l.map (·.1) = m.map (·.1) → LR β (l.map (·.2)) (m.map (·.2)) →
    AR β (l.foldl (fun tmps (t, a) => tmps.setIfInBounds t a) t) (m.foldl (fun tmps (t, a) => tmps.setIfInBounds t a) t')
  | [], [], _, _, h, _, _ => h
  | (a, x) :: l, (b, y) :: m, t, t', h, e, hl => by
    simp only [List.map_cons, List.cons.injEq] at e
    obtain ⟨rfl, e⟩ := e
    exact setParams l m _ _ (h.set a hl.1) e hl.2
  | [], _ :: _, _, _, _, e, _ => by cases e
  | _ :: _, [], _, _, _, e, _ => by cases e

theorem sim_yield {l : Nat} {bi : BI} (hl : β l = some bi) {args args' : Array Value} (ha : AR β args args') : Sim P B w0 β (Instr.yield l args) (Instr.yield bi.r args') NR := by
  unfold Instr.yield
  refine Sim.bind (sim_getLoop hl) fun β1 r r' hle ho => ?_
  cases ho with
  | @loop st pe fn fn' tmps tmps' ps assign body df bd hd ht =>
    simp only [← ha.1]
    split
    · exact Sim.stuck
    · rename_i hsz
      simp only [ne_eq, Decidable.not_not] at hsz
      refine Sim.pure fun β2 hle2 => .round (hle2 _ _ (hle _ _ hl)) fn fn' ?_ assign body
      rw [← Array.foldl_toList, ← Array.foldl_toList]
      have hsz' := ha.1 ▸ hsz
      refine setParams _ _ _ _ (ht.mono hle2) ?_ ?_
      · simp only [Array.toList_zip]
        rw [List.map_fst_zip (by simp [hsz]), List.map_fst_zip (by simp [hsz'])]
      · simp only [Array.toList_zip]
        rw [List.map_snd_zip (by simp [hsz]), List.map_snd_zip (by simp [hsz'])]
        exact LR.mono (hle.trans hle2) ha.lr

theorem of_simN {s s' : Sem Next} (h : Sim P B w0 β s s' NR) {σ w : World} (hI : R P B w0 β σ w) {Q : Next × World → Prop} (hQ : ((ofRun (s.run P σ)).bind enters).all Q) :
    ∃ β2 nx σ' nx' w', β.le β2 ∧ s'.run P w = .ok nx' w' ∧ R P B w0 β2 σ' w' ∧ NR β2 nx nx' ∧ Q (nx, σ') := by
  cases hs : s.run P σ with
  | halt x y => rw [hs] at hQ; exact hQ.elim
  | ok v σ1 =>
    rw [hs] at hQ
    obtain ⟨β2, v', w', h0, h1, h2, h3⟩ := h β σ w (.refl _) hI v σ1 hs
    refine ⟨β2, v, σ1, v', w', h0, h1, h2, h3, ?_⟩
    cases h3 with
    | value _ => exact hQ.elim
    | skip => exact hQ.elim
    | enter f _ => exact hQ
    | round _ _ _ _ _ _ => exact hQ

/-- What acts. -/
theorem act_istep {ρ ρ' : Operand → Value} {o : Oper} (hρ : Rho β o ρ ρ') (ha : acts o.op = true) {σ w : World} (hR : R P B w0 β σ w) {Q : Next × World → Prop} (hQ : (istep P ρ o σ).all Q) :
    ∃ β2 nx σ' nx' w', β.le β2 ∧ (execOp ρ' o).run P w = .ok nx' w' ∧ R P B w0 β2 σ' w' ∧ NR β2 nx nx' ∧ Q (nx, σ') := by
  have hc := istep_consts hQ
  simp only [istep, hc, if_true] at hQ
  obtain ⟨dst, op, ty, pos, after, guard⟩ := o
  have hop : ∀ x ∈ op.operands.toList, constFit x = true := fun x hx => by
    have h0 := Array.all_eq_true.1 hc
    obtain ⟨i, hi, rfl⟩ := List.mem_iff_getElem.1 hx
    exact h0 i (by simpa using hi)
  have hv : ∀ x ∈ op.operands.toList, VR β (ρ x) (ρ' x) := fun x hx => hρ x hx (hop x hx)
  simp only at ha
  cases op with
  | alloc t =>
    simp only at hQ
    split at hQ
    · exact of_sim (sim_alloc ‹_›) hR hQ
    · exact hQ.elim
  | box t x => exact of_sim (sim_box t (hv x (by simp [Op.operands]))) hR hQ
  | buildSlice t n parts =>
    simp only at hQ
    split at hQ
    · rename_i h
      simp only [Bool.and_eq_true, decide_eq_true_eq] at h
      exact of_sim (sim_buildSlice h.1 (Nat.lt_trans h.2 (by unfold OPEN; omega)) (by
        have := rho_parts parts.toList (fun p hp => hv p.2 (by simp [Op.operands]; exact ⟨p.1, by simpa using hp⟩))
        simpa using this)) hR hQ
    · exact hQ.elim
  | store t x y => exact of_simU (sim_storeAt t (hv x (by simp [Op.operands])) (hv y (by simp [Op.operands]))) hR hQ
  | makeMap t r =>
    cases r with
    | none => exact of_sim (sim_makeMap t) hR hQ
    | some r => exact hQ.elim
  | makeSlice t l c =>
    simp only at hQ
    split at hQ
    · rename_i h
      simp only [Bool.and_eq_true] at h
      exact of_sim (sim_makeSlice h.1 (hv l (by simp [Op.operands])) (hv c (by simp [Op.operands])) h.2) hR hQ
    · exact hQ.elim
  | mapUpdate t m k x =>
    simp only at hQ
    split at hQ
    · rename_i h
      simp only [Bool.and_eq_true] at h
      exact of_simU (sim_mapUpdate h.2 (hv m (by simp [Op.operands])) (hv k (by simp [Op.operands])) h.1 (hv x (by simp [Op.operands]))) hR hQ
    · exact hQ.elim
  | range t x => exact of_sim (sim_range (hv x (by simp [Op.operands]))) hR hQ
  | next it isS => exact of_tsim (tsim_next (hv it (by simp [Op.operands])) isS ty) hR hQ
  | call c =>
    obtain ⟨callee, args, argTypes⟩ := c
    have h1 := rho_map args (fun x hx => hv x (by simp only [Op.operands, Call.operands]; first | (simpa using hx) | (simp at hx; simp [hx])))
    cases callee with
    | value f =>
      have hf := hv f (by simp [Op.operands, Call.operands])
      simp only [execOp, resolve] at hQ ⊢
      generalize ρ f = a at *
      generalize ρ' f = a' at *
      cases hf with
      | func hfn hs hcap =>
        cases hfn with
        | func g =>
          simp only at hQ
          split at hQ
          · rename_i hg
            have hcs : AR β _ _ := ⟨hs, hcap⟩
            simp only [Option.any_eq_true] at hg
            obtain ⟨fn, hfn, hbody⟩ := hg
            simp only [Deferred.ofValue, Sem.run_bind, Sem.run_pure, Result.andThen, invoke, callFunc, program, Sem.run, hfn] at hQ ⊢
            have hb2 : fn.body.isNone = false := by cases hfb : fn.body <;> simp_all
            simp only [hb2, Bool.false_eq_true, if_false] at hQ ⊢
            split at hQ
            · exact hQ.elim
            · rename_i hname
              simp only [hname, if_false]
              refine ⟨β, _, σ, _, w, .refl _, rfl, hR, .enter g ((AR.append (AR.empty β) h1).append hcs), hQ⟩
          · exact hQ.elim
        | yield hl =>
          simp only [Deferred.ofValue, Sem.run_bind, Sem.run_pure, Result.andThen, invoke] at hQ ⊢
          exact of_simN (sim_yield hl (AR.append (AR.empty β) h1)) hR hQ
      | _ => exact hQ.elim
    | invoke x n => exact hQ.elim
    | builtin b =>
      cases b with
      | append =>
        have := of_tsim (tsim_iappend (at_ := argTypes) (ty := ty) h1) hR hQ
        simpa [execOp, resolve, invoke, builtin, Sem.run_bind, Result.andThen, Sem.run_pure] using this
      | delete =>
        simp only at hQ
        split at hQ
        · rename_i k t hk ht
          split at hQ
          · rename_i h
            simp only [Bool.and_eq_true] at h
            have := of_sim (sim_delete (at_ := argTypes) (ty := ty) ht h.2 (args := args.map ρ) (k := k) (by simpa using hk) h.1 h1) hR (Q := Q) (by simpa [execOp, resolve, invoke, builtin, Sem.run_bind, Result.andThen, Sem.run_pure] using hQ)
            simpa [execOp, resolve, invoke, builtin, Sem.run_bind, Result.andThen, Sem.run_pure] using this
          · exact hQ.elim
        · exact hQ.elim
      | _ => first | (cases ha; done) | exact hQ.elim
  | _ => first | (cases ha; done) | exact hQ.elim
end
end Go.Ideal
