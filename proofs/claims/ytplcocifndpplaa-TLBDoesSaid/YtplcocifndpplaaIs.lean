/-
  Operations in regions, in the kit's own logic of the machine's steps.
-/
import Derived.Test.YtplcocifndpplaaIr
namespace Go.Ideal
open Go

def FF (ro : Option Nat) : Fence := { fn := fun _ => True, depth := none, alive := false, round := ro }
theorem FF_none : FF none = Fence.wide := rfl

/-- What a real run may end in. -/
def Rets (P : Program) (B : Nat) (w0 : Base) (β : Beta) (Q : Value × World → Prop) : Ending → World → Prop
  | .returned v', w' => ∃ β2 v σ', β.le β2 ∧ R P B w0 β2 σ' w' ∧ VR β2 v v' ∧ Q (v, σ')
  | _, _ => False

/-- What is called does what the ideal run says. -/
structure KS (P : Program) (B : Nat) (w0 : Base) (K : Kont) : Prop where
  enter : ∀ {β : Beta} {σ w : World} {f : FuncId} {args args' : Array Value} {Q : Value × World → Prop}, R P B w0 β σ w → AR β args args' → (K.enter f args σ).all Q →
    ∀ n, CallsIn Fence.wide n P f args' w (Rets P B w0 β Q)
  round : ∀ {β : Beta} {σ w : World} {l : Nat} {bi : BI} {f f' : FuncId} {tmps tmps' : Array Value} {assign body : Code} {Q : Value × World → Prop}, R P B w0 β σ w → β l = some bi → AR β tmps tmps' →
    (K.round l f tmps assign body σ).all Q → ∀ n, RoundIn Fence.wide n P bi.r f' tmps' assign body w (Rets P B w0 β Q)

def DR (β : Beta) : List Deferred → List Deferred → Prop
  | [], [] => True
  | d :: ds, e :: es => (∃ l bi, d.target = .collected l ∧ e.target = .collected bi.r ∧ β l = some bi) ∧ DR β ds es
  | _, _ => False

theorem DR.mono {β β' : Beta} (h : β.le β') : ∀ {l m : List Deferred}, DR β l m → DR β' l m
  | [], [], _ => trivial
  | _ :: _, _ :: _, ⟨⟨l, bi, h1, h2, h3⟩, hr⟩ => ⟨⟨l, bi, h1, h2, h _ _ h3⟩, DR.mono h hr⟩
  | [], _ :: _, h => h.elim
  | _ :: _, [], h => h.elim

/-- Activations. -/
structure ActR (β : Beta) (a a' : Act) : Prop where
  tmps : AR β a.tmps a'.tmps
  defers : DR β a.defers a'.defers

theorem ActR.mono {β β' : Beta} (h : β.le β') {a a' : Act} (ha : ActR β a a') : ActR β' a a' := ⟨ha.tmps.mono h, ha.defers.mono h⟩

theorem ActR.put {β : Beta} {a a' : Act} (h : ActR β a a') (d : Option Tmp) {v v' : Value} (hv : VR β v v') : ActR β (a.put d v) (a'.put d v') := by
  cases d with
  | none => exact h
  | some d => exact ⟨h.tmps.set d hv, h.defers⟩

/-- The slots of a list are the same on both sides. -/
def Slots (β : Beta) (l : List Tmp) (a a' : Act) : Prop :=
  a.tmps.size = a'.tmps.size ∧ ∀ t ∈ l, ∀ v v', a.tmps[t]? = some v → a'.tmps[t]? = some v' → VR β v v'

theorem Slots.mono {β β' : Beta} (h : β.le β') {l : List Tmp} {a a' : Act} (ha : Slots β l a a') : Slots β' l a a' := ⟨ha.1, fun t ht v v' e e' => (ha.2 t ht v v' e e').mono h⟩

theorem ActR.slots {β : Beta} {a a' : Act} (h : ActR β a a') (l : List Tmp) : Slots β l a a' := ⟨h.tmps.1, fun t _ v v' e e' => h.tmps.2 t v v' e e'⟩

theorem Slots.getD {β : Beta} {l : List Tmp} {a a' : Act} (h : Slots β l a a') {t : Tmp} (ht : t ∈ l) : VR β (a.tmps.getD t undef) (a'.tmps.getD t undef) := by
  rw [Array.getD_eq_getD_getElem?, Array.getD_eq_getD_getElem?]
  cases h1 : a.tmps[t]? with
  | none =>
    have : a'.tmps[t]? = none := by rw [Array.getElem?_eq_none_iff] at *; rw [← h.1]; exact h1
    rw [this]; exact undefVR β
  | some v =>
    have hi : t < a'.tmps.size := h.1 ▸ (Array.getElem?_eq_some_iff.1 h1).1
    have h2 : a'.tmps[t]? = some a'.tmps[t] := by simp [hi]
    rw [h2]
    exact h.2 t ht _ _ h1 h2

section
variable {P : Program} {B : Nat} {w0 : Base} {β : Beta} {ops : Array Oper}

theorem eval_vr {a a' : Act} {x : Operand} (hc : constFit x = true) (h : ∀ t, x = .tmp t → VR β (a.tmps.getD t undef) (a'.tmps.getD t undef)) : VR β (a.eval x) (a'.eval x) := by
  cases x with
  | tmp t => exact h t rfl
  | const v => exact selfVR β 4 v hc
  | global g => cases hc
  | func f => exact .func (.func f) rfl (fun i v v' e => by simp at e)

theorem Slots.rho {o : Oper} {a a' : Act} (h : Slots β (o.looksAt ops) a a') : Rho β o a.eval a'.eval := fun x hx hc =>
  eval_vr hc fun t e => h.getD (by subst e; exact List.mem_append_left _ (List.mem_filterMap.2 ⟨.tmp t, hx, rfl⟩))

theorem yielded_eq {a a' : Act} {j : Nat} {l : List Tmp} (h : Slots β l a a') (hl : ∀ d, (ops[j]?).bind (·.dst) = some d → d ∈ l) : yielded ops a'.tmps j = yielded ops a.tmps j := by
  unfold yielded
  cases hd : (ops[j]?).bind (·.dst) with
  | none => rfl
  | some d =>
    simp only [Option.bind_some]
    cases h1 : a.tmps[d]? with
    | none =>
      have : a'.tmps[d]? = none := by rw [Array.getElem?_eq_none_iff] at *; rw [← h.1]; exact h1
      rw [this]
    | some v =>
      have hi : d < a'.tmps.size := h.1 ▸ (Array.getElem?_eq_some_iff.1 h1).1
      have h2 : a'.tmps[d]? = some a'.tmps[d] := by simp [hi]
      rw [h2]
      have hv := h.2 d (hl d hd) _ _ h1 h2
      generalize a'.tmps[d] = v' at hv ⊢
      cases hv with
      | tok e hv => subst hv; rfl
      | _ => rfl

theorem Slots.wanted {o : Oper} {a a' : Act} (h : Slots β (o.looksAt ops) a a') : Region.wanted o (yielded ops a'.tmps) = Region.wanted o (yielded ops a.tmps) := by
  unfold Region.wanted
  cases hg : o.guard with
  | none => rfl
  | some gw =>
    obtain ⟨g, want⟩ := gw
    simp only
    rw [yielded_eq h (fun d hd => by simp [Oper.looksAt, hg, hd])]

theorem istep_noDefer {ρ : Operand → Value} {o : Oper} {σ : World} {Q : Next × World → Prop} (h : (istep P ρ o σ).all Q) : ∀ c, o.op ≠ .defer c := fun c e => by
  have hc := istep_consts h
  simp only [istep, hc, if_true] at h
  obtain ⟨dst, op, ty, pos, after, guard⟩ := o
  simp only at e
  subst e
  exact h

/-- One operation that acts. -/
theorem acts_in {K : Kont} (hK : KS P B w0 K) {ro : Option Nat} {n : Nat} {o : Oper} {aI aR : Act} {σ w : World} (hR : R P B w0 β σ w) (hρ : Rho β o aI.eval aR.eval) (ha : acts o.op = true)
    {Q : Value × World → Prop} (hQ : (iop P K aI o σ).all Q) {next : Act → World → Prop} {Qx : Exit → Act → World → Prop}
    (hn : ∀ β2 v v' σ' w', β.le β2 → R P B w0 β2 σ' w' → VR β2 v v' → Q (v, σ') → next (aR.put o.dst v') w') : o.wpIn (FF ro) n P aR w next Qx := by
  have hQ' := T.all_bind.1 hQ
  refine ⟨fun _ _ => trivial, ?_⟩
  rw [Oper.semAt_eq _ _ _ (istep_noDefer hQ')]
  obtain ⟨β2, nx, σ', nx', w', hle, hrun, hR', hN, hq⟩ := act_istep hρ ha hR hQ'
  rw [hrun]
  cases hN with
  | value hv => exact hn _ _ _ _ _ hle hR' hv hq
  | skip => exact hn _ _ _ _ _ hle hR' (undefVR _) hq
  | enter f hargs =>
    refine ⟨(fun h => by cases h), CallsIn.mono (hK.enter hR' hargs hq (n - 1)) fun e w'' he => ?_⟩
    cases e with
    | returned v' =>
      obtain ⟨β3, v, σ'', h1, h2, h3, h4⟩ := he
      exact hn _ _ _ _ _ (hle.trans h1) h2 h3 h4
    | panicked c => exact he.elim
    | outgrown => exact he.elim
  | @round l bi hl f f' tmps tmps' ht assign body =>
    refine ⟨(fun h => by cases h), RoundIn.mono (hK.round hR' hl ht hq (n - 1)) fun e w'' he => ?_⟩
    cases e with
    | returned v' =>
      obtain ⟨β3, v, σ'', h1, h2, h3, h4⟩ := he
      exact hn _ _ _ _ _ (hle.trans h1) h2 h3 h4
    | panicked c => exact he.elim
    | outgrown => exact he.elim

/-- One that does not: it hands back its value. -/
theorem still_in {ro : Option Nat} {n : Nat} {o : Oper} {aR : Act} {w : World} {v' : Value} (hd : ∀ c, o.op ≠ .defer c) (hrun : (execOp aR.eval o).run P w = .ok (.value v') w)
    {next : Act → World → Prop} {Qx : Exit → Act → World → Prop} (hn : next (aR.put o.dst v') w) : o.wpIn (FF ro) n P aR w next Qx := by
  refine ⟨fun _ _ => trivial, ?_⟩
  rw [Oper.semAt_eq _ _ _ hd, hrun]
  exact hn

theorem iop_in {K : Kont} (hK : KS P B w0 K) {ro : Option Nat} {n : Nat} {o : Oper} {aI aR : Act} {σ w : World} (hR : R P B w0 β σ w) (hρ : Rho β o aI.eval aR.eval)
    {Q : Value × World → Prop} (hQ : (iop P K aI o σ).all Q) {next : Act → World → Prop} {Qx : Exit → Act → World → Prop}
    (hn : ∀ β2 v v' σ' w', β.le β2 → R P B w0 β2 σ' w' → VR β2 v v' → Q (v, σ') → next (aR.put o.dst v') w') : o.wpIn (FF ro) n P aR w next Qx := by
  cases ha : acts o.op with
  | true => exact acts_in hK hR hρ ha hQ hn
  | false =>
    have hQ' := T.all_bind.1 hQ
    obtain ⟨v, v', hq, hrun, hv⟩ := still_istep hρ ha hR hQ'
    exact still_in (istep_noDefer hQ') hrun (hn _ _ _ _ _ (.refl _) hR hv hq)

/-- A region in text order. -/
theorem iops_in {K : Kont} (hK : KS P B w0 K) {ro : Option Nat} {n : Nat} {Q : Act × World → Prop} {Qx : Exit → Act → World → Prop} : ∀ (l : List Nat) {β : Beta} {aI aR : Act} {σ w : World}, R P B w0 β σ w → ActR β aI aR → (iops P K ops l aI σ).all Q →
    (∀ β2 a a' σ' w', β.le β2 → R P B w0 β2 σ' w' → ActR β2 a a' → Q (a, σ') → Qx .normal a' w') → wpOpsIn (FF ro) n P ops Qx l aR w
  | [], β, aI, aR, σ, w, hR, hA, hQ, hq => hq _ _ _ _ _ (.refl _) hR hA hQ
  | i :: rest, β, aI, aR, σ, w, hR, hA, hQ, hq => by
    rw [wpOpsIn_cons]
    have hQ := T.all_bind.1 hQ
    unfold wpOpIn
    unfold iopAt at hQ
    cases ho : ops[i]? with
    | none => rw [ho] at hQ; exact hQ.elim
    | some o =>
      rw [ho] at hQ
      simp only at hQ ⊢
      have hs := hA.slots (o.looksAt ops)
      rw [hs.wanted]
      cases hw : Region.wanted o (yielded ops aI.tmps) with
      | true =>
        simp only [hw, if_true] at hQ ⊢
        refine iop_in hK hR hs.rho (T.all_bind.1 hQ) fun β2 v v' σ' w' hle hR' hv hq' => ?_
        exact iops_in hK rest hR' ((hA.mono hle).put _ hv) hq' fun β3 a a' σ2 w2 h3 => hq β3 a a' σ2 w2 (hle.trans h3)
      | false =>
        simp only [hw, Bool.false_eq_true, if_false] at hQ ⊢
        exact ⟨fun _ _ => trivial, iops_in hK rest hR (hA.put _ (undefVR β)) hQ hq⟩
end
end Go.Ideal
