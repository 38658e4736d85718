/-
  The operations that write nothing, side by side: the worlds stay as they are.
-/
import Derived.Test.YtplcocifndpplaaIm
namespace Go.Ideal
open Go

/-- As 'Sim', where neither world turns; what is asked of the two worlds stands in I. -/
def RSim {α α' : Type} (I : Beta → World → World → Prop) (P : Program) (β : Beta) (s : Sem α) (s' : Sem α') (A : Beta → α → α' → Prop) : Prop :=
  ∀ β1 σ w, β.le β1 → I β1 σ w → ∀ v σ', s.run P σ = .ok v σ' → σ' = σ ∧ ∃ v', s'.run P w = .ok v' w ∧ A β1 v v'

section
variable {I : Beta → World → World → Prop} {P : Program} {β : Beta} {α α' γ γ' : Type} {A : Beta → α → α' → Prop} {C : Beta → γ → γ' → Prop}
theorem RSim.pure {v : α} {v' : α'} (h : ∀ β1, β.le β1 → A β1 v v') : RSim I P β (Pure.pure v) (Pure.pure v') A := by
  intro β1 σ w hle hR u σ' hu
  simp only [Sem.run_pure, Result.ok.injEq] at hu
  obtain ⟨rfl, rfl⟩ := hu
  exact ⟨rfl, v', by simp, h _ hle⟩
theorem RSim.bind {s : Sem α} {s' : Sem α'} {k : α → Sem γ} {k' : α' → Sem γ'} (h : RSim I P β s s' A)
    (hk : ∀ β1 v v', β.le β1 → A β1 v v' → RSim I P β1 (k v) (k' v') C) : RSim I P β (s >>= k) (s' >>= k') C := by
  intro β1 σ w hle hR u σ' hu
  rw [Sem.run_bind] at hu
  cases hs : s.run P σ with
  | halt x y => rw [hs] at hu; cases hu
  | ok v σ1 =>
    rw [hs] at hu
    obtain ⟨rfl, v', hs', hA⟩ := h β1 σ w hle hR v σ1 hs
    obtain ⟨rfl, u', hk', hC⟩ := hk β1 v v' hle hA β1 σ1 w (.refl _) hR u σ' hu
    exact ⟨rfl, u', by rw [Sem.run_bind, hs']; exact hk', hC⟩
theorem RSim.halt {x : Halt} {s' : Sem α'} : RSim I P β (.halt x : Sem α) s' A := by
  intro β1 σ w hle hR u σ' hu
  simp [Sem.run] at hu
theorem RSim.stuck {x : String} {s' : Sem α'} : RSim I P β (Go.stuck x : Sem α) s' A := RSim.halt
theorem RSim.unsupported {x : Unsupported} {s' : Sem α'} : RSim I P β (Go.unsupported x : Sem α) s' A := RSim.halt
theorem RSim.never {s : Sem α} {s' : Sem α'} (h : Never s P) : RSim I P β s s' A := fun _ σ _ _ _ v σ' hu => absurd hu (h σ v σ')
theorem RSim.le {s : Sem α} {s' : Sem α'} {β0 : Beta} (h : RSim I P β0 s s' A) (hle : β0.le β) : RSim I P β s s' A :=
  fun β1 σ w h1 hR v σ' hu => h β1 σ w (hle.trans h1) hR v σ' hu
theorem RSim.of_still {s : Sem α} (h : Still s P) {D : Beta → α → α → Prop} (hD : ∀ b v, D b v v) : RSim I P β s s D := by
  intro β1 σ w hle hR u σ' hu
  obtain ⟨rfl, hw⟩ := h σ w u σ' hu
  exact ⟨rfl, u, hw, hD _ _⟩
theorem RSim.still {s : Sem α} (hs : Still s P) {k : α → Sem γ} {k' : α → Sem γ'}
    (h : ∀ v, RSim I P β (k v) (k' v) C) : RSim I P β (s >>= k) (s >>= k') C :=
  RSim.bind (RSim.of_still hs (D := fun _ x y => x = y) (fun _ _ => rfl)) fun _ v v' hle e => by subst e; exact (h v).le hle
theorem RSim.of_stillP {s : Sem α} {Q : α → Prop} (h : StillP s P Q) : RSim I P β s s (fun _ x y => x = y ∧ Q x) := by
  intro β1 σ w hle hR u σ' hu
  obtain ⟨rfl, hw, hq⟩ := h σ w u σ' hu
  exact ⟨rfl, u, hw, rfl, hq⟩
theorem RSim.under {t : TypeId} {k : TypeDesc → Sem α} {k' : TypeDesc → Sem α'}
    (h : ∀ d, P.underlying t = some d → RSim I P β (k d) (k' d) A) : RSim I P β (underlying t >>= k) (underlying t >>= k') A := by
  refine RSim.bind (RSim.of_stillP (Q := fun d => P.underlying t = some d) ?_) fun β1 x y hle e => by obtain ⟨rfl, e⟩ := e; exact (h x e).le hle
  have := stillP_under (P := P) (t := t) (k := Pure.pure) (Q := fun d => P.underlying t = some d) fun d hd => stillP_pure hd
  simpa using this
theorem RSim.size {t : TypeId} {i : TypeInfo} (hi : P.info? t = some i) {k : Nat → Sem α} {k' : Nat → Sem α'} (h : RSim I P β (k i.size) (k' i.size) A) :
    RSim I P β (sizeOf t >>= k) (sizeOf t >>= k') A := by
  refine RSim.bind (RSim.of_stillP (Q := fun n => n = i.size) ?_) fun β1 x y hle e => by obtain ⟨rfl, rfl⟩ := e; exact h.le hle
  intro σ w v σ' hu
  rw [run_sizeOf' hi] at hu
  simp only [Result.ok.injEq] at hu
  obtain ⟨rfl, rfl⟩ := hu
  exact ⟨rfl, run_sizeOf' hi w, rfl⟩
theorem RSim.sim {B : Nat} {w0 : Base} {s : Sem α} {s' : Sem α'} (h : RSim (R P B w0) P β s s' A) : Sim P B w0 β s s' A := by
  intro β1 σ w hle hR u σ' hu
  obtain ⟨rfl, v', h1, h2⟩ := h β1 σ w hle hR u σ' hu
  exact ⟨β1, v', w, .refl _, h1, hR, h2⟩
end

section
variable {I : Beta → World → World → Prop} {P : Program} {β : Beta}
theorem rsim_zeroValue {t : TypeId} (hz : zeroOk P t = true) : RSim I P β (zeroValue t) (zeroValue t) VR := by
  intro β1 σ w hle hR u σ' hu
  obtain ⟨rfl, hw⟩ := still_zeroValue t σ w u σ' hu
  refine ⟨rfl, u, hw, ?_⟩
  unfold zeroValue typeInfo at hu
  cases hi : P.info? t with
  | none => simp [program, Sem.run, Go.stuck, hi, Result.andThen] at hu
  | some i =>
    cases hzz : i.zero with
    | none => simp [program, Sem.run, Go.unsupported, hi, hzz, Result.andThen] at hu
    | some z =>
      simp [program, Sem.run, hi, hzz, Result.andThen] at hu
      subst hu
      exact zero_self hz hi hzz β1

theorem rsim_sureAddr {v v' : Value} (h : VR β v v') : RSim I P β (Instr.sureAddr v) (Instr.sureAddr v') PR := by
  cases h with
  | ptr e => exact RSim.pure fun β1 hle => ⟨_, _, _, hle _ _ e, rfl, rfl⟩
  | _ => exact RSim.stuck

theorem rsim_part {c c' : Array Value} (t : TypeId) (n : Nat) (h : AR β c c') : RSim I P β (part t c n) (part t c' n) VR := by
  unfold part
  refine RSim.still (still_isAgg t) fun x => ?_
  cases x with
  | true =>
    simp only [if_true]
    refine RSim.still (still_sizeOf t) fun m => RSim.pure fun β1 hle => ?_
    have := (h.mono hle).extract n (n + m)
    exact .agg this.1 this.2
  | false =>
    simp only [Bool.false_eq_true, if_false]
    cases hc : c[n]? with
    | none => exact RSim.stuck
    | some v =>
      obtain ⟨v', h1, h2⟩ := h.get hc
      rw [h1]
      exact RSim.pure fun β1 hle => h2.mono hle

theorem rsim_asAgg {v v' : Value} (h : VR β v v') : RSim I P β (asAgg v) (asAgg v') AR := by
  cases h with
  | agg hs hc => exact RSim.pure fun β1 hle => AR.mono hle ⟨hs, hc⟩
  | _ => exact RSim.stuck

theorem rsim_field {v v' : Value} (t : TypeId) (f : Nat) (h : VR β v v') : RSim I P β (Instr.field t v f) (Instr.field t v' f) VR := by
  unfold Instr.field
  refine RSim.still (still_underlying t) fun d => ?_
  split
  · split
    · exact RSim.bind (rsim_asAgg h) fun _ _ _ _ hc => rsim_part _ _ hc
    · exact RSim.stuck
  · exact RSim.stuck

theorem rsim_extract {v v' : Value} (i : Nat) (h : VR β v v') : RSim I P β (Instr.extract v i) (Instr.extract v' i) VR := by
  unfold Instr.extract
  cases h with
  | @tuple c c' hs hc =>
    simp only
    cases hci : c[i]? with
    | none => exact RSim.stuck
    | some x =>
      obtain ⟨x', h1, h2⟩ := (show AR β c c' from ⟨hs, hc⟩).get hci
      rw [h1]
      exact RSim.pure fun β1 hle => h2.mono hle
  | _ => exact RSim.stuck

theorem rsim_makeInterface {v v' : Value} (t : TypeId) (h : VR β v v') : RSim I P β (Instr.makeInterface t v) (Instr.makeInterface t v') VR := by
  unfold Instr.makeInterface
  refine RSim.still (still_underlying t) fun d => ?_
  split
  · exact RSim.stuck
  · exact RSim.pure fun β1 hle => .iface t (h.mono hle)

theorem rsim_asIntOf {v v' : Value} (h : VR β v v') : RSim I P β (asIntOf v) (asIntOf v') (fun _ x y => x = y) := by
  cases h with
  | int k n => exact RSim.pure fun _ _ => rfl
  | ptr _ => exact RSim.unsupported
  | _ => exact RSim.stuck

theorem rsim_asInt {v v' : Value} (h : VR β v v') : RSim I P β (asInt v) (asInt v') (fun _ x y => x = y) :=
  RSim.bind (rsim_asIntOf h) fun _ x y _ e => by subst e; exact RSim.pure fun _ _ => rfl

theorem rsim_asBool {v v' : Value} (h : VR β v v') : RSim I P β (asBool v) (asBool v') (fun _ x y => x = y) := by
  cases h with
  | bool b => exact RSim.pure fun _ _ => rfl
  | _ => exact RSim.stuck

theorem rsim_fieldAt {v v' : Value} (s : TypeId) (f : Nat) (hf : fieldFit P s f = true) (h : VR β v v') : RSim I P β (Instr.fieldAt s v f) (Instr.fieldAt s v' f) VR := by
  obtain ⟨fields, fd, i, hu, hfd, hi, hpos⟩ := fieldFit_spec hf
  unfold Instr.fieldAt
  refine RSim.under fun d hd => ?_
  rw [hu] at hd
  simp only [Option.some.injEq] at hd
  subst hd
  simp only [hfd]
  refine RSim.bind (rsim_sureAddr h) fun β2 a a' hle2 hp => ?_
  refine RSim.bind (A := PR) ?_ fun β3 b b' hle3 hq => RSim.pure fun β4 hle4 => (hq.mono hle4).vr
  unfold fieldPlace
  refine RSim.size hi ?_
  rw [if_neg (by omega), if_neg (by omega)]
  exact RSim.pure fun β4 hle4 => (hp.mono hle4).add _

theorem rsim_build {t : TypeId} (hz : zeroOk P t = true) {parts parts' : Array (Nat × Value)} (hp : PartR β parts.toList parts'.toList) :
    RSim I P β (Instr.build t parts) (Instr.build t parts') VR := by
  unfold Instr.build
  refine RSim.bind (rsim_zeroValue hz) fun β1 z z' hle hzz => ?_
  refine RSim.still (still_underlying t) fun d => ?_
  split
  · refine RSim.still (still_mapM (fun f => still_bind (still_sizeOf _) fun _ => still_pure _) _) fun places => ?_
    have key := fill_rel (β := β1) (places[·]?) parts.toList parts'.toList z.cells z'.cells (hp.mono hle) hzz.cells
    split
    · rename_i cells hc
      obtain ⟨c', h1, h2⟩ := key _ hc
      rw [h1]
      exact RSim.pure fun β2 hle2 => let k := h2.mono hle2; .agg k.1 k.2
    · exact RSim.stuck
  · refine RSim.still (still_sizeOf _) fun size => ?_
    have key := fill_rel (β := β1) (fun i => some (i * size, size)) parts.toList parts'.toList z.cells z'.cells (hp.mono hle) hzz.cells
    split
    · rename_i cells hc
      obtain ⟨c', h1, h2⟩ := key _ hc
      rw [h1]
      exact RSim.pure fun β2 hle2 => let k := h2.mono hle2; .agg k.1 k.2
    · exact RSim.stuck
  · exact RSim.stuck

theorem rsim_indexAt {t : TypeId} {x x' i i' : Value} (hx : VR β x x') (hi : VR β i i') : RSim I P β (Instr.indexAt t x i) (Instr.indexAt t x' i') VR := by
  unfold Instr.indexAt
  refine RSim.bind (rsim_asIntOf hi) fun β1 p p' hle e => ?_
  subst e
  obtain ⟨k, n⟩ := p
  simp only
  have hx1 := hx.mono hle
  have tail : ∀ {β2 : Beta} (b b' : Option Addr) (l : Nat) (e : TypeId),
      ((b = none ∧ b' = none) ∨ ∃ a a', b = some a ∧ b' = some a' ∧ (PR β2 a a' ∨ l = 0)) →
      RSim I P β2 (do
          let tiny := decide (l ≤ 1) && (match ← underlying t with | .array .. => true | _ => false)
          match b with
          | some a =>
            if 0 ≤ n ∧ n < l then pure (.pointer (some (a.add (n.toNat * (← sizeOf e)))))
            else if tiny then Go.unsupported (.noEntry "op/indexAddr.an index out of range at an array of length 0 or 1 (ledger 616)")
            else boundsPanic k n l .index
          | none => boundsPanic k n 0 .index)
        (do
          let tiny := decide (l ≤ 1) && (match ← underlying t with | .array .. => true | _ => false)
          match b' with
          | some a =>
            if 0 ≤ n ∧ n < l then pure (.pointer (some (a.add (n.toNat * (← sizeOf e)))))
            else if tiny then Go.unsupported (.noEntry "op/indexAddr.an index out of range at an array of length 0 or 1 (ledger 616)")
            else boundsPanic k n l .index
          | none => boundsPanic k n 0 .index) VR := by
    intro β2 b b' l e hb
    refine RSim.under fun d2 hd2 => ?_
    rcases hb with ⟨rfl, rfl⟩ | ⟨a, a', rfl, rfl, hp⟩
    · exact RSim.never (never_boundsPanic _ _ _ _)
    · dsimp only
      by_cases hn : 0 ≤ n ∧ n < l
      · rw [if_pos hn, if_pos hn]
        have hp' : PR β2 a a' := hp.resolve_right (by omega)
        exact RSim.still (still_sizeOf _) fun s => RSim.pure fun β3 hle3 => ((hp'.mono hle3).add _).vr
      · rw [if_neg hn, if_neg hn]
        refine RSim.never ?_
        split <;> (split <;> first | exact never_halt _ | exact never_boundsPanic _ _ _ _)
  refine RSim.under fun d hd => ?_
  cases d with
  | array len elem =>
    simp only
    exact RSim.bind (rsim_sureAddr hx1) fun β2 a a' hle2 hp => tail (some a) (some a') len elem (.inr ⟨a, a', rfl, rfl, .inl hp⟩)
  | slice elem =>
    cases hx1 with
    | nilSlice => exact tail none none 0 elem (.inl ⟨rfl, rfl⟩)
    | @slice b o len cap o' cap' bi hb hs =>
      refine tail _ _ len elem (.inr ⟨_, _, rfl, rfl, ?_⟩)
      rcases hs with ⟨h1, h2, h3, h4 | h4⟩ | ⟨h1, h2, ⟨h3, _⟩ | ⟨h3, _⟩⟩ | ⟨_, h3, _⟩
      · subst h4; exact .inl ⟨b, o, bi, hb, rfl, rfl⟩
      · exact .inr (by omega)
      · subst h3; exact .inl ⟨b, o, bi, hb, rfl, rfl⟩
      · exact .inr h3
      · subst h3; exact .inl ⟨b, o, bi, hb, rfl, rfl⟩
    | _ => exact RSim.stuck
  | _ => exact RSim.stuck

theorem rsim_index {t : TypeId} {x x' i i' : Value} (hx : VR β x x') (hi : VR β i i') : RSim I P β (Instr.index t x i) (Instr.index t x' i') VR := by
  unfold Instr.index
  refine RSim.bind (rsim_asIntOf hi) fun β1 p p' hle e => ?_
  subst e
  obtain ⟨k, n⟩ := p
  simp only
  have hx1 := hx.mono hle
  refine RSim.under fun d hd => ?_
  cases d with
  | array len elem =>
    cases hx1 with
    | agg hs hc =>
      dsimp only
      split
      · exact RSim.still (still_sizeOf _) fun s => rsim_part _ _ ⟨hs, hc⟩
      · exact RSim.never (never_boundsPanic _ _ _ _)
    | _ => exact RSim.stuck
  | string =>
    cases hx1 with
    | string s =>
      dsimp only
      split
      · exact RSim.pure fun _ _ => .int _ _
      · exact RSim.never (never_boundsPanic _ _ _ _)
    | _ => exact RSim.stuck
  | _ => exact RSim.stuck

theorem rsim_nilEq {x x' y y' : Value} (t : TypeId) (d : Nat) (hx : VR β x x') (hy : VR β y y') (h : eqFit x y = true) (hb : ∀ c, x ≠ .agg c) :
    RSim I P β (Op.equalIn d t x y) (Op.equalIn d t x' y') (fun _ a b => a = b) := by
  cases d with
  | zero => exact RSim.halt
  | succ d =>
  unfold Op.equalIn
  refine RSim.under fun td htd => ?_
  cases hx with
  | bool a =>
    cases hy with
    | bool b => cases td <;> first | exact RSim.halt | exact RSim.pure fun _ _ => rfl
    | _ => simp [eqFit] at h
  | nilPtr =>
    cases hy with
    | nilPtr => cases td <;> first | exact RSim.halt | exact RSim.pure fun _ _ => rfl
    | ptr e => cases td <;> first | exact RSim.halt | exact RSim.pure fun _ _ => rfl
    | _ => simp [eqFit] at h
  | ptr e =>
    cases hy with
    | nilPtr => cases td <;> first | exact RSim.halt | exact RSim.pure fun _ _ => rfl
    | _ => simp [eqFit] at h
  | nilSlice =>
    cases hy with
    | nilSlice => cases td <;> first | exact RSim.halt | exact RSim.pure fun _ _ => rfl
    | slice e hs => cases td <;> first | exact RSim.halt | exact RSim.pure fun _ _ => rfl
    | _ => simp [eqFit] at h
  | slice e hs =>
    cases hy with
    | nilSlice => cases td <;> first | exact RSim.halt | exact RSim.pure fun _ _ => rfl
    | _ => simp [eqFit] at h
  | nilMap =>
    cases hy with
    | nilMap => cases td <;> first | exact RSim.halt | exact RSim.pure fun _ _ => rfl
    | map e => cases td <;> first | exact RSim.halt | exact RSim.pure fun _ _ => rfl
    | _ => simp [eqFit] at h
  | map e =>
    cases hy with
    | nilMap => cases td <;> first | exact RSim.halt | exact RSim.pure fun _ _ => rfl
    | _ => simp [eqFit] at h
  | nilFunc =>
    cases hy with
    | nilFunc => cases td <;> first | exact RSim.halt | exact RSim.pure fun _ _ => rfl
    | func hf hs hc => cases td <;> first | exact RSim.halt | exact RSim.pure fun _ _ => rfl
    | _ => simp [eqFit] at h
  | func hf hs hc =>
    cases hy with
    | nilFunc => cases td <;> first | exact RSim.halt | exact RSim.pure fun _ _ => rfl
    | _ => simp [eqFit] at h
  | agg hs hc => exact absurd rfl (hb _)
  | _ => simp [eqFit] at h

theorem rsim_binOp {op : BinOp} {t : TypeId} (o1 o2 : Operand) {x x' y y' : Value} (hx : VR β x x') (hy : VR β y y') (h : binFit P op t x y = true) :
    RSim I P β (do eqGuard op t o1 o2 x y; binOp op t x y) (do eqGuard op t o1 o2 x' y'; binOp op t x' y') VR := by
  have same : ∀ {s : Sem Value}, Still s P → (∀ b σ v σ', s.run P σ = .ok v σ' → VR b v v) → RSim I P β s s VR := fun hs hv => by
    intro β1 σ w hle hR u σ' hu
    obtain ⟨rfl, hw⟩ := hs σ w u σ' hu
    exact ⟨rfl, u, hw, hv _ _ _ _ hu⟩
  have isInt : ∀ (op : BinOp) (j k : IntKind) (a b : Int) (b1 : Beta) (σ : World) (v : Value) (σ' : World), (binOp op t (.int j a) (.int k b)).run P σ = .ok v σ' → VR b1 v v := by
    intro op j k a b b1 σ v σ' hr
    have key : (∃ k n, v = .int k n) ∨ ∃ c, v = .bool c := by
      unfold binOp at hr
      cases op <;> simp only at hr <;> (try (split at hr)) <;>
        first
          | (simp [Go.stuck, Sem.run] at hr; done)
          | (unfold Op.shift at hr; split at hr
             · exact absurd hr (never_runtimePanic _ _ _ _)
             · simp [Sem.run_pure] at hr; exact .inl ⟨_, _, hr.1.symm⟩)
          | (unfold Op.intArith at hr; simp [Sem.run_pure] at hr; exact .inl ⟨_, _, hr.1.symm⟩)
          | (unfold Op.intDiv at hr; split at hr
             · exact absurd hr (never_runtimePanic _ _ _ _)
             · simp [Sem.run_pure] at hr; exact .inl ⟨_, _, hr.1.symm⟩)
          | (unfold Op.intBits at hr; simp [Sem.run_pure] at hr; exact .inl ⟨_, _, hr.1.symm⟩)
          | (unfold Op.intCmp at hr; simp [Sem.run_pure] at hr; exact .inr ⟨_, hr.1.symm⟩)
    rcases key with ⟨k, n, rfl⟩ | ⟨c, rfl⟩
    · exact .int k n
    · exact .bool c
  have isStr : ∀ (op : BinOp) (a b : ByteArray) (b1 : Beta) (σ : World) (v : Value) (σ' : World), (binOp op t (.string a) (.string b)).run P σ = .ok v σ' → VR b1 v v := by
    intro op a b b1 σ v σ' hr
    have key : (∃ s, v = .string s) ∨ ∃ c, v = .bool c := by
      unfold binOp at hr
      cases op <;> (simp only at hr; unfold Op.stringOp at hr; simp only at hr) <;>
        first
          | (simp [Go.stuck, Sem.run] at hr; done)
          | (simp [Sem.run_pure] at hr; exact .inr ⟨_, hr.1.symm⟩)
          | (split at hr
             · simp [Go.unsupported, Sem.run] at hr
             · simp [Sem.run_pure] at hr; exact .inl ⟨_, hr.1.symm⟩)
    rcases key with ⟨s, rfl⟩ | ⟨c, rfl⟩
    · exact .string s
    · exact .bool c
  have eqs : eqTy P 5 t = true → eqFit x y = true → (op = .eql ∨ op = .neq) → RSim I P β (do eqGuard op t o1 o2 x y; binOp op t x y) (do eqGuard op t o1 o2 x' y'; binOp op t x' y') VR := by
    intro ht hfit hop
    by_cases hagg : ∃ c d, x = .agg c ∧ y = .agg d
    · obtain ⟨c, d, rfl, rfl⟩ := hagg
      have hg : ground (.agg c) = true ∧ ground (.agg d) = true := by simpa [eqFit] using hfit
      have e1 := VR.ground 4 hx hg.1
      have e2 := VR.ground 4 hy hg.2
      subst e1; subst e2
      refine RSim.bind (RSim.of_still (still_eqGuard _ _ _ _ _ _ (.inl ht)) (D := fun _ x y => x = y) (fun _ _ => rfl)) fun β1 _ _ hle _ => ?_
      have he : RSim I P β1 (Op.equal t (.agg c) (.agg d)) (Op.equal t (.agg c) (.agg d)) (fun _ a b => a = b) :=
        RSim.of_still (still_equalIn _ 5 t _ _ 3 ht hg.1 hg.2) fun _ _ => rfl
      rcases hop with rfl | rfl
      · exact RSim.bind he fun _ a b _ e => by subst e; exact RSim.pure fun _ _ => .bool _
      · exact RSim.bind he fun _ a b _ e => by subst e; exact RSim.pure fun _ _ => .bool _
    · have hxa : ∀ c, x ≠ .agg c := fun c hc => by
        subst hc
        cases y <;> simp [eqFit] at hfit
        exact hagg ⟨_, _, rfl, rfl⟩
      have hxn : x ≠ .nilIface := fun hc => by subst hc; simp [eqFit] at hfit
      have hx'a : ∀ c, x' ≠ .agg c := fun c hc => by
        subst hc
        cases hx with
        | tok e hv => obtain ⟨n, hn⟩ := tokVal_cases _; rw [hn] at hv; cases hv
        | agg _ _ => exact hxa _ rfl
      have hx'n : x' ≠ .nilIface := fun hc => by
        subst hc
        cases hx with
        | tok e hv => obtain ⟨n, hn⟩ := tokVal_cases _; rw [hn] at hv; cases hv
        | nilIface => exact hxn rfl
      rw [eqGuard_none _ _ _ _ _ _ hxa hxn, eqGuard_none _ _ _ _ _ _ hx'a hx'n]
      have he := rsim_nilEq (I := I) (P := P) t Op.maxDepth hx hy hfit hxa
      refine RSim.bind (RSim.pure (A := fun _ _ _ => True) fun _ _ => trivial) fun β1 _ _ hle _ => ?_
      have he1 := he.le hle
      have shape1 : ∀ {u v : Value}, eqFit u v = true → binOp .eql t u v = (do pure (.bool (← Op.equal t u v))) := by
        intro u v huv
        unfold binOp
        cases u <;> cases v <;> first | rfl | simp [eqFit] at huv
      have shape2 : ∀ {u v : Value}, eqFit u v = true → binOp .neq t u v = (do pure (.bool (!(← Op.equal t u v)))) := by
        intro u v huv
        unfold binOp
        cases u <;> cases v <;> first | rfl | simp [eqFit] at huv
      have hfit' : eqFit x' y' = true := by
        cases hx <;> cases hy <;> first | rfl | (simp [eqFit] at hfit; done) | (simp_all [eqFit]; done)
      rcases hop with rfl | rfl
      · rw [shape1 hfit, shape1 hfit']
        exact RSim.bind he1 fun _ a b _ e => by subst e; exact RSim.pure fun _ _ => .bool _
      · rw [shape2 hfit, shape2 hfit']
        exact RSim.bind he1 fun _ a b _ e => by subst e; exact RSim.pure fun _ _ => .bool _
  unfold binFit at h
  split at h
  · cases hx; cases hy
    refine same (still_bind (still_eqGuard _ _ _ _ _ _ (.inr ⟨(fun _ e => by cases e), (fun e => by cases e)⟩)) fun _ => still_binInt _ _ _ _ _ _) fun b σ v σ' hr => ?_
    rw [eqGuard_none _ _ _ _ _ _ (fun _ e => by cases e) (fun e => by cases e)] at hr
    exact isInt _ _ _ _ _ _ _ _ _ (by simpa [Sem.run_bind, Result.andThen] using hr)
  · cases hx; cases hy
    refine same (still_bind (still_eqGuard _ _ _ _ _ _ (.inr ⟨(fun _ e => by cases e), (fun e => by cases e)⟩)) fun _ => still_binString _ _ _ _) fun b σ v σ' hr => ?_
    rw [eqGuard_none _ _ _ _ _ _ (fun _ e => by cases e) (fun e => by cases e)] at hr
    exact isStr _ _ _ _ _ _ _ (by simpa [Sem.run_bind, Result.andThen] using hr)
  · simp only [Bool.and_eq_true] at h
    obtain ⟨⟨hop, ht⟩, hfit⟩ := h
    refine eqs ht hfit ?_
    cases op <;> simp at hop <;> first | exact .inl rfl | exact .inr rfl

theorem rsim_unary {op : UnOp} {x x' : Value} (hx : VR β x x') (hf : unFit x = true) : RSim I P β (Op.unary op x) (Op.unary op x') VR := by
  cases hx with
  | int k n => cases op <;> first | exact RSim.stuck | exact RSim.pure fun _ _ => VR.int _ _
  | bool b => cases op <;> first | exact RSim.stuck | exact RSim.pure fun _ _ => VR.bool _
  | _ => simp [unFit] at hf

theorem rsim_convert {s d : TypeId} {k : IntKind} {n : Int} (hd : isInt P d = true) : RSim I P β (convert s d (.int k n)) (convert s d (.int k n)) VR := by
  obtain ⟨kk, hk⟩ := isInt_spec hd
  unfold convert
  refine RSim.under fun ds hds => RSim.under fun dd hdd => ?_
  rw [hk] at hdd
  simp only [Option.some.injEq] at hdd
  subst hdd
  cases ds <;> exact RSim.pure fun _ _ => VR.int _ _

theorem rsim_fold {f : Value → Value → Sem Value} (hf : ∀ k a j b, ∃ c, f (.int k a) (.int j b) = Pure.pure (.int k c)) : ∀ (l m : List Value) (x x' : Value), LR β l m → VR β x x' → keyFit x = true → (∀ y ∈ l, keyFit y = true) →
    RSim I P β (l.foldlM f x) (m.foldlM f x') VR := by
  intro l
  induction l with
  | nil =>
    intro m x x' hl hx hk _
    cases m with
    | nil => exact RSim.pure fun β1 hle => hx.mono hle
    | cons b m => exact hl.elim
  | cons a l ih =>
    intro m x x' hl hx hk hall
    cases m with
    | nil => exact hl.elim
    | cons b m =>
      obtain ⟨k, n, rfl⟩ := keyFit_int hk
      obtain ⟨j, i, rfl⟩ := keyFit_int (hall a (by simp))
      cases hx
      have hb := hl.1
      cases hb
      obtain ⟨c, hc⟩ := hf k n j i
      rw [List.foldlM_cons, List.foldlM_cons, hc]
      simp only [pure_bind]
      exact ih m _ _ hl.2 (.int k c) rfl (fun y hy => hall y (by simp [hy]))

theorem rsim_max {at_ : Array TypeId} {ty : TypeId} {args args' : Array Value} (ha : AR β args args') (hk : ∀ y ∈ args.toList, keyFit y = true) : RSim I P β (Builtin.max_ at_ ty args) (Builtin.max_ at_ ty args') VR := by
  unfold Builtin.max_
  have hl := ha.lr
  revert hl hk
  cases args.toList with
  | nil => intro hk hl; exact RSim.stuck
  | cons a l =>
    cases args'.toList with
    | nil => intro hk hl; exact hl.elim
    | cons b m => intro hk hl; exact rsim_fold (fun k a j b => ⟨_, rfl⟩) l m a b hl.2 hl.1 (hk a (by simp)) (fun y hy => hk y (by simp [hy]))

theorem rsim_min {at_ : Array TypeId} {ty : TypeId} {args args' : Array Value} (ha : AR β args args') (hk : ∀ y ∈ args.toList, keyFit y = true) : RSim I P β (Builtin.min_ at_ ty args) (Builtin.min_ at_ ty args') VR := by
  unfold Builtin.min_
  have hl := ha.lr
  revert hl hk
  cases args.toList with
  | nil => intro hk hl; exact RSim.stuck
  | cons a l =>
    cases args'.toList with
    | nil => intro hk hl; exact hl.elim
    | cons b m => intro hk hl; exact rsim_fold (fun k a j b => ⟨_, rfl⟩) l m a b hl.2 hl.1 (hk a (by simp)) (fun y hy => hk y (by simp [hy]))

theorem rsim_bound {x x' : Value} (h : VR β x x') (y : Nat) (c : BoundsCode) : RSim I P β (Instr.sliceBound x y c) (Instr.sliceBound x' y c) (fun _ a b => a = b ∧ a ≤ y) := by
  cases h with
  | int k n =>
    intro β1 σ w hle hR u σ' hu
    obtain ⟨rfl, h2, h3⟩ := stillP_bound (.int k n) y c (fun a h => by cases h) σ w u σ' hu
    exact ⟨rfl, u, h2, rfl, h3⟩
  | ptr _ => exact RSim.never (never_left (never_halt _))
  | _ => exact RSim.never (never_left (never_halt _))

theorem rsim_sliceBounds {isS : Bool} {len cap : Nat} (hlc : len ≤ cap) {lo lo' hi hi' mx mx' : Option Value} (hlo : OVR β lo lo') (hhi : OVR β hi hi') (hmx : OVR β mx mx') :
    RSim I P β (Instr.sliceBounds isS len cap lo hi mx) (Instr.sliceBounds isS len cap lo' hi' mx') (fun _ a b => a = b ∧ a.1 ≤ a.2.1 ∧ a.2.1 ≤ a.2.2 ∧ a.2.2 ≤ cap) := by
  unfold Instr.sliceBounds
  have last : ∀ {β1 : Beta} (h m : Nat) (s : Bool), h ≤ m → m ≤ cap → β.le β1 → RSim I P β1
      (do
        let l ← match lo with
          | some v => Instr.sliceBound v h (if s then .slice3C else .sliceB)
          | none => pure 0
        pure (l, h, m))
      (do
        let l ← match lo' with
          | some v => Instr.sliceBound v h (if s then .slice3C else .sliceB)
          | none => pure 0
        pure (l, h, m)) (fun _ a b => a = b ∧ a.1 ≤ a.2.1 ∧ a.2.1 ≤ a.2.2 ∧ a.2.2 ≤ cap) := by
    intro β1 h m s hhm hmc hle
    cases lo with
    | none =>
      cases lo' with
      | some _ => exact hlo.elim
      | none => exact RSim.pure fun _ _ => ⟨rfl, Nat.zero_le _, hhm, hmc⟩
    | some v =>
      cases lo' with
      | none => exact hlo.elim
      | some v' =>
        refine RSim.bind (rsim_bound (VR.mono hle hlo) h _) fun β2 a b hle2 e => ?_
        obtain ⟨rfl, e⟩ := e
        exact RSim.pure fun _ _ => ⟨rfl, e, hhm, hmc⟩
  cases mx with
  | none =>
    cases mx' with
    | some _ => exact hmx.elim
    | none =>
      refine RSim.bind (RSim.pure (A := fun _ a b => a = b ∧ a = cap) (v := cap) (v' := cap) fun _ _ => ⟨rfl, rfl⟩) fun β0 m m' hle0 e => ?_
      obtain ⟨rfl, rfl⟩ := e
      cases hi with
      | none =>
        cases hi' with
        | some _ => exact hhi.elim
        | none =>
          refine RSim.bind (RSim.pure (A := fun _ a b => a = b ∧ a = len) (v := len) (v' := len) fun _ _ => ⟨rfl, rfl⟩) fun β1 h h' hle1 e => ?_
          obtain ⟨rfl, rfl⟩ := e
          exact last _ _ _ hlc (Nat.le_refl _) (hle0.trans hle1)
      | some v =>
        cases hi' with
        | none => exact hhi.elim
        | some v' =>
          refine RSim.bind (rsim_bound (VR.mono hle0 hhi) _ _) fun β2 a b hle2 e => ?_
          obtain ⟨rfl, e⟩ := e
          exact last a _ _ e (Nat.le_refl _) (hle0.trans hle2)
  | some mv =>
    cases mx' with
    | none => exact hmx.elim
    | some mv' =>
      dsimp only
      refine RSim.bind (rsim_bound hmx cap _) fun β1 m m' hle1 e => ?_
      obtain ⟨rfl, em⟩ := e
      cases hi with
      | none =>
        cases hi' with
        | some _ => exact hhi.elim
        | none => exact RSim.stuck
      | some v =>
        cases hi' with
        | none => exact hhi.elim
        | some v' =>
          refine RSim.bind (rsim_bound (VR.mono hle1 hhi) m _) fun β2 a b hle2 e => ?_
          obtain ⟨rfl, e⟩ := e
          exact last a m _ e em (hle1.trans hle2)

/-- Slices with a known end, nil ones, strings. -/
theorem rsim_sliceAt {t : TypeId} {x x' : Value} (hx : VR β x x') (hc : (∃ a l c, x = .slice a l c ∧ c < OPEN) ∨ ∃ s, x = .string s) (ht : (∃ e, P.underlying t = some (.slice e)) ∨ P.underlying t = some .string)
    {lo lo' hi hi' mx mx' : Option Value} (hlo : OVR β lo lo') (hhi : OVR β hi hi') (hmx : OVR β mx mx') :
    RSim I P β (Instr.sliceAt t x lo hi mx) (Instr.sliceAt t x' lo' hi' mx') VR := by
  unfold Instr.sliceAt
  refine RSim.under fun d hd => ?_
  have hd' : (∃ e, d = .slice e) ∨ d = .string := by
    rcases ht with ⟨e, he⟩ | he
    · rw [he] at hd; simp only [Option.some.injEq] at hd; exact .inl ⟨e, hd.symm⟩
    · rw [he] at hd; simp only [Option.some.injEq] at hd; exact .inr hd.symm
  have go : RSim I P β (Instr.slice t x lo hi mx) (Instr.slice t x' lo' hi' mx') VR := by
    unfold Instr.slice
    refine RSim.under fun d2 hd2 => ?_
    rw [hd] at hd2
    simp only [Option.some.injEq] at hd2
    subst hd2
    rcases hd' with ⟨e, rfl⟩ | rfl
    · cases hx with
      | nilSlice =>
        dsimp only
        refine RSim.bind (rsim_sliceBounds (Nat.le_refl _) hlo hhi hmx) fun β1 p q hle e => ?_
        obtain ⟨rfl, h1, h2, h3⟩ := e
        obtain ⟨l, h, m⟩ := p
        refine RSim.still (still_sizeOf _) fun s => RSim.pure fun β2 hle2 => ?_
        simp only at h1 h2 h3
        have hm : m = 0 := by omega
        have hh : h = 0 := by omega
        have hl : l = 0 := by omega
        subst hm; subst hh; subst hl
        exact .nilSlice
      | @slice b o len cap o' cap' bi hb hs =>
        have hcap : cap < OPEN := by
          rcases hc with ⟨a, l, c, e, hc⟩ | ⟨s, e⟩
          · simp only [Value.slice.injEq] at e
            obtain ⟨_, _, rfl⟩ := e
            exact hc
          · cases e
        rcases hs with ⟨_, rfl, hlen, ho⟩ | ⟨h1, _⟩ | ⟨h1, _⟩
        · dsimp only
          refine RSim.bind (rsim_sliceBounds hlen hlo hhi hmx) fun β1 p q hle e => ?_
          obtain ⟨rfl, h1, h2, h3⟩ := e
          obtain ⟨l, h, m⟩ := p
          simp only at h1 h2 h3
          refine RSim.still (still_sizeOf _) fun s => RSim.pure fun β2 hle2 => ?_
          simp only [Option.map_some, Addr.add_off]
          by_cases hml : m = l
          · rw [if_pos hml, if_pos hml]
            exact .slice (hle2 _ _ (hle _ _ hb)) (.inl ⟨by omega, rfl, by omega, .inr (by omega)⟩)
          · rw [if_neg hml, if_neg hml]
            exact .slice (hle2 _ _ (hle _ _ hb)) (.inl ⟨by omega, rfl, by omega, .inl (by omega)⟩)
        · omega
        · omega
      | _ => exact RSim.stuck
    · cases hx with
      | string s =>
        dsimp only
        cases mx with
        | some v => exact RSim.never (by simp only [Option.isSome_some, if_true]; exact never_left (never_halt _))
        | none =>
          cases mx' with
          | some _ => exact hmx.elim
          | none =>
            simp only [Option.isSome_none, Bool.false_eq_true, if_false]
            refine RSim.bind (rsim_sliceBounds (Nat.le_refl _) hlo hhi hmx) fun β1 p q hle e => ?_
            obtain ⟨rfl, _⟩ := e
            exact RSim.pure fun _ _ => VR.string _
      | _ => exact RSim.stuck
  rcases hd' with ⟨e, rfl⟩ | rfl
  · exact go
  · exact go

theorem rsim_findAsking {t : TypeId} (h : isInt P t = true) {k : Value} (hk : keyFit k = true) : ∀ {l m : List MapEntry}, ERL β l m → ∀ i,
    RSim I P β (Instr.findAsking t k l i) (Instr.findAsking t k m i) FR := by
  intro l
  induction l generalizing β with
  | nil =>
    intro m hl i
    cases m with
    | nil => exact RSim.pure fun _ _ => trivial
    | cons b m => exact hl.elim
  | cons a l ih =>
    intro m hl i
    cases m with
    | nil => exact hl.elim
    | cons b m =>
      unfold Instr.findAsking
      rw [← hl.1.key.1]
      refine RSim.bind (RSim.of_still (still_equalKey h hk hl.1.key.2) (D := fun _ x y => x = y) (fun _ _ => rfl)) fun β1 x y hle e => ?_
      subst e
      cases x with
      | true => exact RSim.pure fun β2 hle2 => ⟨rfl, (hl.1.val.mono hle).mono hle2⟩
      | false => exact ih (hl.2.mono hle) (i + 1)

theorem rsim_findKey {t : TypeId} (h : isInt P t = true) {k : Value} (hk : keyFit k = true) {es es' : Array MapEntry} (he : EAR β es es') :
    RSim I P β (Instr.findKey t k es.toList) (Instr.findKey t k es'.toList) (fun β r r' => FR β r r' ∧ ∀ j v, r = some (j, v) → ∃ e e', es[j]? = some e ∧ es'[j]? = some e' ∧ e.key = k ∧ e'.key = k) := by
  have hfit : ∀ e ∈ es.toList, keyFit e.key = true := by
    intro e hm
    obtain ⟨i, hi, rfl⟩ := List.getElem_of_mem hm
    obtain ⟨x', _, hx⟩ := he.get (i := i) (x := es.toList[i]) (by simp)
    exact hx.key.2
  have idx : ∀ {j : Nat} {e : MapEntry}, es.toList[j]? = some e → e.key = k → ∃ e1 e2, es[j]? = some e1 ∧ es'[j]? = some e2 ∧ e1.key = k ∧ e2.key = k := by
    intro j e h1 h2
    have h1' : es[j]? = some e := by simpa using h1
    obtain ⟨x', hx', hx⟩ := he.get h1'
    exact ⟨e, x', h1', hx', h2, hx.key.1 ▸ h2⟩
  unfold Instr.findKey
  refine RSim.under fun d hd => ?_
  rcases findNow_rel (k := k) d he.list 0 with ⟨h1, h2⟩ | ⟨r, r', h1, h2, h3⟩
  · rw [h1, h2]
    intro β1 σ w hle hR u σ' hu
    obtain ⟨g1, v', g2, g4⟩ := rsim_findAsking h hk he.list 0 β1 σ w hle hR u σ' hu
    refine ⟨g1, v', g2, g4, ?_⟩
    rintro j v rfl
    obtain ⟨e, _, q1, q2, _⟩ := findAsking_key h hk _ hfit 0 j v σ σ' hu
    exact idx (by simpa using q1) q2
  · rw [h1, h2]
    refine RSim.pure fun β1 hle => ⟨?_, ?_⟩
    · cases r with
      | none => cases r' <;> exact h3
      | some p => cases r' with
        | none => exact h3
        | some p' => exact ⟨h3.1, h3.2.mono hle⟩
    · rintro j v rfl
      obtain ⟨e, _, q1, q2, _⟩ := findNow_key d hk _ 0 j v h1
      exact idx (by simpa using q1) q2

end
section
variable {P : Program} {B : Nat} {w0 : Base} {β : Beta}
theorem rsim_load {a a' : Addr} (h : PR β a a') : RSim (R P B w0) P β (load a) (load a') VR := by
  intro β1 σ w hle hR u σ' hu
  obtain ⟨b, o, bi, e, rfl, rfl⟩ := h
  simp only [load, Sem.run] at hu ⊢
  cases hc : σ.cell? ⟨b, o, none⟩ with
  | none =>
    rw [hc] at hu
    obtain ⟨x, hx⟩ := farLoad_none hR ⟨b, o, none⟩ (Mode.plain == .atomic)
    simp only [hx] at hu
    cases hu
  | some v =>
    rw [hc] at hu
    simp only [Result.ok.injEq] at hu
    obtain ⟨rfl, rfl⟩ := hu
    obtain ⟨v', hv', hvr⟩ := hR.cell (hle _ _ e) hc
    exact ⟨rfl, v', by rw [hv'], hvr⟩

theorem rsim_loadCellsFrom {a a' : Addr} (h : PR β a a') : ∀ (n i : Nat) (acc acc' : Array Value), AR β acc acc' →
    RSim (R P B w0) P β (loadCellsFrom a i n acc) (loadCellsFrom a' i n acc') AR := by
  intro n
  induction n generalizing β with
  | zero => exact fun i acc acc' hacc => RSim.pure fun β1 hle => hacc.mono hle
  | succ n ih => exact fun i acc acc' hacc => RSim.bind (rsim_load (h.add i)) fun β1 v v' hle hv => ih (h.mono hle) _ _ _ ((hacc.mono hle).push hv)

theorem rsim_loadCells {a a' : Addr} (h : PR β a a') (n : Nat) : RSim (R P B w0) P β (loadCells a n) (loadCells a' n) AR :=
  rsim_loadCellsFrom h n 0 _ _ (AR.empty β)

theorem rsim_loadVar {a a' : Addr} (t : TypeId) (h : PR β a a') : RSim (R P B w0) P β (loadVar t a) (loadVar t a') VR := by
  unfold loadVar
  refine RSim.bind (RSim.of_still (still_isAgg t) (D := fun _ x y => x = y) (fun _ _ => rfl)) fun β1 x y hle hxy => ?_
  subst hxy
  cases x with
  | false => exact rsim_load (h.mono hle)
  | true =>
    simp only [if_true]
    refine RSim.bind (RSim.of_still (still_sizeOf t) (D := fun _ x y => x = y) (fun _ _ => rfl)) fun β2 n m hle2 hnm => ?_
    subst hnm
    refine RSim.bind (rsim_loadCells ((h.mono hle).mono hle2) n) fun β3 c c' hle3 hc => ?_
    exact RSim.pure fun β4 hle4 => let k := hc.mono hle4; .agg k.1 k.2

theorem rsim_loadAt {v v' : Value} (t : TypeId) (h : VR β v v') : RSim (R P B w0) P β (Instr.loadAt t v) (Instr.loadAt t v') VR :=
  RSim.bind (rsim_sureAddr h) fun _ _ _ _ hp => rsim_loadVar t hp

theorem rsim_getObj {b : Nat} {bi : BI} (hb : β b = some bi) : RSim (R P B w0) P β (getObj b) (getObj bi.r) (fun β o o' => OR β bi o o' ∧ wr o = true) := by
  intro β1 σ w hle hR u σ' hu
  have hb1 := hle _ _ hb
  simp only [getObj, Sem.run] at hu ⊢
  cases ho : σ.heap[b]? with
  | none => simp [ho] at hu
  | some o =>
    rw [ho] at hu
    cases o with
    | cells c e fz => simp at hu
    | _ =>
      simp only [Result.ok.injEq] at hu
      obtain ⟨rfl, rfl⟩ := hu
      obtain ⟨o', ho', hor⟩ := hR.obj _ _ _ ho hb1 rfl
      refine ⟨rfl, o', ?_, hor, rfl⟩
      rw [ho']
      cases hor <;> rfl

theorem rsim_getMap {b : Nat} {bi : BI} (hb : β b = some bi) {α α' : Type} {k : Array MapEntry → Nat → Sem α} {k' : Array MapEntry → Nat → Sem α'} {s : String} {A : Beta → α → α' → Prop}
    (h : ∀ β1 es es' c, β.le β1 → EAR β1 es es' → RSim (R P B w0) P β1 (k es c) (k' es' c) A) :
    RSim (R P B w0) P β (do match ← getObj b with | .map es c => k es c | _ => Go.stuck s) (do match ← getObj bi.r with | .map es c => k' es c | _ => Go.stuck s) A := by
  refine RSim.bind (rsim_getObj hb) fun β1 o o' hle ho => ?_
  obtain ⟨ho, _⟩ := ho
  cases ho with
  | map hs he => exact h β1 _ _ _ hle ⟨hs, he⟩
  | _ => exact RSim.stuck

theorem rsim_lookup {t : TypeId} (hz : elemOk P t = true) (hkt : keyTy P t = true) {x x' k k' : Value} (hx : VR β x x') (hk : VR β k k') (hkf : keyFit k = true) (ok : Bool) :
    RSim (R P B w0) P β (Instr.lookup t x k ok) (Instr.lookup t x' k' ok) VR := by
  obtain ⟨kt, et, hu, hki⟩ := keyTy_spec hkt
  have hkk : k = k' := by
    obtain ⟨a, b, rfl⟩ := keyFit_int hkf
    cases hk; rfl
  subst hkk
  unfold Instr.lookup
  refine RSim.under fun d hd => ?_
  rw [hu] at hd
  simp only [Option.some.injEq] at hd
  subst hd
  dsimp only
  have tail : ∀ {β1 : Beta} {es es' : Array MapEntry}, β.le β1 → EAR β1 es es' → RSim (R P B w0) P β1
      (do
        Instr.checkKey es.isEmpty 10000 kt k
        let (v, ok2) ← match ← Instr.findKey kt k es.toList with
          | some (_, v) => pure (v, true)
          | none => pure (← zeroValue et, false)
        pure (if ok then .tuple #[v, .bool ok2] else v))
      (do
        Instr.checkKey es'.isEmpty 10000 kt k
        let (v, ok2) ← match ← Instr.findKey kt k es'.toList with
          | some (_, v) => pure (v, true)
          | none => pure (← zeroValue et, false)
        pure (if ok then .tuple #[v, .bool ok2] else v)) VR := by
    intro β1 es es' hle he
    have hemp : es.isEmpty = es'.isEmpty := by simp [Array.isEmpty, he.1]
    rw [← hemp]
    refine RSim.bind (RSim.of_still (still_checkKey hki _ _ _ hkf) (D := fun _ x y => x = y) (fun _ _ => rfl)) fun β2 _ _ hle2 _ => ?_
    have fin : ∀ {β3 : Beta} {v v' : Value} (b : Bool), VR β3 v v' → VR β3 (if ok then .tuple #[v, .bool b] else v) (if ok then .tuple #[v', .bool b] else v') := by
      intro β3 v v' b hv
      cases ok with
      | true =>
        have := ((AR.empty β3).push hv).push (VR.bool b)
        exact .tuple this.1 this.2
      | false => exact hv
    refine RSim.bind (rsim_findKey hki hkf (he.mono hle2)) fun β3 r r' hle3 hr => ?_
    obtain ⟨hr, _⟩ := hr
    cases r with
    | none =>
      cases r' with
      | some _ => exact hr.elim
      | none => exact RSim.bind (rsim_zeroValue (elemOk_map hz hu)) fun β4 z z' hle4 hzz => RSim.pure fun β5 hle5 => fin false (hzz.mono hle5)
    | some p =>
      cases r' with
      | none => exact hr.elim
      | some p' =>
        obtain ⟨i, v⟩ := p
        obtain ⟨j, v'⟩ := p'
        exact RSim.pure fun β5 hle5 => fin true (hr.2.mono hle5)
  cases hx with
  | nilMap => exact tail (.refl _) ⟨rfl, fun i x x' e => by simp at e⟩
  | map hb => exact rsim_getMap hb fun β1 es es' c hle he => tail hle he
  | _ => exact RSim.stuck

theorem rsim_len {at_ : Array TypeId} {ty : TypeId} {args args' : Array Value} (ha : AR β args args') : RSim (R P B w0) P β (Builtin.len_ at_ ty args) (Builtin.len_ at_ ty args') VR := by
  unfold Builtin.len_
  cases ht : at_[0]? with
  | none => exact RSim.stuck
  | some t =>
    cases hx : args[0]? with
    | none => exact RSim.stuck
    | some x =>
      obtain ⟨x', hx', hxr⟩ := ha.get hx
      rw [hx']
      dsimp only
      refine RSim.under fun d hd => ?_
      cases d with
      | string => cases hxr <;> first | exact RSim.stuck | exact RSim.pure fun _ _ => .int _ _
      | array n e => exact RSim.pure fun _ _ => .int _ _
      | pointer e =>
        refine RSim.under fun d2 hd2 => ?_
        cases d2 <;> first | exact RSim.stuck | exact RSim.pure fun _ _ => .int _ _
      | slice e => cases hxr <;> first | exact RSim.stuck | exact RSim.pure fun _ _ => .int _ _
      | map k e =>
        cases hxr with
        | nilMap => exact RSim.pure fun _ _ => .int _ _
        | map hb =>
          refine rsim_getMap hb fun β1 es es' c hle he => ?_
          rw [he.1]
          exact RSim.pure fun _ _ => .int _ _
        | _ => exact RSim.stuck
      | chan c e =>
        cases hxr with
        | @tok b bi _ e hv =>
          intro β1 σ w hle hR u σ' hu
          exfalso
          simp only [Sem.run_bind, getObj, Sem.run] at hu
          cases ho : σ.heap[b]? with
          | none => simp [ho, Result.andThen] at hu
          | some o =>
            rw [ho] at hu
            cases o with
            | chan =>
              obtain ⟨o', _, hor⟩ := hR.obj _ _ _ ho (hle _ _ e) rfl
              cases hor
            | _ => simp [Result.andThen, Go.stuck, Sem.run] at hu
        | _ => exact RSim.stuck
      | _ => exact RSim.stuck

theorem rsim_entry {x x' : Value} (hx : VR β x x') : RSim (R P B w0) P β (Instr.entry x) (Instr.entry x') VR := by
  unfold Instr.entry
  cases hx with
  | @ptr b o bi hb =>
    cases o with
    | succ o => exact RSim.stuck
    | zero =>
      intro β1 σ w hle hR u σ' hu
      have hd0 : bi.d = 0 := by
        have hbr := (hR.dom _ _ (hle _ _ hb))
        cases ho : σ.heap[b]? with
        | none => simp [getObj, Sem.run, ho, Result.andThen] at hu
        | some o =>
          cases o with
          | mapIter m s1 s2 s3 =>
            obtain ⟨o', _, hor⟩ := hR.obj _ _ _ ho (hle _ _ hb) rfl
            cases hor <;> assumption
          | _ => simp [getObj, Sem.run, ho, Result.andThen, Go.stuck] at hu
      have key : RSim (R P B w0) P β1 (do
          let .mapIter (some m) _ seen stepped ← getObj b | Go.stuck "Entry: an iterator over a map that is not nil expected"
          let some stamp := seen.back? | Go.stuck "Entry: no step yet"
          let .map es clock ← getObj m | Go.stuck "Entry: map expected"
          if clock != stepped then Go.unsupported (.noEntry "instr/Entry: an insertion since the step")
          match es.find? (·.born == stamp) with
          | some e => pure (Value.tuple #[e.key, e.val])
          | none => Go.unsupported (.noEntry "instr/Entry.removed"))
        (do
          let .mapIter (some m) _ seen stepped ← getObj bi.r | Go.stuck "Entry: an iterator over a map that is not nil expected"
          let some stamp := seen.back? | Go.stuck "Entry: no step yet"
          let .map es clock ← getObj m | Go.stuck "Entry: map expected"
          if clock != stepped then Go.unsupported (.noEntry "instr/Entry: an insertion since the step")
          match es.find? (·.born == stamp) with
          | some e => pure (Value.tuple #[e.key, e.val])
          | none => Go.unsupported (.noEntry "instr/Entry.removed")) VR := by
        refine RSim.bind (rsim_getObj (hle _ _ hb)) fun β2 o o' hle2 ho => ?_
        obtain ⟨ho, _⟩ := ho
        cases ho with
        | mapIter hm since seen stepped h0 =>
          dsimp only
          cases hsb : seen.back? with
          | none => exact RSim.stuck
          | some stamp =>
            refine rsim_getMap hm fun β3 es es' c hle3 he => ?_
            split
            · exact RSim.never (never_left (never_halt _))
            · have hl := he.list
              rw [← Array.find?_toList, ← Array.find?_toList]
              rcases find_born _ hl with ⟨h1, h2⟩ | ⟨e, e', h1, h2, h3⟩
              · rw [h1]; exact RSim.unsupported
              · rw [h1, h2]
                exact RSim.pure fun β4 hle4 => (h3.mono hle4).tuple2
        | _ => exact RSim.stuck
      have := key β1 σ w (.refl _) hR u σ' hu
      have e0 : (0 + bi.d) = 0 := by omega
      rw [e0]
      exact this
  | nilPtr => exact RSim.stuck
  | _ => exact RSim.stuck

/-- A slice's first cells. -/
theorem rsim_firstCells {size n : Nat} {x x' : Value} (hx : VR β x x') (hn : ∀ a l c, x = .slice a l c → n ≤ l) :
    RSim (R P B w0) P β (Builtin.firstCells size n x) (Builtin.firstCells size n x') AR := by
  cases hx with
  | nilSlice => exact RSim.pure fun β1 _ => AR.empty β1
  | @slice b o len cap o' cap' bi hb hs =>
    have hl := hn _ _ _ rfl
    have zero : n = 0 → RSim (R P B w0) P β (Builtin.firstCells size n (.slice (some ⟨b, o, none⟩) len cap)) (Builtin.firstCells size n (.slice (some ⟨bi.r, o', none⟩) len cap')) AR := by
      rintro rfl
      simp only [Builtin.firstCells, Nat.zero_mul, loadCells, loadCellsFrom]
      exact RSim.pure fun β1 _ => AR.empty β1
    rcases hs with ⟨h1, h2, h3, h4 | h4⟩ | ⟨h1, h2, ⟨h3, _⟩ | ⟨h3, _⟩⟩ | ⟨_, h3, _⟩
    · subst h4; exact rsim_loadCells ⟨b, o, bi, hb, rfl, rfl⟩ _
    · exact zero (by omega)
    · subst h3; exact rsim_loadCells ⟨b, o, bi, hb, rfl, rfl⟩ _
    · exact zero (by omega)
    · subst h3; exact rsim_loadCells ⟨b, o, bi, hb, rfl, rfl⟩ _
  | string s =>
    refine RSim.pure fun β1 _ => ⟨rfl, fun i v v' e e' => ?_⟩
    rw [e] at e'
    simp only [Option.some.injEq] at e'
    subst e'
    simp only [Array.getElem?_map, Option.map_eq_some_iff] at e
    obtain ⟨b, _, rfl⟩ := e
    exact .int _ _
  | _ => exact RSim.stuck

theorem rd_isliceOpen {t elem : TypeId} (ht : P.underlying t = some (.slice elem)) {a : Addr} {len : Nat} {x' : Value} (hx : VR β (.slice (some a) len OPEN) x')
    {lo lo' hi hi' mx mx' : Option Value} (hlo : OVR β lo lo') (hhi : OVR β hi hi') (hmx : OVR β mx mx') :
    ∀ {σ w : World}, R P B w0 β σ w → ∀ {Q : Value × World → Prop}, (isliceOpen P elem a len lo hi mx σ).all Q → ∃ v v', (Instr.sliceAt t x' lo' hi' mx').run P w = .ok v' w ∧ VR β v v' ∧ Q (v, σ) := by
  cases hx with
  | @slice b o _ cap o' cap' bi hb hs =>
  rcases hs with ⟨h1, _⟩ | ⟨_, hes, hs⟩ | ⟨h1, _⟩
  · exact absurd h1 (Nat.lt_irrefl _)
  rotate_left
  · exact absurd h1 (Nat.lt_irrefl _)
  intro σ w hR Q hQ
  have hle := Beta.le.refl β
  unfold isliceOpen at hQ
  split at hQ
  · rename_i i l h c e hie hl hh hc
    split at hQ
    · rename_i hcond
      obtain ⟨rfl, _, hlh, hsz⟩ := hcond
      have hb1 := hle _ _ hb
      have hn : c.size = bi.n ∧ i.size = bi.es := by
        obtain ⟨ob, _, hor⟩ := hR.obj _ _ _ hc hb1 rfl
        refine ⟨?_, hR.esz _ _ _ _ _ hc rfl hb1 i hie⟩
        cases hor; assumption
      obtain ⟨hcn, hies⟩ := hn
      have hrun : ∀ {l h m : Nat}, (Instr.sliceBounds true len cap' lo' hi' mx').run P w = .ok (l, h, m) w →
          (Instr.sliceAt t (.slice (some ⟨bi.r, o', none⟩) len cap') lo' hi' mx').run P w = .ok (.slice (some (if m = l then ⟨bi.r, o', none⟩ else ⟨bi.r, o' + l * i.size, none⟩)) (h - l) (m - l)) w := by
        intro l h m hr
        unfold Instr.sliceAt Instr.slice
        simp only [Sem.run_bind, run_underlying' ht, Result.andThen, hr, run_sizeOf' hie, Sem.run_pure]
        simp only [Option.map_some, Addr.add_off]
        split <;> rfl
      split at hQ
      · -- no third index
        split at hQ
        · rename_i hhl
          have hmx' : mx' = none := by cases mx' <;> first | rfl | exact hmx.elim
          subst hmx'
          rcases hs with ⟨rfl, g1, g2, g3⟩ | ⟨rfl, rfl, g1⟩
          · have hr := run_sliceBounds (P := P) (isS := true) (cap := cap') hlo hhi hl hh hlh (by omega) w
            refine ⟨_, _, hrun hr, ?_, hQ⟩
            by_cases hcl : cap' = l
            · rw [if_pos hcl]
              refine .slice hb1 (.inr (.inl ⟨rfl, hes, .inr ⟨by omega, by omega, ?_⟩⟩))
              rw [hies, ← hcl]; exact g1
            · rw [if_neg hcl]
              have hmul : l * bi.es + (cap' - l) * bi.es = cap' * bi.es := by rw [← Nat.add_mul]; congr 1; omega
              refine .slice hb1 (.inr (.inl ⟨rfl, hes, .inl ⟨by simp only; omega, by simp only [hies]; omega, by omega, by simp only [hies]; omega⟩⟩))
          · have hr := run_sliceBounds (P := P) (isS := true) (cap := 0) hlo hhi hl hh hlh (by omega) w
            refine ⟨_, _, hrun hr, ?_, hQ⟩
            have hl0 : l = 0 := by omega
            rw [if_pos hl0.symm]
            refine .slice hb1 (.inr (.inl ⟨rfl, hes, .inr ⟨by omega, by omega, ?_⟩⟩))
            rw [hl0]; simpa using g1
        · exact hQ.elim
      · -- a third index
        rename_i k3 mi
        split at hQ
        · rename_i hm
          obtain ⟨h0, hhm, hmc, his, hmO⟩ := hm
          have hmx' : mx' = some (.int k3 mi) := by
            cases mx' with
            | none => exact hmx.elim
            | some v => cases hmx; rfl
          subst hmx'
          have hmcap : mi.toNat ≤ cap' := by
            rcases hs with ⟨rfl, g1, g2, g3⟩ | ⟨rfl, rfl, g1⟩
            · refine Nat.le_of_mul_le_mul_right (c := bi.es) ?_ hes
              simp only [hies] at hmc
              omega
            · simp only [hies] at hmc
              have : mi.toNat * bi.es = 0 := by omega
              rcases Nat.mul_eq_zero.1 this with h | h <;> omega
          have hr := run_sliceBounds3 (P := P) (isS := true) (cap := cap') (k3 := k3) hlo hhi hl hh his h0 rfl hlh hhm hmcap w
          refine ⟨_, _, hrun hr, ?_, hQ⟩
          by_cases hml : mi.toNat = l
          · rw [if_pos hml, if_pos hml]
            exact .slice hb1 (.inl ⟨by omega, rfl, by omega, .inr (by omega)⟩)
          · rw [if_neg hml, if_neg hml]
            refine .slice hb1 (.inl ⟨by omega, rfl, by omega, .inl ?_⟩)
            rcases hs with ⟨rfl, g1, g2, g3⟩ | ⟨rfl, rfl, g1⟩
            · simp only; omega
            · exfalso
              omega
        · exact hQ.elim
      · exact hQ.elim
    · exact hQ.elim
  · exact hQ.elim

end
end Go.Ideal
