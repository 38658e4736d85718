/-
  The operations that write nothing, side by side: the worlds stay as they are.
-/
import Derived.Test.YteljibbnpheekaaGreatIi
import Derived.Laws.CopyRow
namespace Go.Ideal
open Go
def RSim {α α' : Type} (I : Beta → World → World → Prop) (P : Program) (β : Beta) (s : Sem α) (s' : Sem α') (A : Beta → α → α' → Prop) : Prop :=
  ∀ β1 σ w, β.le β1 → I β1 σ w → ∀ v σ', s.run P σ = .ok v σ' → σ' = σ ∧ ∃ v', s'.run P w = .ok v' w ∧ A β1 v v'
section
variable {I : Beta → World → World → Prop} {P : Program} {β : Beta} {α α' γ γ' : Type} {A : Beta → α → α' → Prop} {C : Beta → γ → γ' → Prop}
theorem RSim.pure {v : α} {v' : α'} (h : ∀ β1, β.le β1 → A β1 v v') : RSim I P β (Pure.pure v) (Pure.pure v') A := by
  intro β1 σ w hle hR u σ' hu
  simp only [Sem.run_pure, Result.ok.injEq] at hu
  obtain ⟨rfl, rfl⟩ := hu
  exact ⟨rfl, v', by simp, h _ hle⟩
theorem RSim.bind {s : Sem α} {s' : Sem α'} {k : α → Sem γ} {k' : α' → Sem γ'} (h : RSim I P β s s' A)
    (hk : ∀ β1 v v', β.le β1 → A β1 v v' → RSim I P β1 (k v) (k' v') C) : RSim I P β (s >>= k) (s' >>= k') C := by
  intro β1 σ w hle hR u σ' hu
  rw [Sem.run_bind] at hu
  cases hs : s.run P σ with
  | halt x y => rw [hs] at hu; cases hu
  | ok v σ1 =>
    rw [hs] at hu
    obtain ⟨rfl, v', hs', hA⟩ := h β1 σ w hle hR v σ1 hs
    obtain ⟨rfl, u', hk', hC⟩ := hk β1 v v' hle hA β1 σ1 w (.refl _) hR u σ' hu
    exact ⟨rfl, u', by rw [Sem.run_bind, hs']; exact hk', hC⟩
theorem RSim.halt {x : Halt} {s' : Sem α'} : RSim I P β (.halt x : Sem α) s' A := by
  intro β1 σ w hle hR u σ' hu
  simp [Sem.run] at hu
theorem RSim.stuck {x : String} {s' : Sem α'} : RSim I P β (Go.stuck x : Sem α) s' A := RSim.halt
theorem RSim.unsupported {x : Unsupported} {s' : Sem α'} : RSim I P β (Go.unsupported x : Sem α) s' A := RSim.halt
theorem RSim.never {s : Sem α} {s' : Sem α'} (h : Never s P) : RSim I P β s s' A := fun _ σ _ _ _ v σ' hu => absurd hu (h σ v σ')
theorem RSim.le {s : Sem α} {s' : Sem α'} {β0 : Beta} (h : RSim I P β0 s s' A) (hle : β0.le β) : RSim I P β s s' A :=
  fun β1 σ w h1 hR v σ' hu => h β1 σ w (hle.trans h1) hR v σ' hu
theorem RSim.of_still {s : Sem α} (h : Still s P) {D : Beta → α → α → Prop} (hD : ∀ b v, D b v v) : RSim I P β s s D := by
  intro β1 σ w hle hR u σ' hu
  obtain ⟨rfl, hw⟩ := h σ w u σ' hu
  exact ⟨rfl, u, hw, hD _ _⟩
theorem RSim.still {s : Sem α} (hs : Still s P) {k : α → Sem γ} {k' : α → Sem γ'}
    (h : ∀ v, RSim I P β (k v) (k' v) C) : RSim I P β (s >>= k) (s >>= k') C :=
  RSim.bind (RSim.of_still hs (D := fun _ x y => x = y) (fun _ _ => rfl)) fun _ v v' hle e => by subst e; exact (h v).le hle
theorem RSim.of_stillP {s : Sem α} {Q : α → Prop} (h : StillP s P Q) : RSim I P β s s (fun _ x y => x = y ∧ Q x) := by
  intro β1 σ w hle hR u σ' hu
  obtain ⟨rfl, hw, hq⟩ := h σ w u σ' hu
  exact ⟨rfl, u, hw, rfl, hq⟩
theorem RSim.under {t : TypeId} {k : TypeDesc → Sem α} {k' : TypeDesc → Sem α'}
    (h : ∀ d, P.underlying t = some d → RSim I P β (k d) (k' d) A) : RSim I P β (underlying t >>= k) (underlying t >>= k') A := by
  refine RSim.bind (RSim.of_stillP (Q := fun d => P.underlying t = some d) ?_) fun β1 x y hle e => by obtain ⟨rfl, e⟩ := e; exact (h x e).le hle
  have := stillP_under (P := P) (t := t) (k := Pure.pure) (Q := fun d => P.underlying t = some d) fun d hd => stillP_pure hd
  simpa using this
theorem RSim.size {t : TypeId} {i : TypeInfo} (hi : P.info? t = some i) {k : Nat → Sem α} {k' : Nat → Sem α'} (h : RSim I P β (k i.size) (k' i.size) A) :
    RSim I P β (sizeOf t >>= k) (sizeOf t >>= k') A := by
  refine RSim.bind (RSim.of_stillP (Q := fun n => n = i.size) ?_) fun β1 x y hle e => by obtain ⟨rfl, rfl⟩ := e; exact h.le hle
  intro σ w v σ' hu
  rw [run_sizeOf' hi] at hu
  simp only [Result.ok.injEq] at hu
  obtain ⟨rfl, rfl⟩ := hu
  exact ⟨rfl, run_sizeOf' hi w, rfl⟩
end
section
variable {I : Beta → World → World → Prop} {P : Program} {β : Beta}
theorem rsim_zeroValue {t : TypeId} (hz : zeroOk P t = true) : RSim I P β (zeroValue t) (zeroValue t) VR := by
  intro β1 σ w hle hR u σ' hu
  obtain ⟨rfl, hw⟩ := still_zeroValue t σ w u σ' hu
  refine ⟨rfl, u, hw, ?_⟩
  unfold zeroValue typeInfo at hu
  cases hi : P.info? t with
  | none => simp [program, Sem.run, Go.stuck, hi, Result.andThen] at hu
  | some i =>
    cases hzz : i.zero with
    | none => simp [program, Sem.run, Go.unsupported, hi, hzz, Result.andThen] at hu
    | some z =>
      simp [program, Sem.run, hi, hzz, Result.andThen] at hu
      subst hu
      exact zero_self hz hi hzz β1
theorem rsim_sureAddr {v v' : Value} (h : VR β v v') : RSim I P β (Instr.sureAddr v) (Instr.sureAddr v') PR := by
  cases h with
  | ptr e => exact RSim.pure fun β1 hle => ⟨_, _, _, hle _ _ e, rfl, rfl⟩
  | _ => exact RSim.stuck
theorem rsim_part {c c' : Array Value} (t : TypeId) (n : Nat) (h : AR β c c') : RSim I P β (part t c n) (part t c' n) VR := by
  unfold part
  refine RSim.still (still_isAgg t) fun x => ?_
  cases x with
  | true =>
    simp only [if_true]
    refine RSim.still (still_sizeOf t) fun m => RSim.pure fun β1 hle => ?_
    have := (h.mono hle).extract n (n + m)
    exact .agg this.1 this.2
  | false =>
    simp only [Bool.false_eq_true, if_false]
    cases hc : c[n]? with
    | none => exact RSim.stuck
    | some v =>
      obtain ⟨v', h1, h2⟩ := h.get hc
      rw [h1]
      exact RSim.pure fun β1 hle => h2.mono hle
theorem rsim_asAgg {v v' : Value} (h : VR β v v') : RSim I P β (asAgg v) (asAgg v') AR := by
  cases h with
  | agg hs hc => exact RSim.pure fun β1 hle => AR.mono hle ⟨hs, hc⟩
  | _ => exact RSim.stuck
theorem rsim_field {v v' : Value} (t : TypeId) (f : Nat) (h : VR β v v') : RSim I P β (Instr.field t v f) (Instr.field t v' f) VR := by
  unfold Instr.field
  refine RSim.still (still_underlying t) fun d => ?_
  split
  · split
    · exact RSim.bind (rsim_asAgg h) fun _ _ _ _ hc => rsim_part _ _ hc
    · exact RSim.stuck
  · exact RSim.stuck
theorem rsim_extract {v v' : Value} (i : Nat) (h : VR β v v') : RSim I P β (Instr.extract v i) (Instr.extract v' i) VR := by
  unfold Instr.extract
  cases h with
  | @tuple c c' hs hc =>
    simp only
    cases hci : c[i]? with
    | none => exact RSim.stuck
    | some x =>
      obtain ⟨x', h1, h2⟩ := (show AR β c c' from ⟨hs, hc⟩).get hci
      rw [h1]
      exact RSim.pure fun β1 hle => h2.mono hle
  | _ => exact RSim.stuck
theorem rsim_makeInterface {v v' : Value} (t : TypeId) (h : VR β v v') : RSim I P β (Instr.makeInterface t v) (Instr.makeInterface t v') VR := by
  unfold Instr.makeInterface
  refine RSim.still (still_underlying t) fun d => ?_
  split
  · exact RSim.stuck
  · exact RSim.pure fun β1 hle => .iface t (h.mono hle)
theorem rsim_asIntOf {v v' : Value} (h : VR β v v') : RSim I P β (asIntOf v) (asIntOf v') (fun _ x y => x = y) := by
  cases h with
  | int k n => exact RSim.pure fun _ _ => rfl
  | ptr _ => exact RSim.unsupported
  | _ => exact RSim.stuck
theorem rsim_asBool {v v' : Value} (h : VR β v v') : RSim I P β (asBool v) (asBool v') (fun _ x y => x = y) := by
  cases h with
  | bool b => exact RSim.pure fun _ _ => rfl
  | _ => exact RSim.stuck
theorem rsim_fieldAt {v v' : Value} (s : TypeId) (f : Nat) (hf : fieldFit P s f = true) (h : VR β v v') : RSim I P β (Instr.fieldAt s v f) (Instr.fieldAt s v' f) VR := by
  obtain ⟨fields, fd, i, hu, hfd, hi, hpos⟩ := fieldFit_spec hf
  unfold Instr.fieldAt
  refine RSim.under fun d hd => ?_
  rw [hu] at hd
  simp only [Option.some.injEq] at hd
  subst hd
  simp only [hfd]
  refine RSim.bind (rsim_sureAddr h) fun β2 a a' hle2 hp => ?_
  refine RSim.bind (A := PR) ?_ fun β3 b b' hle3 hq => RSim.pure fun β4 hle4 => (hq.mono hle4).vr
  unfold fieldPlace
  refine RSim.size hi ?_
  rw [if_neg (by omega), if_neg (by omega)]
  exact RSim.pure fun β4 hle4 => (hp.mono hle4).add _
theorem rsim_build {t : TypeId} (hz : zeroOk P t = true) {parts parts' : Array (Nat × Value)} (hp : PartR β parts.toList parts'.toList) :
    RSim I P β (Instr.build t parts) (Instr.build t parts') VR := by
  unfold Instr.build
  refine RSim.bind (rsim_zeroValue hz) fun β1 z z' hle hzz => ?_
  refine RSim.still (still_underlying t) fun d => ?_
  split
  · refine RSim.still (still_mapM (fun f => still_bind (still_sizeOf _) fun _ => still_pure _) _) fun places => ?_
    have key := fill_rel (β := β1) (places[·]?) parts.toList parts'.toList z.cells z'.cells (hp.mono hle) hzz.cells
    split
    · rename_i cells hc
      obtain ⟨c', h1, h2⟩ := key _ hc
      rw [h1]
      exact RSim.pure fun β2 hle2 => let k := h2.mono hle2; .agg k.1 k.2
    · exact RSim.stuck
  · refine RSim.still (still_sizeOf _) fun size => ?_
    have key := fill_rel (β := β1) (fun i => some (i * size, size)) parts.toList parts'.toList z.cells z'.cells (hp.mono hle) hzz.cells
    split
    · rename_i cells hc
      obtain ⟨c', h1, h2⟩ := key _ hc
      rw [h1]
      exact RSim.pure fun β2 hle2 => let k := h2.mono hle2; .agg k.1 k.2
    · exact RSim.stuck
  · exact RSim.stuck
theorem rsim_indexAt {t : TypeId} {x x' i i' : Value} (hx : VR β x x') (hi : VR β i i') : RSim I P β (Instr.indexAt t x i) (Instr.indexAt t x' i') VR := by
  unfold Instr.indexAt
  refine RSim.bind (rsim_asIntOf hi) fun β1 p p' hle e => ?_
  subst e
  obtain ⟨k, n⟩ := p
  simp only
  have hx1 := hx.mono hle
  have tail : ∀ {β2 : Beta} (b b' : Option Addr) (l : Nat) (e : TypeId),
      ((b = none ∧ b' = none) ∨ ∃ a a', b = some a ∧ b' = some a' ∧ (PR β2 a a' ∨ l = 0)) →
      RSim I P β2 (do
          let tiny := decide (l ≤ 1) && (match ← underlying t with | .array .. => true | _ => false)
          match b with
          | some a =>
            if 0 ≤ n ∧ n < l then pure (.pointer (some (a.add (n.toNat * (← sizeOf e)))))
            else if tiny then Go.unsupported (.noEntry "op/indexAddr.an index out of range at an array of length 0 or 1 (ledger 616)")
            else boundsPanic k n l .index
          | none => boundsPanic k n 0 .index)
        (do
          let tiny := decide (l ≤ 1) && (match ← underlying t with | .array .. => true | _ => false)
          match b' with
          | some a =>
            if 0 ≤ n ∧ n < l then pure (.pointer (some (a.add (n.toNat * (← sizeOf e)))))
            else if tiny then Go.unsupported (.noEntry "op/indexAddr.an index out of range at an array of length 0 or 1 (ledger 616)")
            else boundsPanic k n l .index
          | none => boundsPanic k n 0 .index) VR := by
    intro β2 b b' l e hb
    refine RSim.under fun d2 hd2 => ?_
    rcases hb with ⟨rfl, rfl⟩ | ⟨a, a', rfl, rfl, hp⟩
    · exact RSim.never (never_boundsPanic _ _ _ _)
    · dsimp only
      by_cases hn : 0 ≤ n ∧ n < l
      · rw [if_pos hn, if_pos hn]
        have hp' : PR β2 a a' := hp.resolve_right (by omega)
        exact RSim.still (still_sizeOf _) fun s => RSim.pure fun β3 hle3 => ((hp'.mono hle3).add _).vr
      · rw [if_neg hn, if_neg hn]
        refine RSim.never ?_
        split <;> (split <;> first | exact never_halt _ | exact never_boundsPanic _ _ _ _)
  refine RSim.under fun d hd => ?_
  cases d with
  | array len elem =>
    simp only
    exact RSim.bind (rsim_sureAddr hx1) fun β2 a a' hle2 hp => tail (some a) (some a') len elem (.inr ⟨a, a', rfl, rfl, .inl hp⟩)
  | slice elem =>
    cases hx1 with
    | nilSlice => exact tail none none 0 elem (.inl ⟨rfl, rfl⟩)
    | @slice b o len cap o' cap' bi hb hs =>
      refine tail _ _ len elem (.inr ⟨_, _, rfl, rfl, ?_⟩)
      rcases hs with ⟨h1, h2, h3, h4 | h4⟩ | ⟨h1, h2, ⟨h3, _⟩ | ⟨h3, _⟩⟩ | ⟨_, h3, _⟩
      · subst h4; exact .inl ⟨b, o, bi, hb, rfl, rfl⟩
      · exact .inr (by omega)
      · subst h3; exact .inl ⟨b, o, bi, hb, rfl, rfl⟩
      · exact .inr h3
      · subst h3; exact .inl ⟨b, o, bi, hb, rfl, rfl⟩
    | _ => exact RSim.stuck
  | _ => exact RSim.stuck
theorem rsim_index {t : TypeId} {x x' i i' : Value} (hx : VR β x x') (hi : VR β i i') : RSim I P β (Instr.index t x i) (Instr.index t x' i') VR := by
  unfold Instr.index
  refine RSim.bind (rsim_asIntOf hi) fun β1 p p' hle e => ?_
  subst e
  obtain ⟨k, n⟩ := p
  simp only
  have hx1 := hx.mono hle
  refine RSim.under fun d hd => ?_
  cases d with
  | array len elem =>
    cases hx1 with
    | agg hs hc =>
      dsimp only
      split
      · exact RSim.still (still_sizeOf _) fun s => rsim_part _ _ ⟨hs, hc⟩
      · exact RSim.never (never_boundsPanic _ _ _ _)
    | _ => exact RSim.stuck
  | string =>
    cases hx1 with
    | string s =>
      dsimp only
      split
      · exact RSim.pure fun _ _ => .int _ _
      · exact RSim.never (never_boundsPanic _ _ _ _)
    | _ => exact RSim.stuck
  | _ => exact RSim.stuck
theorem rsim_nilEq {x x' y y' : Value} (t : TypeId) (d : Nat) (hx : VR β x x') (hy : VR β y y') (h : eqFit x y = true) (hb : ∀ c, x ≠ .agg c) :
    RSim I P β (Op.equalIn d t x y) (Op.equalIn d t x' y') (fun _ a b => a = b) := by
  cases d with
  | zero => exact RSim.halt
  | succ d =>
  unfold Op.equalIn
  refine RSim.under fun td htd => ?_
  cases hx with
  | bool a =>
    cases hy with
    | bool b => cases td <;> first | exact RSim.halt | exact RSim.pure fun _ _ => rfl
    | _ => simp [eqFit] at h
  | nilPtr =>
    cases hy with
    | nilPtr => cases td <;> first | exact RSim.halt | exact RSim.pure fun _ _ => rfl
    | ptr e => cases td <;> first | exact RSim.halt | exact RSim.pure fun _ _ => rfl
    | _ => simp [eqFit] at h
  | ptr e =>
    cases hy with
    | nilPtr => cases td <;> first | exact RSim.halt | exact RSim.pure fun _ _ => rfl
    | _ => simp [eqFit] at h
  | nilSlice =>
    cases hy with
    | nilSlice => cases td <;> first | exact RSim.halt | exact RSim.pure fun _ _ => rfl
    | slice e hs => cases td <;> first | exact RSim.halt | exact RSim.pure fun _ _ => rfl
    | _ => simp [eqFit] at h
  | slice e hs =>
    cases hy with
    | nilSlice => cases td <;> first | exact RSim.halt | exact RSim.pure fun _ _ => rfl
    | _ => simp [eqFit] at h
  | nilMap =>
    cases hy with
    | nilMap => cases td <;> first | exact RSim.halt | exact RSim.pure fun _ _ => rfl
    | map e => cases td <;> first | exact RSim.halt | exact RSim.pure fun _ _ => rfl
    | _ => simp [eqFit] at h
  | map e =>
    cases hy with
    | nilMap => cases td <;> first | exact RSim.halt | exact RSim.pure fun _ _ => rfl
    | _ => simp [eqFit] at h
  | nilFunc =>
    cases hy with
    | nilFunc => cases td <;> first | exact RSim.halt | exact RSim.pure fun _ _ => rfl
    | func hf hs hc => cases td <;> first | exact RSim.halt | exact RSim.pure fun _ _ => rfl
    | _ => simp [eqFit] at h
  | func hf hs hc =>
    cases hy with
    | nilFunc => cases td <;> first | exact RSim.halt | exact RSim.pure fun _ _ => rfl
    | _ => simp [eqFit] at h
  | agg hs hc => exact absurd rfl (hb _)
  | _ => simp [eqFit] at h
theorem rsim_ifaceEq {x x' y y' : Value} (t : TypeId) (d : Nat) (hx : VR β x x') (hy : VR β y y') (h : (x = .nilIface ∧ ∃ u v, y = .iface u v) ∨ (y = .nilIface ∧ ∃ u v, x = .iface u v)) :
    RSim I P β (Op.equalIn d t x y) (Op.equalIn d t x' y') (fun _ a b => a = b) := by
  cases d with
  | zero => exact RSim.halt
  | succ d =>
  unfold Op.equalIn
  refine RSim.under fun td htd => ?_
  rcases h with ⟨rfl, u, v, rfl⟩ | ⟨rfl, u, v, rfl⟩
  · cases hx; cases hy
    cases td <;> first | exact RSim.halt | exact RSim.pure fun _ _ => rfl
  · cases hx; cases hy
    cases td <;> first | exact RSim.halt | exact RSim.pure fun _ _ => rfl
theorem rsim_binOp {op : BinOp} {t : TypeId} (o1 o2 : Operand) {x x' y y' : Value} (hx : VR β x x') (hy : VR β y y') (h : binFit P op t x y = true) :
    RSim I P β (do eqGuard op t o1 o2 x y; binOp op t x y) (do eqGuard op t o1 o2 x' y'; binOp op t x' y') VR := by
  have same : ∀ {s : Sem Value}, Still s P → (∀ b σ v σ', s.run P σ = .ok v σ' → VR b v v) → RSim I P β s s VR := fun hs hv => by
    intro β1 σ w hle hR u σ' hu
    obtain ⟨rfl, hw⟩ := hs σ w u σ' hu
    exact ⟨rfl, u, hw, hv _ _ _ _ hu⟩
  have isInt : ∀ (op : BinOp) (j k : IntKind) (a b : Int) (b1 : Beta) (σ : World) (v : Value) (σ' : World), (binOp op t (.int j a) (.int k b)).run P σ = .ok v σ' → VR b1 v v := by
    intro op j k a b b1 σ v σ' hr
    have key : (∃ k n, v = .int k n) ∨ ∃ c, v = .bool c := by
      unfold binOp at hr
      cases op <;> simp only at hr <;> (try (split at hr)) <;>
        first
          | (simp [Go.stuck] at hr; done)
          | (unfold Op.shift at hr; split at hr
             · exact absurd hr (never_runtimePanic _ _ _ _)
             · simp [Sem.run_pure] at hr; exact .inl ⟨_, _, hr.1.symm⟩)
          | (unfold Op.intArith at hr; simp [Sem.run_pure] at hr; exact .inl ⟨_, _, hr.1.symm⟩)
          | (unfold Op.intDiv at hr; split at hr
             · exact absurd hr (never_runtimePanic _ _ _ _)
             · simp [Sem.run_pure] at hr; exact .inl ⟨_, _, hr.1.symm⟩)
          | (unfold Op.intBits at hr; simp [Sem.run_pure] at hr; exact .inl ⟨_, _, hr.1.symm⟩)
          | (unfold Op.intCmp at hr; simp [Sem.run_pure] at hr; exact .inr ⟨_, hr.1.symm⟩)
    rcases key with ⟨k, n, rfl⟩ | ⟨c, rfl⟩
    · exact .int k n
    · exact .bool c
  have isStr : ∀ (op : BinOp) (a b : ByteArray) (b1 : Beta) (σ : World) (v : Value) (σ' : World), (binOp op t (.string a) (.string b)).run P σ = .ok v σ' → VR b1 v v := by
    intro op a b b1 σ v σ' hr
    have key : (∃ s, v = .string s) ∨ ∃ c, v = .bool c := by
      unfold binOp at hr
      cases op <;> (simp only at hr; unfold Op.stringOp at hr; simp only at hr) <;>
        first
          | (simp [Go.stuck] at hr; done)
          | (simp [Sem.run_pure] at hr; exact .inr ⟨_, hr.1.symm⟩)
          | (split at hr
             · simp [Go.unsupported] at hr
             · simp [Sem.run_pure] at hr; exact .inl ⟨_, hr.1.symm⟩)
    rcases key with ⟨s, rfl⟩ | ⟨c, rfl⟩
    · exact .string s
    · exact .bool c
  have eqs : eqTy P 5 t = true → eqFit x y = true → (op = .eql ∨ op = .neq) → RSim I P β (do eqGuard op t o1 o2 x y; binOp op t x y) (do eqGuard op t o1 o2 x' y'; binOp op t x' y') VR := by
    intro ht hfit hop
    by_cases hagg : ∃ c d, x = .agg c ∧ y = .agg d
    · obtain ⟨c, d, rfl, rfl⟩ := hagg
      have hg : ground (.agg c) = true ∧ ground (.agg d) = true := by simpa [eqFit] using hfit
      have e1 := VR.ground 4 hx hg.1
      have e2 := VR.ground 4 hy hg.2
      subst e1; subst e2
      refine RSim.bind (RSim.of_still (still_eqGuard _ _ _ _ _ _ (.inl ht)) (D := fun _ x y => x = y) (fun _ _ => rfl)) fun β1 _ _ hle _ => ?_
      have he : RSim I P β1 (Op.equal t (.agg c) (.agg d)) (Op.equal t (.agg c) (.agg d)) (fun _ a b => a = b) :=
        RSim.of_still (still_equalIn _ 5 t _ _ 3 ht hg.1 hg.2) fun _ _ => rfl
      rcases hop with rfl | rfl
      · exact RSim.bind he fun _ a b _ e => by subst e; exact RSim.pure fun _ _ => .bool _
      · exact RSim.bind he fun _ a b _ e => by subst e; exact RSim.pure fun _ _ => .bool _
    · have hxa : ∀ c, x ≠ .agg c := fun c hc => by
        subst hc
        cases y <;> simp [eqFit] at hfit
        exact hagg ⟨_, _, rfl, rfl⟩
      have hxn : x ≠ .nilIface := fun hc => by subst hc; simp [eqFit] at hfit
      have hx'a : ∀ c, x' ≠ .agg c := fun c hc => by
        subst hc
        cases hx with
        | tok e hv => obtain ⟨n, hn⟩ := tokVal_cases _; rw [hn] at hv; cases hv
        | agg _ _ => exact hxa _ rfl
      have hx'n : x' ≠ .nilIface := fun hc => by
        subst hc
        cases hx with
        | tok e hv => obtain ⟨n, hn⟩ := tokVal_cases _; rw [hn] at hv; cases hv
        | nilIface => exact hxn rfl
      rw [eqGuard_none _ _ _ _ _ _ hxa hxn, eqGuard_none _ _ _ _ _ _ hx'a hx'n]
      have he := rsim_nilEq (I := I) (P := P) t Op.maxDepth hx hy hfit hxa
      refine RSim.bind (RSim.pure (A := fun _ _ _ => True) fun _ _ => trivial) fun β1 _ _ hle _ => ?_
      have he1 := he.le hle
      have shape1 : ∀ {u v : Value}, eqFit u v = true → binOp .eql t u v = (do pure (.bool (← Op.equal t u v))) := by
        intro u v huv
        unfold binOp
        cases u <;> cases v <;> first | rfl | simp [eqFit] at huv
      have shape2 : ∀ {u v : Value}, eqFit u v = true → binOp .neq t u v = (do pure (.bool (!(← Op.equal t u v)))) := by
        intro u v huv
        unfold binOp
        cases u <;> cases v <;> first | rfl | simp [eqFit] at huv
      have hfit' : eqFit x' y' = true := by
        cases hx <;> cases hy <;> first | rfl | (simp [eqFit] at hfit; done) | (simp_all [eqFit]; done)
      rcases hop with rfl | rfl
      · rw [shape1 hfit, shape1 hfit']
        exact RSim.bind he1 fun _ a b _ e => by subst e; exact RSim.pure fun _ _ => .bool _
      · rw [shape2 hfit, shape2 hfit']
        exact RSim.bind he1 fun _ a b _ e => by subst e; exact RSim.pure fun _ _ => .bool _
  unfold binFit at h
  split at h
  · cases hx; cases hy
    refine same (still_bind (still_eqGuard _ _ _ _ _ _ (.inr ⟨(fun _ e => by cases e), (fun e => by cases e)⟩)) fun _ => still_binInt _ _ _ _ _ _) fun b σ v σ' hr => ?_
    rw [eqGuard_none _ _ _ _ _ _ (fun _ e => by cases e) (fun e => by cases e)] at hr
    exact isInt _ _ _ _ _ _ _ _ _ (by simpa [Sem.run_bind, Result.andThen] using hr)
  · cases hx; cases hy
    refine same (still_bind (still_eqGuard _ _ _ _ _ _ (.inr ⟨(fun _ e => by cases e), (fun e => by cases e)⟩)) fun _ => still_binString _ _ _ _) fun b σ v σ' hr => ?_
    rw [eqGuard_none _ _ _ _ _ _ (fun _ e => by cases e) (fun e => by cases e)] at hr
    exact isStr _ _ _ _ _ _ _ (by simpa [Sem.run_bind, Result.andThen] using hr)
  · rename_i u v
    obtain ⟨v', rfl⟩ : ∃ v', y' = .iface u v' := by cases hy; exact ⟨_, rfl⟩
    have he := rsim_ifaceEq (P := P) (I := I) t Op.maxDepth hx hy (.inl ⟨rfl, _, _, rfl⟩)
    cases hx
    have e : ∀ v, (do eqGuard op t o1 o2 .nilIface (.iface u v); binOp op t .nilIface (.iface u v) : Sem Value) = binOp op t .nilIface (.iface u v) := fun v => by
      unfold eqGuard
      cases op <;> rfl
    rw [e, e]
    cases op <;> simp at h
    · exact RSim.bind he fun _ a b _ e => by subst e; exact RSim.pure fun _ _ => .bool _
    · exact RSim.bind he fun _ a b _ e => by subst e; exact RSim.pure fun _ _ => .bool _
  · rename_i u v
    obtain ⟨v', rfl⟩ : ∃ v', x' = .iface u v' := by cases hx; exact ⟨_, rfl⟩
    have he := rsim_ifaceEq (P := P) (I := I) t Op.maxDepth hx hy (.inr ⟨rfl, _, _, rfl⟩)
    cases hy
    have e : ∀ v, (do eqGuard op t o1 o2 (.iface u v) .nilIface; binOp op t (.iface u v) .nilIface : Sem Value) = binOp op t (.iface u v) .nilIface := fun v => by
      unfold eqGuard
      cases op <;> rfl
    rw [e, e]
    cases op <;> simp at h
    · exact RSim.bind he fun _ a b _ e => by subst e; exact RSim.pure fun _ _ => .bool _
    · exact RSim.bind he fun _ a b _ e => by subst e; exact RSim.pure fun _ _ => .bool _
  · simp only [Bool.and_eq_true] at h
    obtain ⟨⟨hop, ht⟩, hfit⟩ := h
    refine eqs ht hfit ?_
    cases op <;> simp at hop <;> first | exact .inl rfl | exact .inr rfl
theorem rsim_unary {op : UnOp} {x x' : Value} (hx : VR β x x') (hf : unFit x = true) : RSim I P β (Op.unary op x) (Op.unary op x') VR := by
  cases hx with
  | int k n => cases op <;> first | exact RSim.stuck | exact RSim.pure fun _ _ => VR.int _ _
  | bool b => cases op <;> first | exact RSim.stuck | exact RSim.pure fun _ _ => VR.bool _
  | _ => simp [unFit] at hf
theorem rsim_convert {s d : TypeId} {k : IntKind} {n : Int} (hd : isInt P d = true) : RSim I P β (convert s d (.int k n)) (convert s d (.int k n)) VR := by
  obtain ⟨kk, hk⟩ := isInt_spec hd
  unfold convert
  refine RSim.under fun ds hds => RSim.under fun dd hdd => ?_
  rw [hk] at hdd
  simp only [Option.some.injEq] at hdd
  subst hdd
  cases ds <;> exact RSim.pure fun _ _ => VR.int _ _
theorem rsim_fold {f : Value → Value → Sem Value} (hf : ∀ k a j b, ∃ c, f (.int k a) (.int j b) = Pure.pure (.int k c)) : ∀ (l m : List Value) (x x' : Value), LR β l m → VR β x x' → keyFit x = true → (∀ y ∈ l, keyFit y = true) →
    RSim I P β (l.foldlM f x) (m.foldlM f x') VR := by
  intro l
  induction l with
  | nil =>
    intro m x x' hl hx hk _
    cases m with
    | nil => exact RSim.pure fun β1 hle => hx.mono hle
    | cons b m => exact hl.elim
  | cons a l ih =>
    intro m x x' hl hx hk hall
    cases m with
    | nil => exact hl.elim
    | cons b m =>
      obtain ⟨k, n, rfl⟩ := keyFit_int hk
      obtain ⟨j, i, rfl⟩ := keyFit_int (hall a (by simp))
      cases hx
      have hb := hl.1
      cases hb
      obtain ⟨c, hc⟩ := hf k n j i
      rw [List.foldlM_cons, List.foldlM_cons, hc]
      simp only [pure_bind]
      exact ih m _ _ hl.2 (.int k c) rfl (fun y hy => hall y (by simp [hy]))
theorem rsim_max {at_ : Array TypeId} {ty : TypeId} {args args' : Array Value} (ha : AR β args args') (hk : ∀ y ∈ args.toList, keyFit y = true) : RSim I P β (Builtin.max_ at_ ty args) (Builtin.max_ at_ ty args') VR := by
  unfold Builtin.max_
  have hl := ha.lr
  revert hl hk
  cases args.toList with
  | nil => intro hk hl; exact RSim.stuck
  | cons a l =>
    cases args'.toList with
    | nil => intro hk hl; exact hl.elim
    | cons b m => intro hk hl; exact rsim_fold (fun k a j b => ⟨_, rfl⟩) l m a b hl.2 hl.1 (hk a (by simp)) (fun y hy => hk y (by simp [hy]))
theorem rsim_min {at_ : Array TypeId} {ty : TypeId} {args args' : Array Value} (ha : AR β args args') (hk : ∀ y ∈ args.toList, keyFit y = true) : RSim I P β (Builtin.min_ at_ ty args) (Builtin.min_ at_ ty args') VR := by
  unfold Builtin.min_
  have hl := ha.lr
  revert hl hk
  cases args.toList with
  | nil => intro hk hl; exact RSim.stuck
  | cons a l =>
    cases args'.toList with
    | nil => intro hk hl; exact hl.elim
    | cons b m => intro hk hl; exact rsim_fold (fun k a j b => ⟨_, rfl⟩) l m a b hl.2 hl.1 (hk a (by simp)) (fun y hy => hk y (by simp [hy]))
theorem rsim_bound {x x' : Value} (h : VR β x x') (y : Nat) (c : BoundsCode) : RSim I P β (Instr.sliceBound x y c) (Instr.sliceBound x' y c) (fun _ a b => a = b ∧ a ≤ y) := by
  cases h with
  | int k n =>
    intro β1 σ w hle hR u σ' hu
    obtain ⟨rfl, h2, h3⟩ := stillP_bound (.int k n) y c (fun a h => by cases h) σ w u σ' hu
    exact ⟨rfl, u, h2, rfl, h3⟩
  | ptr _ => exact RSim.never (never_left (never_halt _))
  | _ => exact RSim.never (never_left (never_halt _))
theorem rsim_sliceBounds {isS : Bool} {len cap : Nat} (hlc : len ≤ cap) {lo lo' hi hi' mx mx' : Option Value} (hlo : OVR β lo lo') (hhi : OVR β hi hi') (hmx : OVR β mx mx') :
    RSim I P β (Instr.sliceBounds isS len cap lo hi mx) (Instr.sliceBounds isS len cap lo' hi' mx') (fun _ a b => a = b ∧ a.1 ≤ a.2.1 ∧ a.2.1 ≤ a.2.2 ∧ a.2.2 ≤ cap) := by
  unfold Instr.sliceBounds
  have last : ∀ {β1 : Beta} (h m : Nat) (s : Bool), h ≤ m → m ≤ cap → β.le β1 → RSim I P β1
      (do
        let l ← match lo with
          | some v => Instr.sliceBound v h (if s then .slice3C else .sliceB)
          | none => pure 0
        pure (l, h, m))
      (do
        let l ← match lo' with
          | some v => Instr.sliceBound v h (if s then .slice3C else .sliceB)
          | none => pure 0
        pure (l, h, m)) (fun _ a b => a = b ∧ a.1 ≤ a.2.1 ∧ a.2.1 ≤ a.2.2 ∧ a.2.2 ≤ cap) := by
    intro β1 h m s hhm hmc hle
    cases lo with
    | none =>
      cases lo' with
      | some _ => exact hlo.elim
      | none => exact RSim.pure fun _ _ => ⟨rfl, Nat.zero_le _, hhm, hmc⟩
    | some v =>
      cases lo' with
      | none => exact hlo.elim
      | some v' =>
        refine RSim.bind (rsim_bound (VR.mono hle hlo) h _) fun β2 a b hle2 e => ?_
        obtain ⟨rfl, e⟩ := e
        exact RSim.pure fun _ _ => ⟨rfl, e, hhm, hmc⟩
  cases mx with
  | none =>
    cases mx' with
    | some _ => exact hmx.elim
    | none =>
      refine RSim.bind (RSim.pure (A := fun _ a b => a = b ∧ a = cap) (v := cap) (v' := cap) fun _ _ => ⟨rfl, rfl⟩) fun β0 m m' hle0 e => ?_
      obtain ⟨rfl, rfl⟩ := e
      cases hi with
      | none =>
        cases hi' with
        | some _ => exact hhi.elim
        | none =>
          refine RSim.bind (RSim.pure (A := fun _ a b => a = b ∧ a = len) (v := len) (v' := len) fun _ _ => ⟨rfl, rfl⟩) fun β1 h h' hle1 e => ?_
          obtain ⟨rfl, rfl⟩ := e
          exact last _ _ _ hlc (Nat.le_refl _) (hle0.trans hle1)
      | some v =>
        cases hi' with
        | none => exact hhi.elim
        | some v' =>
          refine RSim.bind (rsim_bound (VR.mono hle0 hhi) _ _) fun β2 a b hle2 e => ?_
          obtain ⟨rfl, e⟩ := e
          exact last a _ _ e (Nat.le_refl _) (hle0.trans hle2)
  | some mv =>
    cases mx' with
    | none => exact hmx.elim
    | some mv' =>
      dsimp only
      refine RSim.bind (rsim_bound hmx cap _) fun β1 m m' hle1 e => ?_
      obtain ⟨rfl, em⟩ := e
      cases hi with
      | none =>
        cases hi' with
        | some _ => exact hhi.elim
        | none => exact RSim.stuck
      | some v =>
        cases hi' with
        | none => exact hhi.elim
        | some v' =>
          refine RSim.bind (rsim_bound (VR.mono hle1 hhi) m _) fun β2 a b hle2 e => ?_
          obtain ⟨rfl, e⟩ := e
          exact last a m _ e em (hle1.trans hle2)
theorem rsim_sliceAt {t : TypeId} {x x' : Value} (hx : VR β x x') (hc : (∃ a l c, x = .slice a l c ∧ c < OPEN) ∨ ∃ s, x = .string s) (ht : (∃ e, P.underlying t = some (.slice e)) ∨ P.underlying t = some .string)
    {lo lo' hi hi' mx mx' : Option Value} (hlo : OVR β lo lo') (hhi : OVR β hi hi') (hmx : OVR β mx mx') :
    RSim I P β (Instr.sliceAt t x lo hi mx) (Instr.sliceAt t x' lo' hi' mx') VR := by
  unfold Instr.sliceAt
  refine RSim.under fun d hd => ?_
  have hd' : (∃ e, d = .slice e) ∨ d = .string := by
    rcases ht with ⟨e, he⟩ | he
    · rw [he] at hd; simp only [Option.some.injEq] at hd; exact .inl ⟨e, hd.symm⟩
    · rw [he] at hd; simp only [Option.some.injEq] at hd; exact .inr hd.symm
  have go : RSim I P β (Instr.slice t x lo hi mx) (Instr.slice t x' lo' hi' mx') VR := by
    unfold Instr.slice
    refine RSim.under fun d2 hd2 => ?_
    rw [hd] at hd2
    simp only [Option.some.injEq] at hd2
    subst hd2
    rcases hd' with ⟨e, rfl⟩ | rfl
    · cases hx with
      | nilSlice =>
        dsimp only
        refine RSim.bind (rsim_sliceBounds (Nat.le_refl _) hlo hhi hmx) fun β1 p q hle e => ?_
        obtain ⟨rfl, h1, h2, h3⟩ := e
        obtain ⟨l, h, m⟩ := p
        refine RSim.still (still_sizeOf _) fun s => RSim.pure fun β2 hle2 => ?_
        simp only at h1 h2 h3
        have hm : m = 0 := by omega
        have hh : h = 0 := by omega
        have hl : l = 0 := by omega
        subst hm; subst hh; subst hl
        exact .nilSlice
      | @slice b o len cap o' cap' bi hb hs =>
        have hcap : cap < OPEN := by
          rcases hc with ⟨a, l, c, e, hc⟩ | ⟨s, e⟩
          · simp only [Value.slice.injEq] at e
            obtain ⟨_, _, rfl⟩ := e
            exact hc
          · cases e
        rcases hs with ⟨_, rfl, hlen, ho⟩ | ⟨h1, _⟩ | ⟨h1, _⟩
        · dsimp only
          refine RSim.bind (rsim_sliceBounds hlen hlo hhi hmx) fun β1 p q hle e => ?_
          obtain ⟨rfl, h1, h2, h3⟩ := e
          obtain ⟨l, h, m⟩ := p
          simp only at h1 h2 h3
          refine RSim.still (still_sizeOf _) fun s => RSim.pure fun β2 hle2 => ?_
          simp only [Option.map_some, Addr.add_off]
          by_cases hml : m = l
          · rw [if_pos hml, if_pos hml]
            exact .slice (hle2 _ _ (hle _ _ hb)) (.inl ⟨by omega, rfl, by omega, .inr (by omega)⟩)
          · rw [if_neg hml, if_neg hml]
            exact .slice (hle2 _ _ (hle _ _ hb)) (.inl ⟨by omega, rfl, by omega, .inl (by omega)⟩)
        · omega
        · omega
      | _ => exact RSim.stuck
    · cases hx with
      | string s =>
        dsimp only
        cases mx with
        | some v => exact RSim.never (by simp only [Option.isSome_some, if_true]; exact never_left (never_halt _))
        | none =>
          cases mx' with
          | some _ => exact hmx.elim
          | none =>
            simp only [Option.isSome_none, Bool.false_eq_true, if_false]
            refine RSim.bind (rsim_sliceBounds (Nat.le_refl _) hlo hhi hmx) fun β1 p q hle e => ?_
            obtain ⟨rfl, _⟩ := e
            exact RSim.pure fun _ _ => VR.string _
      | _ => exact RSim.stuck
  rcases hd' with ⟨e, rfl⟩ | rfl
  · exact go
  · exact go
theorem rsim_findAsking {t : TypeId} (h : isInt P t = true) {k : Value} (hk : keyFit k = true) : ∀ {l m : List MapEntry}, ERL β l m → ∀ i,
    RSim I P β (Instr.findAsking t k l i) (Instr.findAsking t k m i) FR := by
  intro l
  induction l generalizing β with
  | nil =>
    intro m hl i
    cases m with
    | nil => exact RSim.pure fun _ _ => trivial
    | cons b m => exact hl.elim
  | cons a l ih =>
    intro m hl i
    cases m with
    | nil => exact hl.elim
    | cons b m =>
      unfold Instr.findAsking
      rw [← hl.1.key.1]
      refine RSim.bind (RSim.of_still (still_equalKey h hk hl.1.key.2) (D := fun _ x y => x = y) (fun _ _ => rfl)) fun β1 x y hle e => ?_
      subst e
      cases x with
      | true => exact RSim.pure fun β2 hle2 => ⟨rfl, (hl.1.val.mono hle).mono hle2⟩
      | false => exact ih (hl.2.mono hle) (i + 1)
theorem rsim_findKey {t : TypeId} (h : isInt P t = true) {k : Value} (hk : keyFit k = true) {es es' : Array MapEntry} (he : EAR β es es') :
    RSim I P β (Instr.findKey t k es.toList) (Instr.findKey t k es'.toList) (fun β r r' => FR β r r' ∧ ∀ j v, r = some (j, v) → ∃ e e', es[j]? = some e ∧ es'[j]? = some e' ∧ e.key = k ∧ e'.key = k) := by
  have hfit : ∀ e ∈ es.toList, keyFit e.key = true := by
    intro e hm
    obtain ⟨i, hi, rfl⟩ := List.getElem_of_mem hm
    obtain ⟨x', _, hx⟩ := he.get (i := i) (x := es.toList[i]) (by simp)
    exact hx.key.2
  have idx : ∀ {j : Nat} {e : MapEntry}, es.toList[j]? = some e → e.key = k → ∃ e1 e2, es[j]? = some e1 ∧ es'[j]? = some e2 ∧ e1.key = k ∧ e2.key = k := by
    intro j e h1 h2
    have h1' : es[j]? = some e := by simpa using h1
    obtain ⟨x', hx', hx⟩ := he.get h1'
    exact ⟨e, x', h1', hx', h2, hx.key.1 ▸ h2⟩
  unfold Instr.findKey
  refine RSim.under fun d hd => ?_
  rcases findNow_rel (k := k) d he.list 0 with ⟨h1, h2⟩ | ⟨r, r', h1, h2, h3⟩
  · rw [h1, h2]
    intro β1 σ w hle hR u σ' hu
    obtain ⟨g1, v', g2, g4⟩ := rsim_findAsking h hk he.list 0 β1 σ w hle hR u σ' hu
    refine ⟨g1, v', g2, g4, ?_⟩
    rintro j v rfl
    obtain ⟨e, _, q1, q2, _⟩ := findAsking_key h hk _ hfit 0 j v σ σ' hu
    exact idx (by simpa using q1) q2
  · rw [h1, h2]
    refine RSim.pure fun β1 hle => ⟨?_, ?_⟩
    · cases r with
      | none => cases r' <;> exact h3
      | some p => cases r' with
        | none => exact h3
        | some p' => exact ⟨h3.1, h3.2.mono hle⟩
    · rintro j v rfl
      obtain ⟨e, _, q1, q2, _⟩ := findNow_key d hk _ 0 j v h1
      exact idx (by simpa using q1) q2
end
section
variable {P : Program} {B : Nat} {w0 : Base} {β : Beta}
theorem rsim_load {a a' : Addr} (h : PR β a a') : RSim (R P B w0) P β (load a) (load a') VR := by
  intro β1 σ w hle hR u σ' hu
  obtain ⟨b, o, bi, e, rfl, rfl⟩ := h
  simp only [load, Sem.run] at hu ⊢
  cases hc : σ.cell? ⟨b, o, none⟩ with
  | none =>
    rw [hc] at hu
    obtain ⟨x, hx⟩ := farLoad_none hR ⟨b, o, none⟩ (Mode.plain == .atomic)
    simp only [hx] at hu
    cases hu
  | some v =>
    rw [hc] at hu
    simp only [Result.ok.injEq] at hu
    obtain ⟨rfl, rfl⟩ := hu
    obtain ⟨v', hv', hvr⟩ := hR.cell (hle _ _ e) hc
    exact ⟨rfl, v', by rw [hv'], hvr⟩
theorem rsim_loadCellsFrom {a a' : Addr} (h : PR β a a') : ∀ (n i : Nat) (acc acc' : Array Value), AR β acc acc' →
    RSim (R P B w0) P β (loadCellsFrom a i n acc) (loadCellsFrom a' i n acc') AR := by
  intro n
  induction n generalizing β with
  | zero => exact fun i acc acc' hacc => RSim.pure fun β1 hle => hacc.mono hle
  | succ n ih => exact fun i acc acc' hacc => RSim.bind (rsim_load (h.add i)) fun β1 v v' hle hv => ih (h.mono hle) _ _ _ ((hacc.mono hle).push hv)
theorem rsim_loadCells {a a' : Addr} (h : PR β a a') (n : Nat) : RSim (R P B w0) P β (loadCells a n) (loadCells a' n) AR :=
  rsim_loadCellsFrom h n 0 _ _ (AR.empty β)
theorem rsim_loadVar {a a' : Addr} (t : TypeId) (h : PR β a a') : RSim (R P B w0) P β (loadVar t a) (loadVar t a') VR := by
  unfold loadVar
  refine RSim.bind (RSim.of_still (still_isAgg t) (D := fun _ x y => x = y) (fun _ _ => rfl)) fun β1 x y hle hxy => ?_
  subst hxy
  cases x with
  | false => exact rsim_load (h.mono hle)
  | true =>
    simp only [if_true]
    refine RSim.bind (RSim.of_still (still_sizeOf t) (D := fun _ x y => x = y) (fun _ _ => rfl)) fun β2 n m hle2 hnm => ?_
    subst hnm
    refine RSim.bind (rsim_loadCells ((h.mono hle).mono hle2) n) fun β3 c c' hle3 hc => ?_
    exact RSim.pure fun β4 hle4 => let k := hc.mono hle4; .agg k.1 k.2
theorem rsim_loadAt {v v' : Value} (t : TypeId) (h : VR β v v') : RSim (R P B w0) P β (Instr.loadAt t v) (Instr.loadAt t v') VR :=
  RSim.bind (rsim_sureAddr h) fun _ _ _ _ hp => rsim_loadVar t hp
theorem rsim_getObj {b : Nat} {bi : BI} (hb : β b = some bi) : RSim (R P B w0) P β (getObj b) (getObj bi.r) (fun β o o' => OR β bi o o' ∧ wr o = true) := by
  intro β1 σ w hle hR u σ' hu
  have hb1 := hle _ _ hb
  simp only [getObj, Sem.run] at hu ⊢
  cases ho : σ.heap[b]? with
  | none => simp [ho] at hu
  | some o =>
    rw [ho] at hu
    cases o with
    | cells c e fz => simp at hu
    | _ =>
      simp only [Result.ok.injEq] at hu
      obtain ⟨rfl, rfl⟩ := hu
      obtain ⟨o', ho', hor⟩ := hR.obj _ _ _ ho hb1 rfl
      refine ⟨rfl, o', ?_, hor, rfl⟩
      rw [ho']
      cases hor <;> rfl
theorem rsim_getMap {b : Nat} {bi : BI} (hb : β b = some bi) {α α' : Type} {k : Array MapEntry → Nat → Sem α} {k' : Array MapEntry → Nat → Sem α'} {s : String} {A : Beta → α → α' → Prop}
    (h : ∀ β1 es es' c, β.le β1 → EAR β1 es es' → RSim (R P B w0) P β1 (k es c) (k' es' c) A) :
    RSim (R P B w0) P β (do match ← getObj b with | .map es c => k es c | _ => Go.stuck s) (do match ← getObj bi.r with | .map es c => k' es c | _ => Go.stuck s) A := by
  refine RSim.bind (rsim_getObj hb) fun β1 o o' hle ho => ?_
  obtain ⟨ho, _⟩ := ho
  cases ho with
  | map hs he => exact h β1 _ _ _ hle ⟨hs, he⟩
  | _ => exact RSim.stuck
theorem rsim_lookup {t : TypeId} (hz : elemOk P t = true) (hkt : keyTy P t = true) {x x' k k' : Value} (hx : VR β x x') (hk : VR β k k') (hkf : keyFit k = true) (ok : Bool) :
    RSim (R P B w0) P β (Instr.lookup t x k ok) (Instr.lookup t x' k' ok) VR := by
  obtain ⟨kt, et, hu, hki⟩ := keyTy_spec hkt
  have hkk : k = k' := by
    obtain ⟨a, b, rfl⟩ := keyFit_int hkf
    cases hk; rfl
  subst hkk
  unfold Instr.lookup
  refine RSim.under fun d hd => ?_
  rw [hu] at hd
  simp only [Option.some.injEq] at hd
  subst hd
  dsimp only
  have tail : ∀ {β1 : Beta} {es es' : Array MapEntry}, β.le β1 → EAR β1 es es' → RSim (R P B w0) P β1
      (do
        Instr.checkKey es.isEmpty 10000 kt k
        let (v, ok2) ← match ← Instr.findKey kt k es.toList with
          | some (_, v) => pure (v, true)
          | none => pure (← zeroValue et, false)
        pure (if ok then .tuple #[v, .bool ok2] else v))
      (do
        Instr.checkKey es'.isEmpty 10000 kt k
        let (v, ok2) ← match ← Instr.findKey kt k es'.toList with
          | some (_, v) => pure (v, true)
          | none => pure (← zeroValue et, false)
        pure (if ok then .tuple #[v, .bool ok2] else v)) VR := by
    intro β1 es es' hle he
    have hemp : es.isEmpty = es'.isEmpty := by simp [Array.isEmpty, he.1]
    rw [← hemp]
    refine RSim.bind (RSim.of_still (still_checkKey hki _ _ _ hkf) (D := fun _ x y => x = y) (fun _ _ => rfl)) fun β2 _ _ hle2 _ => ?_
    have fin : ∀ {β3 : Beta} {v v' : Value} (b : Bool), VR β3 v v' → VR β3 (if ok then .tuple #[v, .bool b] else v) (if ok then .tuple #[v', .bool b] else v') := by
      intro β3 v v' b hv
      cases ok with
      | true =>
        have := ((AR.empty β3).push hv).push (VR.bool b)
        exact .tuple this.1 this.2
      | false => exact hv
    refine RSim.bind (rsim_findKey hki hkf (he.mono hle2)) fun β3 r r' hle3 hr => ?_
    obtain ⟨hr, _⟩ := hr
    cases r with
    | none =>
      cases r' with
      | some _ => exact hr.elim
      | none => exact RSim.bind (rsim_zeroValue (elemOk_map hz hu)) fun β4 z z' hle4 hzz => RSim.pure fun β5 hle5 => fin false (hzz.mono hle5)
    | some p =>
      cases r' with
      | none => exact hr.elim
      | some p' =>
        obtain ⟨i, v⟩ := p
        obtain ⟨j, v'⟩ := p'
        exact RSim.pure fun β5 hle5 => fin true (hr.2.mono hle5)
  cases hx with
  | nilMap => exact tail (.refl _) ⟨rfl, fun i x x' e => by simp at e⟩
  | map hb => exact rsim_getMap hb fun β1 es es' c hle he => tail hle he
  | _ => exact RSim.stuck
theorem rsim_len {at_ : Array TypeId} {ty : TypeId} {args args' : Array Value} (ha : AR β args args') : RSim (R P B w0) P β (Builtin.len_ at_ ty args) (Builtin.len_ at_ ty args') VR := by
  unfold Builtin.len_
  cases ht : at_[0]? with
  | none => exact RSim.stuck
  | some t =>
    cases hx : args[0]? with
    | none => exact RSim.stuck
    | some x =>
      obtain ⟨x', hx', hxr⟩ := ha.get hx
      rw [hx']
      dsimp only
      refine RSim.under fun d hd => ?_
      cases d with
      | string => cases hxr <;> first | exact RSim.stuck | exact RSim.pure fun _ _ => .int _ _
      | array n e => exact RSim.pure fun _ _ => .int _ _
      | pointer e =>
        refine RSim.under fun d2 hd2 => ?_
        cases d2 <;> first | exact RSim.stuck | exact RSim.pure fun _ _ => .int _ _
      | slice e => cases hxr <;> first | exact RSim.stuck | exact RSim.pure fun _ _ => .int _ _
      | map k e =>
        cases hxr with
        | nilMap => exact RSim.pure fun _ _ => .int _ _
        | map hb =>
          refine rsim_getMap hb fun β1 es es' c hle he => ?_
          rw [he.1]
          exact RSim.pure fun _ _ => .int _ _
        | _ => exact RSim.stuck
      | chan c e =>
        cases hxr with
        | @tok b bi _ e hv =>
          intro β1 σ w hle hR u σ' hu
          exfalso
          simp only [Sem.run_bind, getObj, Sem.run] at hu
          cases ho : σ.heap[b]? with
          | none => simp [ho, Result.andThen] at hu
          | some o =>
            rw [ho] at hu
            cases o with
            | chan =>
              obtain ⟨o', _, hor⟩ := hR.obj _ _ _ ho (hle _ _ e) rfl
              cases hor
            | _ => simp [Result.andThen, Go.stuck] at hu
        | _ => exact RSim.stuck
      | _ => exact RSim.stuck
theorem rsim_entry {x x' : Value} (hx : VR β x x') : RSim (R P B w0) P β (Instr.entry x) (Instr.entry x') VR := by
  unfold Instr.entry
  cases hx with
  | @ptr b o bi hb =>
    cases o with
    | succ o => exact RSim.stuck
    | zero =>
      intro β1 σ w hle hR u σ' hu
      have hd0 : bi.d = 0 := by
        have hbr := (hR.dom _ _ (hle _ _ hb))
        cases ho : σ.heap[b]? with
        | none => simp [getObj, Sem.run, ho, Result.andThen] at hu
        | some o =>
          cases o with
          | mapIter m s1 s2 s3 =>
            obtain ⟨o', _, hor⟩ := hR.obj _ _ _ ho (hle _ _ hb) rfl
            cases hor <;> assumption
          | _ => simp [getObj, Sem.run, ho, Result.andThen, Go.stuck] at hu
      have key : RSim (R P B w0) P β1 (do
          let .mapIter (some m) _ seen stepped ← getObj b | Go.stuck "Entry: an iterator over a map that is not nil expected"
          let some stamp := seen.back? | Go.stuck "Entry: no step yet"
          let .map es clock ← getObj m | Go.stuck "Entry: map expected"
          if clock != stepped then Go.unsupported (.noEntry "instr/Entry: an insertion since the step")
          match es.find? (·.born == stamp) with
          | some e => pure (Value.tuple #[e.key, e.val])
          | none => Go.unsupported (.noEntry "instr/Entry.removed"))
        (do
          let .mapIter (some m) _ seen stepped ← getObj bi.r | Go.stuck "Entry: an iterator over a map that is not nil expected"
          let some stamp := seen.back? | Go.stuck "Entry: no step yet"
          let .map es clock ← getObj m | Go.stuck "Entry: map expected"
          if clock != stepped then Go.unsupported (.noEntry "instr/Entry: an insertion since the step")
          match es.find? (·.born == stamp) with
          | some e => pure (Value.tuple #[e.key, e.val])
          | none => Go.unsupported (.noEntry "instr/Entry.removed")) VR := by
        refine RSim.bind (rsim_getObj (hle _ _ hb)) fun β2 o o' hle2 ho => ?_
        obtain ⟨ho, _⟩ := ho
        cases ho with
        | mapIter hm since seen stepped h0 =>
          dsimp only
          cases hsb : seen.back? with
          | none => exact RSim.stuck
          | some stamp =>
            refine rsim_getMap hm fun β3 es es' c hle3 he => ?_
            split
            · exact RSim.never (never_left (never_halt _))
            · have hl := he.list
              rw [← Array.find?_toList, ← Array.find?_toList]
              rcases find_born _ hl with ⟨h1, h2⟩ | ⟨e, e', h1, h2, h3⟩
              · rw [h1]; exact RSim.unsupported
              · rw [h1, h2]
                exact RSim.pure fun β4 hle4 => (h3.mono hle4).tuple2
        | _ => exact RSim.stuck
      have := key β1 σ w (.refl _) hR u σ' hu
      have e0 : (0 + bi.d) = 0 := by omega
      rw [e0]
      exact this
  | nilPtr => exact RSim.stuck
  | _ => exact RSim.stuck
theorem rsim_firstCells {size n : Nat} {x x' : Value} (hx : VR β x x') (hn : ∀ a l c, x = .slice a l c → n ≤ l) :
    RSim (R P B w0) P β (Builtin.firstCells size n x) (Builtin.firstCells size n x') AR := by
  cases hx with
  | nilSlice => exact RSim.pure fun β1 _ => AR.empty β1
  | @slice b o len cap o' cap' bi hb hs =>
    have hl := hn _ _ _ rfl
    have zero : n = 0 → RSim (R P B w0) P β (Builtin.firstCells size n (.slice (some ⟨b, o, none⟩) len cap)) (Builtin.firstCells size n (.slice (some ⟨bi.r, o', none⟩) len cap')) AR := by
      rintro rfl
      simp only [Builtin.firstCells, Nat.zero_mul, loadCells, loadCellsFrom]
      exact RSim.pure fun β1 _ => AR.empty β1
    rcases hs with ⟨h1, h2, h3, h4 | h4⟩ | ⟨h1, h2, ⟨h3, _⟩ | ⟨h3, _⟩⟩ | ⟨_, h3, _⟩
    · subst h4; exact rsim_loadCells ⟨b, o, bi, hb, rfl, rfl⟩ _
    · exact zero (by omega)
    · subst h3; exact rsim_loadCells ⟨b, o, bi, hb, rfl, rfl⟩ _
    · exact zero (by omega)
    · subst h3; exact rsim_loadCells ⟨b, o, bi, hb, rfl, rfl⟩ _
  | string s =>
    refine RSim.pure fun β1 _ => ⟨rfl, fun i v v' e e' => ?_⟩
    rw [e] at e'
    simp only [Option.some.injEq] at e'
    subst e'
    simp only [Array.getElem?_map, Option.map_eq_some_iff] at e
    obtain ⟨b, _, rfl⟩ := e
    exact .int _ _
  | _ => exact RSim.stuck
theorem rd_isliceOpen {t elem : TypeId} (ht : P.underlying t = some (.slice elem)) {a : Addr} {len : Nat} {x' : Value} (hx : VR β (.slice (some a) len OPEN) x')
    {lo lo' hi hi' mx mx' : Option Value} (hlo : OVR β lo lo') (hhi : OVR β hi hi') (hmx : OVR β mx mx') :
    ∀ {σ w : World}, R P B w0 β σ w → ∀ {Q : Value × World → Prop}, (isliceOpen P elem a len lo hi mx σ).all Q → ∃ v v', (Instr.sliceAt t x' lo' hi' mx').run P w = .ok v' w ∧ VR β v v' ∧ Q (v, σ) := by
  cases hx with
  | @slice b o _ cap o' cap' bi hb hs =>
  rcases hs with ⟨h1, _⟩ | ⟨_, hes, hs⟩ | ⟨h1, _⟩
  · exact absurd h1 (Nat.lt_irrefl _)
  rotate_left
  · exact absurd h1 (Nat.lt_irrefl _)
  intro σ w hR Q hQ
  have hle := Beta.le.refl β
  unfold isliceOpen at hQ
  split at hQ
  · rename_i i l h c e hie hl hh hc
    split at hQ
    · rename_i hcond
      obtain ⟨rfl, _, hlh, hsz⟩ := hcond
      have hb1 := hle _ _ hb
      have hn : c.size = bi.n ∧ i.size = bi.es := by
        obtain ⟨ob, _, hor⟩ := hR.obj _ _ _ hc hb1 rfl
        refine ⟨?_, hR.esz _ _ _ _ _ hc rfl hb1 i hie⟩
        cases hor; assumption
      obtain ⟨hcn, hies⟩ := hn
      have hrun : ∀ {l h m : Nat}, (Instr.sliceBounds true len cap' lo' hi' mx').run P w = .ok (l, h, m) w →
          (Instr.sliceAt t (.slice (some ⟨bi.r, o', none⟩) len cap') lo' hi' mx').run P w = .ok (.slice (some (if m = l then ⟨bi.r, o', none⟩ else ⟨bi.r, o' + l * i.size, none⟩)) (h - l) (m - l)) w := by
        intro l h m hr
        unfold Instr.sliceAt Instr.slice
        simp only [Sem.run_bind, run_underlying' ht, Result.andThen, hr, run_sizeOf' hie, Sem.run_pure]
        simp only [Option.map_some, Addr.add_off]
        split <;> rfl
      split at hQ
      · -- no third index
        split at hQ
        · rename_i hhl
          have hmx' : mx' = none := by cases mx' <;> first | rfl | exact hmx.elim
          subst hmx'
          have hcap : h ≤ cap' := by
            rcases hhl with hhl | hhl
            · rcases hs with ⟨rfl, g1, g2, g3⟩ | ⟨rfl, rfl, g1⟩ <;> omega
            · simp only [hies] at hhl
              rcases hs with ⟨rfl, g1, g2, g3⟩ | ⟨rfl, rfl, g1⟩
              · exact Nat.le_of_mul_le_mul_right (c := bi.es) (by omega) hes
              · have : h * bi.es = 0 := by omega
                rcases Nat.mul_eq_zero.1 this with h | h <;> omega
          clear hhl
          rcases hs with ⟨rfl, g1, g2, g3⟩ | ⟨rfl, rfl, g1⟩
          · have hr := run_sliceBounds (P := P) (isS := true) (cap := cap') hlo hhi hl hh hlh (by omega) w
            refine ⟨_, _, hrun hr, ?_, hQ⟩
            by_cases hcl : cap' = l
            · rw [if_pos hcl]
              refine .slice hb1 (.inr (.inl ⟨rfl, hes, .inr ⟨by omega, by omega, ?_⟩⟩))
              rw [hies, ← hcl]; exact g1
            · rw [if_neg hcl]
              have hmul : l * bi.es + (cap' - l) * bi.es = cap' * bi.es := by rw [← Nat.add_mul]; congr 1; omega
              refine .slice hb1 (.inr (.inl ⟨rfl, hes, .inl ⟨by simp only; omega, by simp only [hies]; omega, by omega, by simp only [hies]; omega⟩⟩))
          · have hr := run_sliceBounds (P := P) (isS := true) (cap := 0) hlo hhi hl hh hlh (by omega) w
            refine ⟨_, _, hrun hr, ?_, hQ⟩
            have hl0 : l = 0 := by omega
            rw [if_pos hl0.symm]
            refine .slice hb1 (.inr (.inl ⟨rfl, hes, .inr ⟨by omega, by omega, ?_⟩⟩))
            rw [hl0]; simpa using g1
        · exact hQ.elim
      · -- a third index
        rename_i k3 mi
        split at hQ
        · rename_i hm
          obtain ⟨h0, hhm, hmc, his, hmO⟩ := hm
          have hmx' : mx' = some (.int k3 mi) := by
            cases mx' with
            | none => exact hmx.elim
            | some v => cases hmx; rfl
          subst hmx'
          have hmcap : mi.toNat ≤ cap' := by
            rcases hs with ⟨rfl, g1, g2, g3⟩ | ⟨rfl, rfl, g1⟩
            · refine Nat.le_of_mul_le_mul_right (c := bi.es) ?_ hes
              simp only [hies] at hmc
              omega
            · simp only [hies] at hmc
              have : mi.toNat * bi.es = 0 := by omega
              rcases Nat.mul_eq_zero.1 this with h | h <;> omega
          have hr := run_sliceBounds3 (P := P) (isS := true) (cap := cap') (k3 := k3) hlo hhi hl hh his h0 rfl hlh hhm hmcap w
          refine ⟨_, _, hrun hr, ?_, hQ⟩
          by_cases hml : mi.toNat = l
          · rw [if_pos hml, if_pos hml]
            exact .slice hb1 (.inl ⟨by omega, rfl, by omega, .inr (by omega)⟩)
          · rw [if_neg hml, if_neg hml]
            refine .slice hb1 (.inl ⟨by omega, rfl, by omega, .inl ?_⟩)
            rcases hs with ⟨rfl, g1, g2, g3⟩ | ⟨rfl, rfl, g1⟩
            · simp only; omega
            · exfalso
              omega
        · exact hQ.elim
      · exact hQ.elim
    · exact hQ.elim
  · exact hQ.elim
end
end Go.Ideal
namespace Go.Ideal
open Go
section
variable {P : Program} {B : Nat} {w0 : Base} {β : Beta}
theorem R.drew {σ w : World} (h : R P B w0 β σ w) : R P B w0 β σ w.drew :=
  { below := h.below.drew, held := h.held, free := h.free, size := h.size, dom := h.dom, cov := h.cov, obj := h.obj, dd := h.dd, esz := h.esz, new := h.new, inj := h.inj }
theorem loadCellsFrom_spec {a : Addr} : ∀ (n i : Nat) (acc : Array Value) (σ σ' : World) (c : Array Value), (loadCellsFrom a i n acc).run P σ = .ok c σ' → σ' = σ ∧ c.size = acc.size + n := by
  intro n
  induction n with
  | zero =>
    intro i acc σ σ' c h
    simp only [loadCellsFrom, Sem.run_pure, Result.ok.injEq] at h
    exact ⟨h.2.symm, by rw [← h.1]; rfl⟩
  | succ n ih =>
    intro i acc σ σ' c h
    simp only [loadCellsFrom] at h
    rw [Sem.run_bind] at h
    cases hl : (load (a.add i)).run P σ with
    | halt x y => rw [hl] at h; cases h
    | ok v σ1 =>
      rw [hl] at h
      have : σ1 = σ := by
        simp only [load, Sem.run] at hl
        split at hl
        · simp only [Result.ok.injEq] at hl; exact hl.2.symm
        · split at hl
          · simp only [Result.ok.injEq] at hl; exact hl.2.symm
          · cases hl
      subst this
      obtain ⟨h1, h2⟩ := ih _ _ _ _ _ h
      exact ⟨h1, by rw [h2]; simp; omega⟩
theorem firstCells_spec {size n : Nat} {a : Option Addr} {l c : Nat} {σ σ' : World} {cs : Array Value} (h : (Builtin.firstCells size n (.slice a l c)).run P σ = .ok cs σ') :
    σ' = σ ∧ (a.isSome = true → cs.size = n * size) ∧ (a = none → cs = #[]) := by
  cases a with
  | none =>
    simp only [Builtin.firstCells, Sem.run_pure, Result.ok.injEq] at h
    exact ⟨h.2.symm, (fun h => by cases h), fun _ => h.1.symm⟩
  | some a =>
    obtain ⟨h1, h2⟩ := loadCellsFrom_spec _ _ _ _ _ _ h
    exact ⟨h1, (fun _ => by simpa using h2), (fun h => by cases h)⟩
theorem VR.one1 {v v' : Value} (h : VR β v v') (h1 : one1 v = true) : v'.oneCell' = true := by
  cases h with
  | tok e hv => obtain ⟨n, hn⟩ := tokVal_cases _; rw [hv, hn]; rfl
  | _ => first | rfl | simp [Ideal.one1] at h1
theorem AR.one1 {c c' : Array Value} (h : AR β c c') (h1 : c.toList.all Ideal.one1 = true) : ∀ v ∈ c'.toList, v.oneCell' = true := by
  intro v hv
  obtain ⟨i, hi, rfl⟩ := List.getElem_of_mem hv
  have hi' : i < c.size := by rw [h.1]; simpa using hi
  simp only [List.all_eq_true] at h1
  have := h.2 i c[i] c'[i] (by simp [hi']) (by simp at hi; simp [hi])
  rw [Array.getElem_toList]
  exact this.one1 (h1 _ (by simp))
theorem loadCellsFrom_acc {a : Addr} : ∀ (n i : Nat) (acc : Array Value) (σ σ' : World) (c : Array Value), (loadCellsFrom a i n acc).run P σ = .ok c σ' → ∀ k, k < acc.size → c[k]? = acc[k]? := by
  intro n
  induction n with
  | zero =>
    intro i acc σ σ' c h k hk
    simp only [loadCellsFrom, Sem.run_pure, Result.ok.injEq] at h
    rw [← h.1]
  | succ n ih =>
    intro i acc σ σ' c h k hk
    simp only [loadCellsFrom] at h
    rw [Sem.run_bind] at h
    cases hl : (load (a.add i)).run P σ with
    | halt x y => rw [hl] at h; cases h
    | ok v σ1 =>
      rw [hl] at h
      rw [ih _ _ _ _ _ h k (by simp; omega), Array.getElem?_push_lt hk]
      simp [hk]
theorem loadCellsFrom_cell {b o : Nat} : ∀ (n i : Nat) (acc : Array Value) (σ σ' : World) (c : Array Value), (∀ k, k < n → ∃ v, σ.cell? ⟨b, o + (i + k), none⟩ = some v) → (loadCellsFrom ⟨b, o, none⟩ i n acc).run P σ = .ok c σ' →
    ∀ k, k < n → ∃ v, c[acc.size + k]? = some v ∧ σ.cell? ⟨b, o + (i + k), none⟩ = some v := by
  intro n
  induction n with
  | zero => intro i acc σ σ' c _ h k hk; omega
  | succ n ih =>
    intro i acc σ σ' c hall h k hk
    simp only [loadCellsFrom] at h
    rw [Sem.run_bind] at h
    obtain ⟨v, hv⟩ := hall 0 (by omega)
    have hl : (load ((⟨b, o, none⟩ : Addr).add i)).run P σ = .ok v σ := by
      rw [Addr.add_off]
      simp only [Nat.add_zero] at hv
      simp only [load, Sem.run, hv]
    rw [hl] at h
    simp only [Result.andThen] at h
    by_cases h0 : k = 0
    · subst h0
      refine ⟨v, ?_, hv⟩
      rw [loadCellsFrom_acc _ _ _ _ _ _ h _ (by simp)]
      simp
    · obtain ⟨u, hu1, hu2⟩ := ih (i + 1) (acc.push v) σ σ' c (fun j hj => by have := hall (j + 1) (by omega); rwa [show i + (j + 1) = i + 1 + j from by omega] at this) h (k - 1) (by omega)
      refine ⟨u, ?_, ?_⟩
      · rw [Array.size_push] at hu1
        rwa [show acc.size + 1 + (k - 1) = acc.size + k from by omega] at hu1
      · rwa [show i + 1 + (k - 1) = i + k from by omega] at hu2
theorem run_append_in {at_ : Array TypeId} {sT xT elem xe : TypeId} {ty : TypeId} {i : TypeInfo} {base xb : Option Addr} {sLen sCap n xc : Nat} {args : Array Value} {new : Array Value} {w w2 : World}
    (h0 : at_[0]? = some sT) (h1 : at_[1]? = some xT) (ha0 : args[0]? = some (.slice base sLen sCap)) (ha1 : args[1]? = some (.slice xb n xc))
    (hs : P.underlying sT = some (.slice elem)) (hx : P.underlying xT = some (.slice xe)) (hi : P.info? elem = some i) (hroom : sLen + n ≤ sCap)
    (hnew : (Builtin.firstCells i.size n (.slice xb n xc)).run P w = .ok new w)
    (hst : match base with | some a => (storeCells (a.add (sLen * i.size)) new.toList).run P w = .ok () w2 | none => w2 = w) :
    (Builtin.append_ at_ ty args).run P w = .ok (.slice base (sLen + n) sCap) w2 := by
  unfold Builtin.append_
  rw [h0, ha0, ha1]
  simp only [Sem.run_bind, run_underlying' hs, Result.andThen, run_sizeOf' hi, h1, run_underlying' hx, Sem.run_pure, Builtin.lenOf, Bool.false_eq_true, if_false]
  rw [if_pos hroom]
  simp only [Bool.not_false, if_true, Sem.run_bind, hnew, Result.andThen]
  cases base with
  | none => simp only at hst; subst hst; simp only [Sem.run_pure]
  | some a => simp only at hst ⊢; rw [Sem.run_bind, hst]; simp only [Result.andThen, Sem.run_pure]
theorem run_append_out {at_ : Array TypeId} {sT xT elem xe : TypeId} {ty : TypeId} {i : TypeInfo} {z : Value} {base xb : Option Addr} {sLen sCap n xc : Nat} {args : Array Value} {old new : Array Value} {w : World}
    (h0 : at_[0]? = some sT) (h1 : at_[1]? = some xT) (ha0 : args[0]? = some (.slice base sLen sCap)) (ha1 : args[1]? = some (.slice xb n xc))
    (hs : P.underlying sT = some (.slice elem)) (hx : P.underlying xT = some (.slice xe)) (hi : P.info? elem = some i) (hz : i.zero = some z) (hroom : ¬ sLen + n ≤ sCap)
    (hb0 : 0 < i.bytes) (hb : (sLen + n) * i.bytes ≤ 140737488355328)
    (hold : (Builtin.firstCells i.size sLen (.slice base sLen sCap)).run P w.drew = .ok old w.drew)
    (hnew : (Builtin.firstCells i.size n (.slice xb n xc)).run P w.drew = .ok new w.drew) :
    ∃ nc, sLen + n ≤ nc ∧ (Builtin.append_ at_ ty args).run P w = .ok (.slice (some ⟨w.heap.size, 0, none⟩) (sLen + n) nc) (w.drew.alloc (.cells (old ++ new ++ Builtin.zeroCells z.cells (nc - (sLen + n))) elem)) := by
  obtain ⟨t, ht⟩ : ∃ t, t = w.tape w.drawn (.appendCap (sLen + n) sCap elem) := ⟨_, rfl⟩
  refine ⟨sLen + n + t % (2 ^ 63 - (sLen + n)), by omega, ?_⟩
  have hle : sLen + n ≤ 140737488355328 := Nat.le_trans (Nat.le_mul_of_pos_right _ hb0) hb
  have hgrow : ¬ (Builtin.nextslicecap (sLen + n) sCap * i.bytes > 2 ^ 48) := by
    have := growslice_fits (need := sLen + n) (old := sCap) (bytes := i.bytes) (by omega) (by omega)
    omega
  unfold Builtin.append_
  rw [h0, ha0, ha1]
  simp only [Sem.run_bind, run_underlying' hs, Result.andThen, run_sizeOf' hi, h1, run_underlying' hx, Sem.run_pure, Builtin.lenOf, Bool.false_eq_true, if_false]
  rw [if_neg hroom]
  have hti : ∀ w : World, (typeInfo elem).run P w = .ok i w := fun w => by simp [typeInfo, program, Sem.run, hi, Result.andThen]
  have hzr : ∀ w : World, (zeroValue elem).run P w = .ok z w := fun w => by simp [zeroValue, typeInfo, program, Sem.run, hi, hz, Result.andThen]
  have hch : (choose (Question.appendCap (sLen + n) sCap elem)).run P w = .ok (sLen + n + t % (2 ^ 63 - (sLen + n))) w.drew := by
    simp only [choose, Sem.run, Question.forced, Bool.false_eq_true, if_false, Question.cut, ht]
    rfl
  have har : ∀ (m : Nat) (w : World), (askRoom m).run P w = .ok () w := fun m w => by
    unfold askRoom
    split <;> rfl
  simp only [Sem.run_bind, hti, Result.andThen]
  rw [if_neg (by rintro ⟨_, h | h⟩; exact h; omega)]
  simp only [Sem.run_bind, hti, Result.andThen]
  rw [if_neg hgrow]
  simp only [Sem.run_bind, hch, hti, har, hold, Result.andThen, Bool.not_false, if_true, hnew, hzr, Sem.run_pure]
  rfl
theorem AR.shift {c c' : Array Value} (h : AR β c c') {rest : Array Value} (i : Nat) (v : Value) (hv : c[i]? = some v) : ∃ v', (c' ++ rest)[0 + i]? = some v' ∧ VR β v v' := by
  obtain ⟨v', h1, h2⟩ := h.get hv
  have hi : i < c'.size := (Array.getElem?_eq_some_iff.1 h1).1
  exact ⟨v', by rw [Nat.zero_add, Array.getElem?_append_left hi]; exact h1, h2⟩
theorem tsim_grow_closed {at_ : Array TypeId} {sT xT elem xe : TypeId} {ty : TypeId} {i : TypeInfo} {args' : Array Value} {base xb : Option Addr} {sLen sCap n xc : Nat} {s' x' : Value} {σ w : World}
    (h0 : at_[0]? = some sT) (h1 : at_[1]? = some xT) (hs : P.underlying sT = some (.slice elem)) (hx : P.underlying xT = some (.slice xe)) (hi : P.info? elem = some i)
    (ha0 : args'[0]? = some s') (ha1 : args'[1]? = some x') (hsr : VR β (.slice base sLen sCap) s') (hxr : VR β (.slice xb n xc) x') (hz : zeroFits i = true)
    (hsz : 0 < i.size) (hb0 : 0 < i.bytes) (hb : (sLen + n) * i.bytes ≤ 140737488355328) (hR : R P B w0 β σ w)
    {new : Array Value} (hnew : (Builtin.firstCells i.size n (.slice xb n xc)).run P σ = .ok new σ)
    {old : Array Value} (hold : (Builtin.firstCells i.size sLen (.slice base sLen sCap)).run P σ = .ok old σ)
    (hsizes : (old ++ new).size = (sLen + n) * i.size)
    (hroom : ∀ b l c, s' = .slice b l c → ¬ sLen + n ≤ c) :
    ∃ β2 v' w', β.le β2 ∧ (Builtin.append_ at_ ty args').run P w = .ok v' w' ∧ R P B w0 β2 (σ.alloc (.cells (old ++ new) elem)) w' ∧
      VR β2 (.slice (some ⟨σ.heap.size, 0, none⟩) (sLen + n) OPEN) v' := by
  obtain ⟨z, hz1, hz2⟩ : ∃ z, i.zero = some z ∧ z.cells.size = i.size := by
    unfold zeroFits at hz
    split at hz
    · exact ⟨_, ‹_›, by simpa using hz⟩
    · cases hz
  have hRd := hR.drew
  obtain ⟨_, old', hold', ho⟩ := rsim_firstCells hsr (size := i.size) (n := sLen) (fun a l c e => by simp only [Value.slice.injEq] at e; omega) β σ w.drew (.refl _) hRd old σ hold
  obtain ⟨_, new', hnew', hn⟩ := rsim_firstCells hxr (size := i.size) (n := n) (fun a l c e => by simp only [Value.slice.injEq] at e; omega) β σ w.drew (.refl _) hRd new σ hnew
  obtain ⟨base', sCap', rfl⟩ : ∃ b c, s' = .slice b sLen c := by cases hsr <;> exact ⟨_, _, rfl⟩
  obtain ⟨xb', xc', rfl⟩ : ∃ b c, x' = .slice b n c := by cases hxr <;> exact ⟨_, _, rfl⟩
  obtain ⟨nc, hnc, hrun⟩ := run_append_out (ty := ty) h0 h1 ha0 ha1 hs hx hi hz1 (hroom _ _ _ rfl) hb0 hb hold' hnew'
  have hon := ho.append hn
  obtain ⟨rest, hrest⟩ : ∃ rest, rest = Builtin.zeroCells z.cells (nc - (sLen + n)) := ⟨_, rfl⟩
  have hrs : rest.size = (nc - (sLen + n)) * i.size := by rw [hrest, ← hz2]; simp [Builtin.zeroCells]
  have htot : (old' ++ new' ++ rest).size = nc * i.size := by
    rw [Array.size_append, ← hon.1, hsizes, hrs, ← Nat.add_mul]
    congr 1
    omega
  obtain ⟨bi, hbi⟩ : ∃ bi : BI, bi = ⟨w.heap.size, 0, (old ++ new).size, i.size, (old' ++ new' ++ rest).size⟩ := ⟨_, rfl⟩
  have hfresh := hRd.fresh
  have hle := Beta.le_put (bi := bi) hfresh
  have hput : (β.put σ.heap.size bi) σ.heap.size = some bi := by unfold Beta.put; rw [if_pos rfl]
  refine ⟨β.put σ.heap.size bi, _, _, hle, hrun, ?_, ?_⟩
  · rw [← hrest]
    have hOR : OR (β.put σ.heap.size bi) bi (.cells (old ++ new) elem) (.cells (old' ++ new' ++ rest) elem) := by
      refine .cells (by rw [hbi]) (by rw [hbi]) ?_ ?_ (.inl ⟨rfl, rfl⟩)
      · rw [hbi]
        simp only
        rw [htot, hsizes, Nat.zero_add]
        exact Nat.mul_le_mul_right _ hnc
      · intro k v hv
        rw [hbi]
        obtain ⟨v', e1, e2⟩ := hon.shift (rest := rest) k v hv
        exact ⟨v', e1, e2.mono (hbi ▸ hle)⟩
    have := hRd.alloc (o := .cells (old ++ new) elem) (o' := .cells (old' ++ new' ++ rest) elem) (d := 0) (n := (old ++ new).size) (es := i.size) (tot := (old' ++ new' ++ rest).size)
      (by rw [hbi] at hOR; exact hOR) (fun c e fz he j hj => by
        simp only [Obj.cells.injEq] at he
        obtain ⟨_, rfl, _⟩ := he
        rw [hi] at hj
        simp only [Option.some.injEq] at hj
        rw [hj]) rfl
    rw [hbi]
    exact this
  · subst hbi
    refine VR.slice (o := 0) (o' := 0) hput (.inr (.inl ⟨rfl, hsz, .inl ⟨by simp, ?_, hnc, ?_⟩⟩))
    · simp only
      rw [hsizes, Nat.zero_add]
      exact Nat.mul_le_mul_right _ hnc
    · simp only
      rw [htot, Nat.zero_add]
      exact Nat.le_refl _
theorem tsim_grow_place {at_ : Array TypeId} {sT xT elem xe : TypeId} {ty : TypeId} {i : TypeInfo} {args' : Array Value} {b o o' sLen cap' n xc : Nat} {xb : Option Addr} {x' : Value} {bi : BI} {c : Array Value} {σ w : World}
    (h0 : at_[0]? = some sT) (h1 : at_[1]? = some xT) (hs : P.underlying sT = some (.slice elem)) (hx : P.underlying xT = some (.slice xe)) (hi : P.info? elem = some i)
    (hbi : β b = some bi) (hc : σ.heap[b]? = some (.cells c elem (0, 0))) (ho' : o' = o + bi.d) (hcap : o' + cap' * bi.es ≤ bi.tot) (hes : 0 < bi.es)
    (ha0 : args'[0]? = some (.slice (some ⟨bi.r, o', none⟩) sLen cap')) (ha1 : args'[1]? = some x') (hxr : VR β (.slice xb n xc) x') (hroom : sLen + n ≤ cap') (hR : R P B w0 β σ w)
    {new : Array Value} (hnew : (Builtin.firstCells i.size n (.slice xb n xc)).run P σ = .ok new σ) (hone : new.toList.all one1 = true) (hns : new.size = n * i.size)
    {old : Array Value} (hold : (Builtin.firstCells i.size sLen (.slice (some ⟨b, o, none⟩) sLen OPEN)).run P σ = .ok old σ) (hos : old.size = sLen * i.size) :
    ∃ β2 v' w', β.le β2 ∧ (Builtin.append_ at_ ty args').run P w = .ok v' w' ∧ R P B w0 β2 (kill (σ.alloc (.cells (old ++ new) elem)) b) w' ∧
      VR β2 (.slice (some ⟨σ.heap.size, 0, none⟩) (sLen + n) OPEN) v' := by
  have hies : i.size = bi.es := hR.esz _ _ _ _ _ hc rfl hbi i hi
  obtain ⟨_, new', hnew', hn⟩ := rsim_firstCells hxr (size := i.size) (n := n) (fun a l c e => by simp only [Value.slice.injEq] at e; omega) β σ w (.refl _) hR new σ hnew
  obtain ⟨xb', xc', rfl⟩ : ∃ b c, x' = .slice b n c := by cases hxr <;> exact ⟨_, _, rfl⟩
  obtain ⟨_, old', hold', ho⟩ := rsim_loadCells (P := P) (B := B) (w0 := w0) (β := β) ⟨b, o, bi, hbi, rfl, rfl⟩ (sLen * i.size) β σ w (.refl _) hR old σ hold
  obtain ⟨ob, hob, hor⟩ := hR.obj _ _ _ hc hbi rfl
  cases hor with
  | @cells _ c' _ _ fz' hcn hct hcd hcc hfz =>
    have hfz' : fz' = (0, 0) := by
      rcases hfz with h | h
      · exact h.2
      · exact absurd h.2.1 (Nat.lt_irrefl _)
    subst hfz'
    have hnew's : new'.toList.length = n * bi.es := by rw [← hies, Array.length_toList, ← hn.1]; exact hns
    have hfit : o' + sLen * bi.es + 0 + new'.toList.length ≤ c'.size := by
      have : sLen * bi.es + n * bi.es ≤ cap' * bi.es := by rw [← Nat.add_mul]; exact Nat.mul_le_mul_right _ hroom
      omega
    have hst := run_storeCells_at (P := P) bi.r (o' + sLen * bi.es) elem new'.toList 0 c' w hob hfit (hn.one1 hone)
    obtain ⟨c2, hc2⟩ : ∃ c2, c2 = (c'.toList.take (o' + sLen * bi.es + 0) ++ new'.toList ++ c'.toList.drop (o' + sLen * bi.es + 0 + new'.toList.length)).toArray := ⟨_, rfl⟩
    rw [← hc2] at hst
    have hrun := run_append_in (ty := ty) (w := w) (w2 := w.setRow bi.r c2) h0 h1 ha0 ha1 hs hx hi hroom hnew' (by simp only [Addr.add_off, hies]; exact hst)
    have hc2s : c2.size = bi.tot := by
      rw [hc2]
      simp only [List.size_toArray, List.length_append, List.length_take, List.length_drop, Array.length_toList]
      rw [Array.length_toList] at hnew's hfit
      omega
    have hle := Beta.le_put (bi := ⟨bi.r, o', (old ++ new).size, bi.es, bi.tot⟩) hR.fresh
    have hsz : (old ++ new).size = (sLen + n) * bi.es := by rw [Array.size_append, hos, hns, hies, Nat.add_mul]
    have hmul : (sLen + n) * bi.es ≤ cap' * bi.es := Nat.mul_le_mul_right _ hroom
    refine ⟨_, _, _, hle, hrun, ?_, ?_⟩
    · refine hR.regrow hbi hc rfl rfl rfl (by simp) (fun k hk => setRow_other w bi.r k c2 hk) (setRow_heap w bi.r c' c2 elem (0, 0) hob) hc2s (by rw [hsz]; omega) ?_
      intro k v hv
      rw [Array.getElem?_append] at hv
      have hol : old'.size = sLen * bi.es := by rw [← ho.1, hos, hies]
      split at hv
      · rename_i hk
        obtain ⟨v', e1, e2⟩ := ho.get hv
        refine ⟨v', ?_, e2⟩
        have hkl : k < sLen * bi.es := by rw [← hies, ← hos]; exact hk
        have hcell : c'[o' + k]? = some v' := by
          have hin : ∀ j, j < sLen * i.size → ∃ v, w.cell? ⟨bi.r, (o + bi.d) + (0 + j), none⟩ = some v := fun j hj => by
            have hlt : o + bi.d + (0 + j) < c'.size := by rw [hies] at hj; omega
            exact ⟨c'[o + bi.d + (0 + j)], cell?_eq_some.2 ⟨_, _, _, hob, by simp⟩⟩
          obtain ⟨u, hu1, hu2⟩ := loadCellsFrom_cell (sLen * i.size) 0 #[] w w old' hin hold' k (by rw [hies]; exact hkl)
          simp only [List.size_toArray, List.length_nil, Nat.zero_add] at hu1 hu2
          rw [hu1] at e1
          simp only [Option.some.injEq] at e1
          subst e1
          obtain ⟨c3, e3, fz3, g1, g2⟩ := cell?_eq_some.1 hu2
          rw [hob] at g1
          simp only [Option.some.injEq, Obj.cells.injEq] at g1
          obtain ⟨rfl, _⟩ := g1
          rw [ho']
          exact g2
        rw [hc2]
        simp only [List.getElem?_toArray]
        rw [List.append_assoc, List.getElem?_append_left (by simp only [List.length_take, Array.length_toList]; omega), List.getElem?_take_of_lt (by omega)]
        simpa using hcell
      · rename_i hk
        rw [hos, hies] at hk hv
        obtain ⟨v', e1, e2⟩ := hn.get hv
        refine ⟨v', ?_, e2⟩
        have hl : (c'.toList.take (o' + sLen * bi.es + 0)).length = o' + sLen * bi.es := by
          rw [Array.length_toList] at hnew's hfit
          simp only [List.length_take, Array.length_toList]; omega
        rw [hc2]
        simp only [List.getElem?_toArray]
        rw [List.append_assoc, List.getElem?_append_right (by omega), hl, List.getElem?_append_left (by
          have := (Array.getElem?_eq_some_iff.1 e1).1
          simp only [Array.length_toList]; omega)]
        rw [show o' + k - (o' + sLen * bi.es) = k - sLen * bi.es from by omega]
        simpa using e1
    · refine .slice (bi := ⟨bi.r, o', (old ++ new).size, bi.es, bi.tot⟩) (by unfold Beta.put; rw [if_pos rfl]) (.inr (.inl ⟨rfl, hes, .inl ⟨by simp, ?_, hroom, hcap⟩⟩))
      simp only
      rw [hsz]
      omega
end
end Go.Ideal
namespace Go.Ideal
open Go
section
variable {P : Program} {B : Nat} {w0 : Base} {β : Beta}
theorem nil_new {size n : Nat} {b : Option Addr} {c : Nat} {σ σ' : World} {cs : Array Value} (h : (Builtin.firstCells size n (.slice b n c)).run P σ = .ok cs σ') (hb : b = none → n = 0) : cs.size = n * size := by
  obtain ⟨_, h2, h3⟩ := firstCells_spec h
  cases b with
  | none => rw [h3 rfl, hb rfl]; simp
  | some a => exact h2 rfl
theorem VR.nilLen {b : Option Addr} {l c : Nat} {v : Value} (h : VR β (.slice b l c) v) (hb : b = none) : l = 0 := by
  subst hb; cases h; rfl
theorem tsim_iappend {at_ : Array TypeId} {ty : TypeId} {args args' : Array Value} (ha : AR β args args') : TSim P B w0 β (iappend P at_ args) (Builtin.append_ at_ ty args') VR := by
  intro β1 σ w hle hR Q hQ
  unfold iappend at hQ
  split at hQ
  · rename_i sT xT base sLen sCap xb n xc h0 h1 ha0 ha1
    obtain ⟨s', ha0', hsr0⟩ := ha.get ha0
    obtain ⟨x', ha1', hxr0⟩ := ha.get ha1
    have hsr := hsr0.mono hle
    have hxr := hxr0.mono hle
    split at hQ
    · rename_i elem xe hs hx
      split at hQ
      · rename_i i hi
        split at hQ
        · rename_i hcond
          obtain ⟨hsz, hb0, hb, hz⟩ := hcond
          split at hQ
          · rename_i new w1 hnew
            have hw1 := (firstCells_spec hnew).1
            subst hw1
            have hns : new.size = n * i.size := nil_new hnew (fun e => VR.nilLen hxr e)
            split at hQ
            · rename_i hone
              obtain ⟨xb', xc', rfl⟩ : ∃ b c, x' = .slice b n c := by cases hxr <;> exact ⟨_, _, rfl⟩
              obtain ⟨_, new', hnew', hn⟩ := rsim_firstCells hxr (size := i.size) (n := n) (fun a l c e => by simp only [Value.slice.injEq] at e; omega) β1 _ w (.refl _) hR new _ hnew
              -- a closed one that must grow
              have grow : ∀ {σ1 : World} {v : Value}, (growCells P w1 elem i.size sLen (.slice base sLen sCap) new n).all (fun x => x = (v, σ1)) → (∀ b l c, s' = .slice b l c → ¬ sLen + n ≤ c) →
                  ∃ β2 v' w', β1.le β2 ∧ (Builtin.append_ at_ ty args').run P w = .ok v' w' ∧ R P B w0 β2 σ1 w' ∧ VR β2 v v' := by
                intro σ1 v hv hroom
                unfold growCells at hv
                split at hv
                · rename_i old w2 hold
                  have hw2 := (firstCells_spec hold).1
                  subst hw2
                  have hos : old.size = sLen * i.size := nil_new hold (fun e => VR.nilLen hsr e)
                  simp only [newCells, T.all, Prod.mk.injEq] at hv
                  obtain ⟨rfl, rfl⟩ := hv
                  exact tsim_grow_closed h0 h1 hs hx hi ha0' ha1' hsr hxr hz hsz hb0 hb hR hnew hold (by rw [Array.size_append, hos, hns, Nat.add_mul]) hroom
                · exact hv.elim
              have one : ∀ {t : T (Value × World)} {Q : Value × World → Prop}, (∀ {a b}, t = .ret (a, b) → True) → t.all Q → (∃ v σ1, t.all (fun x => x = (v, σ1)) ∧ Q (v, σ1)) ∨ ∃ n k, t = .pick n k := by
                intro t Q _ h
                cases t with
                | ret a => exact .inl ⟨a.1, a.2, rfl, h⟩
                | bad => exact h.elim
                | pick n k => exact .inr ⟨n, k, rfl⟩
              have grow1 : ∀ {Q : Value × World → Prop}, (growCells P w1 elem i.size sLen (.slice base sLen sCap) new n).all Q →
                  ∃ v σ1, (growCells P w1 elem i.size sLen (.slice base sLen sCap) new n).all (fun x => x = (v, σ1)) ∧ Q (v, σ1) := by
                intro Q h
                rcases one (fun _ => trivial) h with h | ⟨n, k, h⟩
                · exact h
                · exfalso
                  unfold growCells at h
                  split at h <;> cases h
              by_cases hclosed : sCap < OPEN
              · rw [if_pos hclosed] at hQ
                by_cases hroom : sLen + n ≤ sCap
                · rw [if_pos hroom] at hQ
                  cases hsr with
                  | nilSlice =>
                    have hn0 : n = 0 := by omega
                    subst hn0
                    have hrun := run_append_in (ty := ty) (w := w) (w2 := w) h0 h1 ha0' ha1' hs hx hi (by omega) hnew' rfl
                    exact ⟨β1, _, w1, _, w, .refl _, hrun, hR, .nilSlice, hQ⟩
                  | @slice b o _ _ o' cap' bi hbi hsc =>
                    dsimp only at hQ
                    rcases hsc with ⟨_, rfl, hlen, ho⟩ | ⟨h, _⟩ | ⟨h, _⟩
                    · split at hQ
                      · rename_i u w2 hst
                        by_cases hc0 : cap' = 0
                        · have hn0 : n = 0 := by omega
                          subst hn0
                          have he : new = #[] := Array.eq_empty_of_size_eq_zero (by rw [hns]; simp)
                          subst he
                          have he' : new' = #[] := Array.eq_empty_of_size_eq_zero (by rw [← hn.1]; rfl)
                          subst he'
                          simp only [storeCells, Sem.run_pure, Result.ok.injEq] at hst
                          obtain ⟨_, rfl⟩ := hst
                          have hrun := run_append_in (ty := ty) (w := w) (w2 := w) h0 h1 ha0' ha1' hs hx hi (by omega) hnew' (by simp [storeCells, Sem.run_pure])
                          exact ⟨β1, _, _, _, w, .refl _, hrun, hR, .slice hbi (.inl ⟨hclosed, rfl, hroom, .inr hc0⟩), hQ⟩
                        · have ho' : o' = o + bi.d := ho.resolve_right hc0
                          subst ho'
                          have hp : PR β1 ⟨b, o, none⟩ ⟨bi.r, o + bi.d, none⟩ := ⟨b, o, bi, hbi, rfl, rfl⟩
                          obtain ⟨β2, _, w3, hle2, hst', hR2, _⟩ := sim_storeCells (P := P) (B := B) (w0 := w0) _ _ 0 (hp.add (sLen * i.size)) hn.lr β1 _ w (.refl _) hR _ _ hst
                          have hrun := run_append_in (ty := ty) (w := w) (w2 := w3) h0 h1 ha0' ha1' hs hx hi hroom hnew' hst'
                          exact ⟨β2, _, _, _, w3, hle2, hrun, hR2, .slice (hle2 _ _ hbi) (.inl ⟨hclosed, rfl, hroom, .inl rfl⟩), hQ⟩
                      · exact hQ.elim
                    · omega
                    · omega
                · rw [if_neg hroom] at hQ
                  obtain ⟨v, σ1, hv, hq⟩ := grow1 hQ
                  obtain ⟨β2, v', w', g1, g2, g3, g4⟩ := grow hv (fun b l c e => by
                    subst e
                    cases hsr with
                    | nilSlice => exact hroom
                    | slice hbi hsc =>
                      rcases hsc with ⟨_, rfl, _⟩ | ⟨h, _⟩ | ⟨h, _⟩
                      · exact hroom
                      · omega
                      · omega)
                  exact ⟨β2, v, σ1, v', w', g1, g2, g3, g4, hq⟩
              · rw [if_neg hclosed] at hQ
                by_cases hopen : sCap = OPEN
                · subst hopen
                  rw [if_pos rfl] at hQ
                  cases hsr with
                  | @slice b o _ _ o' cap' bi hbi hsc =>
                    dsimp only at hQ
                    rcases hsc with ⟨h, _⟩ | ⟨_, hes, hsc⟩ | ⟨h, _⟩
                    · exact absurd h (Nat.lt_irrefl _)
                    rotate_left
                    · exact absurd h (Nat.lt_irrefl _)
                    split at hQ
                    · rename_i c e hc
                      split at hQ
                      · rename_i hcond2
                        obtain ⟨rfl, _⟩ := hcond2
                        have hies : i.size = bi.es := hR.esz _ _ _ _ _ hc rfl hbi i hi
                        have hcn : c.size = bi.n := by
                          obtain ⟨ob, _, hor⟩ := hR.obj _ _ _ hc hbi rfl
                          cases hor; assumption
                        split at hQ
                        · -- in place in both
                          rename_i hfit
                          split at hQ
                          · rename_i u w2 hst
                            rcases hsc with ⟨rfl, g1, g2, g3⟩ | ⟨rfl, rfl, g1⟩
                            · have hroom : sLen + n ≤ cap' := by
                                refine Nat.le_of_mul_le_mul_right (c := bi.es) ?_ hes
                                simp only [hies] at hfit
                                omega
                              have hp : PR β1 ⟨b, o, none⟩ ⟨bi.r, o + bi.d, none⟩ := ⟨b, o, bi, hbi, rfl, rfl⟩
                              obtain ⟨β2, _, w3, hle2, hst', hR2, _⟩ := sim_storeCells (P := P) (B := B) (w0 := w0) _ _ 0 (hp.add (sLen * i.size)) hn.lr β1 _ w (.refl _) hR _ _ hst
                              have hrun := run_append_in (ty := ty) (w := w) (w2 := w3) h0 h1 ha0' ha1' hs hx hi hroom hnew' hst'
                              exact ⟨β2, _, _, _, w3, hle2, hrun, hR2, .slice (hle2 _ _ hbi) (.inr (.inl ⟨rfl, hes, .inl ⟨rfl, g1, hroom, g3⟩⟩)), hQ⟩
                            · have hn0 : n = 0 := by
                                have : (0 + n) * bi.es = 0 := by simp only [hies] at hfit; omega
                                rcases Nat.mul_eq_zero.1 this with h | h <;> omega
                              subst hn0
                              have he : new = #[] := Array.eq_empty_of_size_eq_zero (by rw [hns]; simp)
                              subst he
                              have he' : new' = #[] := Array.eq_empty_of_size_eq_zero (by rw [← hn.1]; rfl)
                              subst he'
                              simp only [storeCells, Sem.run_pure, Result.ok.injEq] at hst
                              obtain ⟨_, rfl⟩ := hst
                              have hrun := run_append_in (ty := ty) (w := w) (w2 := w) h0 h1 ha0' ha1' hs hx hi (by omega) hnew' (by simp [storeCells, Sem.run_pure])
                              exact ⟨β1, _, _, _, w, .refl _, hrun, hR, .slice hbi (.inr (.inl ⟨rfl, hes, .inr ⟨rfl, rfl, g1⟩⟩)), hQ⟩
                          · exact hQ.elim
                        · split at hQ
                          · exact hQ.elim
                          · rename_i hpos
                            obtain ⟨v, σ1, hv, hq⟩ := grow1 (T.all_bind.1 hQ)
                            by_cases hroom : sLen + n ≤ cap'
                            · unfold growCells at hv
                              split at hv
                              · rename_i old w2 hold
                                have hw2 := (firstCells_spec hold).1
                                subst hw2
                                have hos : old.size = sLen * i.size := nil_new hold (fun e => by cases e)
                                simp only [newCells, T.all, Prod.mk.injEq] at hv
                                obtain ⟨rfl, rfl⟩ := hv
                                rcases hsc with ⟨ho', g1, g2, g3⟩ | ⟨rfl, rfl, g1⟩
                                · obtain ⟨β2, v', w', q1, q2, q3, q4⟩ := tsim_grow_place (ty := ty) h0 h1 hs hx hi hbi hc ho' g3 hes ha0' ha1' hxr hroom hR hnew hone hns hold hos
                                  exact ⟨β2, _, _, v', w', q1, q2, q3, q4, hq⟩
                                · exact absurd (by omega) hpos
                              · exact hv.elim
                            · obtain ⟨β2, v', w', q1, q2, q3, q4⟩ := grow hv (fun b l c e => by
                                simp only [Value.slice.injEq] at e
                                obtain ⟨_, _, rfl⟩ := e
                                exact hroom)
                              have hb2 : b < σ1.heap.size := q3.dom _ _ (q1 _ _ hbi)
                              exact ⟨β2, _, _, v', w', q1, q2, q3.kill hb2, q4, hq⟩
                      · exact hQ.elim
                    · exact hQ.elim
                · rw [if_neg hopen] at hQ
                  exact hQ.elim
            · exact hQ.elim
          · exact hQ.elim
        · exact hQ.elim
      · exact hQ.elim
    · exact hQ.elim
  · exact hQ.elim
end
end Go.Ideal
namespace Go.Ideal
open Go
inductive NR (β : Beta) : Next → Next → Prop
  | value {v v' : Value} (h : VR β v v') : NR β (.value v) (.value v')
  | skip : NR β .skip .skip
  | enter (f : FuncId) {args args' : Array Value} (h : AR β args args') : NR β (.enter f args) (.enter f args')
  | round {l : Nat} {bi : BI} (hl : β l = some bi) (f f' : FuncId) {tmps tmps' : Array Value} (h : AR β tmps tmps') (assign body : Code) :
      NR β (.round l f tmps assign body) (.round bi.r f' tmps' assign body)
section
variable {P : Program} {B : Nat} {w0 : Base} {β : Beta}
theorem ERL.filter {β : Beta} {p : MapEntry → Bool} (hp : ∀ x x', ER β x x' → p x = p x') : ∀ {l m : List MapEntry}, ERL β l m → ERL β (l.filter p) (m.filter p)
  | [], [], _ => trivial
  | a :: l, b :: m, h => by
    simp only [List.filter_cons, ← hp a b h.1]
    split
    · exact ⟨h.1, ERL.filter hp h.2⟩
    · exact ERL.filter hp h.2
  | [], _ :: _, h => h.elim
  | _ :: _, [], h => h.elim
theorem ERL.length {β : Beta} : ∀ {l m : List MapEntry}, ERL β l m → l.length = m.length
  | [], [], _ => rfl
  | _ :: _, _ :: _, h => by simp [ERL.length h.2]
  | [], _ :: _, h => h.elim
  | _ :: _, [], h => h.elim
theorem ERL.index {β : Beta} : ∀ {l m : List MapEntry}, ERL β l m → ∀ (i : Nat) (v v' : MapEntry), l[i]? = some v → m[i]? = some v' → ER β v v'
  | [], [], _, i, v, v', h, _ => by simp at h
  | a :: l, b :: m, hl, 0, v, v', h, h' => by
    simp at h h'; subst h; subst h'; exact hl.1
  | a :: l, b :: m, hl, i + 1, v, v', h, h' => ERL.index hl.2 i v v' (by simpa using h) (by simpa using h')
  | [], _ :: _, h, _, _, _, _, _ => h.elim
  | _ :: _, [], h, _, _, _, _, _ => h.elim
theorem EAR.filter {β : Beta} {es es' : Array MapEntry} (h : EAR β es es') {p : MapEntry → Bool} (hp : ∀ x x', ER β x x' → p x = p x') : EAR β (es.filter p) (es'.filter p) := by
  have := h.list.filter hp
  rw [← Array.toList_filter, ← Array.toList_filter] at this
  refine ⟨?_, fun i x x' e e' => this.index i x x' ?_ ?_⟩
  · have := this.length; rwa [Array.length_toList, Array.length_toList] at this
  · rw [Array.getElem?_toList]; exact e
  · rw [Array.getElem?_toList]; exact e'
theorem EAR.append {β : Beta} {c c' d d' : Array MapEntry} (h : EAR β c c') (k : EAR β d d') : EAR β (c ++ d) (c' ++ d') := by
  refine ⟨by simp [h.1, k.1], fun i x x' e e' => ?_⟩
  rw [Array.getElem?_append] at e e'
  rw [h.1] at e
  by_cases hi : i < c'.size
  · rw [if_pos hi] at e e'
    exact h.2 i x x' e e'
  · rw [if_neg hi] at e e'
    exact k.2 _ x x' e e'
theorem EAR.all {β : Beta} {es es' : Array MapEntry} (h : EAR β es es') {p : MapEntry → Bool} (hp : ∀ x x', ER β x x' → p x = p x') : es.all p = es'.all p := by
  rw [Bool.eq_iff_iff, Array.all_eq_true, Array.all_eq_true]
  constructor
  · intro g i hi
    have hi' : i < es.size := by rw [h.1]; exact hi
    rw [← hp _ _ (h.2 i es[i] es'[i] (by simp [hi']) (by simp [hi]))]
    exact g i hi'
  · intro g i hi
    have hi' : i < es'.size := by rw [← h.1]; exact hi
    rw [hp _ _ (h.2 i es[i] es'[i] (by simp [hi]) (by simp [hi']))]
    exact g i hi'
theorem tsim_next {x x' : Value} (hx : VR β x x') (isS : Bool) (ty : TypeId) : TSim P B w0 β (inext P x isS ty) (Instr.next x' isS ty) VR := by
  intro β1 σ w hle hR Q hQ
  cases hx with
  | @ptr b o bi hb =>
    cases o with
    | succ o => exact hQ.elim
    | zero =>
      simp only [inext] at hQ
      have hb1 := hle _ _ hb
      cases ho : σ.heap[b]? with
      | none => rw [ho] at hQ; exact hQ.elim
      | some ob =>
        rw [ho] at hQ
        cases ob with
        | mapIter m since seen last =>
          obtain ⟨o', ho', hor⟩ := hR.obj _ _ _ ho hb1 rfl
          cases m with
          | none =>
            cases isS with
            | true => exact hQ.elim
            | false =>
              cases hor with
              | nilIter _ _ _ h0 =>
                refine ⟨β1, _, σ, .tuple #[.bool false], w, .refl _, ?_, hR, ?_, hQ⟩
                · unfold Instr.next
                  rw [h0]
                  simp [getObj, Sem.run, ho', Result.andThen, Sem.run_pure]
                · have := (AR.empty β1).push (VR.bool false)
                  exact .tuple this.1 this.2
          | some m =>
            cases isS with
            | true => exact hQ.elim
            | false =>
              dsimp only at hQ
              cases hm : σ.heap[m]? with
              | none => rw [hm] at hQ; exact hQ.elim
              | some om =>
                rw [hm] at hQ
                cases om with
                | map es clock =>
                  dsimp only at hQ
                  cases hor with
                  | @mapIter _ bm hbm _ _ _ h0 =>
                    obtain ⟨om', hom', hor2⟩ := hR.obj _ _ _ hm hbm rfl
                    cases hor2 with
                    | @map _ es' _ hs he =>
                      have hear : EAR β1 es es' := ⟨hs, he⟩
                      split at hQ
                      · exact hQ.elim
                      · rename_i hcond
                        have hp1 : ∀ x x', ER β1 x x' → (!seen.contains x.born) = (!seen.contains x'.born) := fun x x' h => by rw [h.born]
                        have hp2 : ∀ x x', ER β1 x x' → decide (x.born < since) = decide (x'.born < since) := fun x x' h => by rw [h.born]
                        have hp3 : ∀ x x', ER β1 x x' → decide (x.born ≥ since) = decide (x'.born ≥ since) := fun x x' h => by rw [h.born]
                        have hp4 : ∀ x x', ER β1 x x' → decide (x.born ≥ last) = decide (x'.born ≥ last) := fun x x' h => by rw [h.born]
                        have hl := hear.filter hp1
                        have hold := hl.filter hp2
                        have hnew := hl.filter hp3
                        obtain ⟨left, hleft⟩ : ∃ left, left = es.filter (fun e => !seen.contains e.born) := ⟨_, rfl⟩
                        obtain ⟨left', hleft'⟩ : ∃ left', left' = es'.filter (fun e => !seen.contains e.born) := ⟨_, rfl⟩
                        rw [← hleft, ← hleft'] at hold hnew
                        rw [← hleft] at hQ
                        have happ := hold.append hnew
                        have hempty : (left.filter (fun e => decide (e.born < since))).isEmpty = (left'.filter (fun e => decide (e.born < since))).isEmpty := by simp [Array.isEmpty, hold.1]
                        obtain ⟨cand, hcand⟩ : ∃ cand, cand = (if (left.filter (fun e => decide (e.born < since))).isEmpty then #[none] else #[]) ++ (left.filter (fun e => decide (e.born < since)) ++ left.filter (fun e => decide (e.born ≥ since))).map some := ⟨_, rfl⟩
                        obtain ⟨cand', hcand'⟩ : ∃ cand', cand' = (if (left'.filter (fun e => decide (e.born < since))).isEmpty then #[none] else #[]) ++ (left'.filter (fun e => decide (e.born < since)) ++ left'.filter (fun e => decide (e.born ≥ since))).map some := ⟨_, rfl⟩
                        rw [← hcand] at hQ
                        have hsz : cand.size = cand'.size := by
                          rw [hcand, hcand', ← hempty]
                          simp only [Array.size_append, Array.size_map, happ.1]
                        have hci : ∀ i : Nat, (∃ e e' : MapEntry, cand[i]? = some (some e) ∧ cand'[i]? = some (some e') ∧ ER β1 e e') ∨ (cand[i]? = some none ∧ cand'[i]? = some none) ∨ (cand[i]? = none ∧ cand'[i]? = none) := by
                          intro i
                          rw [hcand, hcand', ← hempty]
                          have tail : ∀ k : Nat, (∃ e e' : MapEntry, ((left.filter (fun e => decide (e.born < since)) ++ left.filter (fun e => decide (e.born ≥ since))).map some)[k]? = some (some e) ∧ ((left'.filter (fun e => decide (e.born < since)) ++ left'.filter (fun e => decide (e.born ≥ since))).map some)[k]? = some (some e') ∧ ER β1 e e') ∨
                              (((left.filter (fun e => decide (e.born < since)) ++ left.filter (fun e => decide (e.born ≥ since))).map some)[k]? = none ∧ ((left'.filter (fun e => decide (e.born < since)) ++ left'.filter (fun e => decide (e.born ≥ since))).map some)[k]? = none) := by
                            intro k
                            simp only [Array.getElem?_map]
                            cases hg : (left.filter (fun e => decide (e.born < since)) ++ left.filter (fun e => decide (e.born ≥ since)))[k]? with
                            | none =>
                              have : (left'.filter (fun e => decide (e.born < since)) ++ left'.filter (fun e => decide (e.born ≥ since)))[k]? = none := by
                                rw [Array.getElem?_eq_none_iff] at hg ⊢
                                rw [← happ.1]; exact hg
                              rw [this]
                              exact .inr ⟨rfl, rfl⟩
                            | some e =>
                              obtain ⟨e', h1, h2⟩ := happ.get hg
                              rw [h1]
                              exact .inl ⟨e, e', rfl, rfl, h2⟩
                          by_cases hemp : (left.filter (fun e => decide (e.born < since))).isEmpty = true
                          · rw [if_pos hemp]
                            cases i with
                            | zero => exact .inr (.inl ⟨by rw [Array.getElem?_append_left (by simp)]; rfl, by rw [Array.getElem?_append_left (by simp)]; rfl⟩)
                            | succ i =>
                              rw [Array.getElem?_append_right (by simp), Array.getElem?_append_right (by simp)]
                              rcases tail (i + 1 - (#[none] : Array (Option MapEntry)).size) with h | h
                              · exact .inl h
                              · exact .inr (.inr h)
                          · rw [if_neg hemp]
                            rw [Array.empty_append, Array.empty_append]
                            rcases tail i with h | h
                            · exact .inl h
                            · exact .inr (.inr h)
                        have hch : 0 < cand'.size → ∃ j wj, j < cand'.size ∧ (wj = w ∨ wj = w.drew) ∧ (choose (Question.mapNext cand'.size)).run P w = .ok j wj := by
                          intro hpos
                          simp only [choose, Sem.run]
                          by_cases hf : (Question.mapNext cand'.size).forced = true
                          · rw [if_pos hf]
                            exact ⟨0, w, hpos, .inl rfl, rfl⟩
                          · rw [if_neg hf]
                            exact ⟨_, w.drew, Nat.mod_lt _ hpos, .inr rfl, rfl⟩
                        obtain ⟨hpos, hall⟩ := hQ
                        obtain ⟨j, wj, hj, hwj, hchoose⟩ := hch (hsz ▸ hpos)
                        have hQj := hall j (by rw [hsz]; exact hj)
                        dsimp only at hQj
                        have hRj : R P B w0 β1 σ wj := by
                          rcases hwj with rfl | rfl
                          · exact hR
                          · exact hR.drew
                        have hoj : wj.heap[bi.r]? = some (.mapIter (some bm.r) since seen last) := by rcases hwj with rfl | rfl <;> exact ho'
                        have hcond' : (!seen.isEmpty && !es'.isEmpty && es'.all fun x => decide (x.born ≥ last)) = false := by
                          rw [← hear.all hp4, show es'.isEmpty = es.isEmpty by simp [Array.isEmpty, hear.1]]
                          simpa using hcond
                        have hhead : ∀ {r : Result Value}, ((do
                              match cand'[j]? with
                              | some (some e) =>
                                setObj bi.r (.mapIter (some bm.r) since (seen.push e.born) clock)
                                pure (.tuple #[.bool true, e.key, e.val])
                              | some none => pure (.tuple #[.bool false])
                              | none => Go.stuck "Next: no such candidate") : Sem Value).run P wj = r → (Instr.next (.pointer (some ⟨bi.r, 0 + bi.d, none⟩)) false ty).run P w = r := by
                          intro r hr
                          rw [h0]
                          unfold Instr.next
                          simp only [Nat.add_zero, Sem.run_bind]
                          rw [show (getObj bi.r).run P w = .ok (.mapIter (some bm.r) since seen last) w by simp [getObj, Sem.run, ho']]
                          simp only [Result.andThen, Sem.run_bind]
                          rw [show (getObj bm.r).run P w = .ok (.map es' clock) w by simp [getObj, Sem.run, hom']]
                          simp only
                          rw [if_neg (by rw [hcond']; exact Bool.false_ne_true)]
                          simp only [Sem.run_bind]
                          rw [← hleft', ← hcand', hchoose]
                          simp only [Result.andThen]
                          exact hr
                        rcases hci j with ⟨e, e', g1, g2, g3⟩ | ⟨g1, g2⟩ | ⟨g1, g2⟩
                        · rw [g1] at hQj
                          have hkey : e.key = e'.key := g3.key.1
                          have hset : (setObj bi.r (.mapIter (some bm.r) since (seen.push e'.born) clock)).run P wj = .ok () (putObj wj bi.r (.mapIter (some bm.r) since (seen.push e'.born) clock)) := by
                            simp only [setObj, Sem.run, hoj]
                            rfl
                          have hrun := hhead (r := .ok (.tuple #[.bool true, e'.key, e'.val]) (putObj wj bi.r (.mapIter (some bm.r) since (seen.push e'.born) clock))) (by
                            rw [g2]
                            simp only [Sem.run_bind, hset, Result.andThen, Sem.run_pure])
                          have hR2 := hRj.putObj hb1 ho rfl (o := .mapIter (some m) since (seen.push e.born) clock) (o' := .mapIter (some bm.r) since (seen.push e.born) clock)
                            (.mapIter hbm since (seen.push e.born) clock h0) rfl (fun _ _ _ h => by cases h)
                          rw [g3.born] at hR2
                          have hkv : VR β1 e.key e'.key := by
                            rw [← hkey]
                            obtain ⟨a, b, hab⟩ := keyFit_int g3.key.2
                            rw [hab]; exact .int a b
                          have htup := (((AR.empty β1).push (VR.bool true)).push hkv).push g3.val
                          refine ⟨β1, .tuple #[.bool true, e.key, e.val], _, _, _, .refl _, hrun, hR2, .tuple htup.1 htup.2, ?_⟩
                          rw [← g3.born]; exact hQj
                        · rw [g1] at hQj
                          have hrun := hhead (r := .ok (.tuple #[.bool false]) wj) (by rw [g2]; simp only [Sem.run_pure])
                          have := (AR.empty β1).push (VR.bool false)
                          exact ⟨β1, _, σ, _, wj, .refl _, hrun, hRj, .tuple this.1 this.2, hQj⟩
                        · rw [g1] at hQj
                          exact hQj.elim
                | _ => exact hQ.elim
        | stringIter s p =>
          cases isS with
          | false => exact hQ.elim
          | true =>
            obtain ⟨o', ho', hor⟩ := hR.obj _ _ _ ho hb1 rfl
            cases hor with
            | stringIter _ _ h0 =>
              have ha : ∀ {w1 : World} {r : Nat}, w1.heap[r]? = some (.stringIter s p) → (Instr.next (.pointer (some ⟨r, 0, none⟩)) true ty).run P w1 =
                  if p < s.size then .ok (.tuple #[.bool true, goInt p, .int .i32 (Utf8.decode s p).1]) (putObj w1 r (.stringIter s (p + (Utf8.decode s p).2))) else .ok (.tuple #[.bool false]) w1 := by
                intro w1 r h
                unfold Instr.next
                simp only [Sem.run_bind, show (getObj r).run P w1 = .ok (.stringIter s p) w1 by simp [getObj, Sem.run, h], Result.andThen]
                split
                · simp only [Sem.run_bind, show ∀ o, (setObj r o).run P w1 = .ok () (putObj w1 r o) by intro o; simp only [setObj, Sem.run, h]; rfl, Result.andThen, Sem.run_pure]
                · simp only [Sem.run_pure]
              rw [ha ho] at hQ
              have hr := ha ho'
              by_cases hp : p < s.size
              · rw [if_pos hp] at hQ hr
                have := (((AR.empty β1).push (VR.bool true)).push (VR.int .i64 p)).push (VR.int .i32 (Utf8.decode s p).1)
                exact ⟨β1, _, _, _, _, .refl _, by rw [h0]; exact hr, hR.putObj hb1 ho rfl (.stringIter s _ h0) rfl (fun _ _ _ h => by cases h), .tuple this.1 this.2, hQ⟩
              · rw [if_neg hp] at hQ hr
                have := (AR.empty β1).push (VR.bool false)
                exact ⟨β1, _, _, _, _, .refl _, by rw [h0]; exact hr, hR, .tuple this.1 this.2, hQ⟩
        | _ => exact hQ.elim
  | nilPtr => exact hQ.elim
  | _ => exact hQ.elim
end
end Go.Ideal
namespace Go.Ideal
open Go
section
variable {P : Program} {B : Nat} {w0 : Base} {β : Beta}
theorem of_rsim {I : Beta → World → World → Prop} {s s' : Sem Value} (h : RSim I P β s s' VR) {σ w : World} (hI : I β σ w) {Q : Next × World → Prop}
    (hQ : (ofRun ((do pure (Next.value (← s)) : Sem Next).run P σ)).all Q) :
    ∃ v v', Q (.value v, σ) ∧ (do pure (Next.value (← s')) : Sem Next).run P w = .ok (.value v') w ∧ VR β v v' := by
  rw [Sem.run_bind] at hQ
  cases hs : s.run P σ with
  | halt x y => rw [hs] at hQ; exact hQ.elim
  | ok v σ1 =>
    rw [hs] at hQ
    obtain ⟨rfl, v', h1, h2⟩ := h β σ w (.refl _) hI v σ1 hs
    exact ⟨v, v', by simpa [Result.andThen, Sem.run_pure, ofRun, T.all] using hQ, by rw [Sem.run_bind, h1]; rfl, h2⟩
theorem of_rsimP {s s' : Sem Value} (h : RSim (fun _ _ _ => True) P β s s' VR) {σ w : World} {Q : Next × World → Prop}
    (hQ : (ofRun ((do pure (Next.value (← s)) : Sem Next).run P σ)).all Q) :
    ∃ v v', Q (.value v, σ) ∧ (do pure (Next.value (← s')) : Sem Next).run P w = .ok (.value v') w ∧ VR β v v' := of_rsim h (I := fun _ _ _ => True) trivial hQ
theorem of_sim {s s' : Sem Value} (h : Sim P B w0 β s s' VR) {σ w : World} (hI : R P B w0 β σ w) {Q : Next × World → Prop}
    (hQ : (ofRun ((do pure (Next.value (← s)) : Sem Next).run P σ)).all Q) :
    ∃ β2 nx σ' nx' w', β.le β2 ∧ (do pure (Next.value (← s')) : Sem Next).run P w = .ok nx' w' ∧ R P B w0 β2 σ' w' ∧ NR β2 nx nx' ∧ Q (nx, σ') := by
  rw [Sem.run_bind] at hQ
  cases hs : s.run P σ with
  | halt x y => rw [hs] at hQ; exact hQ.elim
  | ok v σ1 =>
    rw [hs] at hQ
    obtain ⟨β2, v', w', h0, h1, h2, h3⟩ := h β σ w (.refl _) hI v σ1 hs
    exact ⟨β2, .value v, σ1, .value v', w', h0, by rw [Sem.run_bind, h1]; rfl, h2, .value h3, by simpa [Result.andThen, Sem.run_pure, ofRun, T.all] using hQ⟩
theorem of_simU {s s' : Sem Unit} (h : Sim P B w0 β s s' (fun _ _ _ => True)) {σ w : World} (hI : R P B w0 β σ w) {Q : Next × World → Prop}
    (hQ : (ofRun ((do s; pure Next.skip : Sem Next).run P σ)).all Q) :
    ∃ β2 nx σ' nx' w', β.le β2 ∧ (do s'; pure Next.skip : Sem Next).run P w = .ok nx' w' ∧ R P B w0 β2 σ' w' ∧ NR β2 nx nx' ∧ Q (nx, σ') := by
  rw [Sem.run_bind] at hQ
  cases hs : s.run P σ with
  | halt x y => rw [hs] at hQ; exact hQ.elim
  | ok v σ1 =>
    rw [hs] at hQ
    obtain ⟨β2, v', w', h0, h1, h2, h3⟩ := h β σ w (.refl _) hI v σ1 hs
    exact ⟨β2, .skip, σ1, .skip, w', h0, by rw [Sem.run_bind, h1]; rfl, h2, .skip, by simpa [Result.andThen, Sem.run_pure, ofRun, T.all] using hQ⟩
theorem of_tsim {t : World → T (Value × World)} {s' : Sem Value} (h : TSim P B w0 β t s' VR) {σ w : World} (hI : R P B w0 β σ w) {Q : Next × World → Prop}
    (hQ : ((t σ).bind fun (x, w) => .ret (Next.value x, w)).all Q) :
    ∃ β2 nx σ' nx' w', β.le β2 ∧ (do pure (Next.value (← s')) : Sem Next).run P w = .ok nx' w' ∧ R P B w0 β2 σ' w' ∧ NR β2 nx nx' ∧ Q (nx, σ') := by
  obtain ⟨β2, v, σ', v', w', h0, h1, h2, h3, h4⟩ := h β σ w (.refl _) hI _ (T.all_bind.1 hQ)
  exact ⟨β2, .value v, σ', .value v', w', h0, by rw [Sem.run_bind, h1]; rfl, h2, .value h3, h4⟩
def Rho (β : Beta) (o : Oper) (ρ ρ' : Operand → Value) : Prop := ∀ x ∈ o.op.operands.toList, constFit x = true → VR β (ρ x) (ρ' x)
theorem rho_map {ρ ρ' : Operand → Value} (l : Array Operand) (hl : ∀ x ∈ l.toList, VR β (ρ x) (ρ' x)) : AR β (l.map ρ) (l.map ρ') := by
  refine ⟨by simp, fun i v v' e e' => ?_⟩
  simp only [Array.getElem?_map, Option.map_eq_some_iff] at e e'
  obtain ⟨x, hx, rfl⟩ := e
  obtain ⟨y, hy, rfl⟩ := e'
  rw [hx] at hy
  simp only [Option.some.injEq] at hy
  subst hy
  exact hl x (by simpa using Array.mem_of_getElem? hx)
theorem rho_parts {ρ ρ' : Operand → Value} : ∀ (l : List (Nat × Operand)), (∀ p ∈ l, VR β (ρ p.2) (ρ' p.2)) → PartR β (l.map fun (i, x) => (i, ρ x)) (l.map fun (i, x) => (i, ρ' x))
  | [], _ => trivial
  | (i, x) :: l, hl => ⟨rfl, hl (i, x) (by simp), rho_parts l fun p hp => hl p (by simp [hp])⟩
theorem rho_opt {ρ ρ' : Operand → Value} (l : Option Operand) (hl : ∀ x ∈ l.toArray.toList, VR β (ρ x) (ρ' x)) : OVR β (l.map ρ) (l.map ρ') := by
  cases l with
  | none => trivial
  | some x => exact hl x (by simp)
theorem rsim_typeAssert {I : Beta → World → World → Prop} {t : TypeId} (hp : plainTy P t = true) (xt : TypeId) (ok : Bool) {v v' : Value} (h : VR β v v') : RSim I P β (Instr.typeAssert (.iface t v) xt t ok) (Instr.typeAssert (.iface t v') xt t ok) VR := by
  unfold Instr.typeAssert
  refine RSim.under fun d hd => ?_
  unfold plainTy at hp
  rw [hd] at hp
  have fin : RSim I P β (Pure.pure (if ok = true then .tuple #[v, .bool true] else v)) (Pure.pure (if ok = true then .tuple #[v', .bool true] else v')) VR := by
    refine RSim.pure fun β1 hle => ?_
    cases ok with
    | false => exact h.mono hle
    | true =>
      refine .tuple rfl fun i x y e e' => ?_
      match i with
      | 0 => simp at e e'; subst e; subst e'; exact h.mono hle
      | 1 => simp at e e'; subst e; subst e'; exact .bool true
      | n + 2 => simp at e
  cases d <;> first | (cases hp; done) | (simp only [if_true]; exact fin)
theorem istep_consts {ρ : Operand → Value} {o : Oper} {σ : World} {Q : Next × World → Prop} (h : (istep P ρ o σ).all Q) : o.op.operands.all constFit = true := by
  cases hc : o.op.operands.all constFit with
  | true => rfl
  | false => simp only [istep, hc, Bool.false_eq_true, if_false] at h; exact h.elim
theorem never_nil {α : Type} : Never (runtimePanic .nilDeref : Sem α) P := never_runtimePanic _
theorem never_all {α : Type} {s : Sem α} (h : Never s P) {σ : World} {Q : α × World → Prop} (hQ : (ofRun (s.run P σ)).all Q) : False := by
  cases hs : s.run P σ with
  | halt x y => rw [hs] at hQ; exact hQ
  | ok v σ1 => exact h σ v σ1 hs
theorem keys_of_all {ρ : Operand → Value} {args : Array Operand} (hk : (args.toList.all fun x => keyFit (ρ x)) = true) : ∀ y ∈ (args.map ρ).toList, keyFit y = true := by
  rw [List.all_eq_true] at hk
  intro y hy
  rw [Array.toList_map, List.mem_map] at hy
  obtain ⟨x, hx, rfl⟩ := hy
  exact hk x hx
theorem pure_istep {ρ ρ' : Operand → Value} {o : Oper} (hρ : Rho β o ρ ρ') (ha : acts o.op = false) (hr : reads o.op = false) (σ w : World) {Q : Next × World → Prop} (hQ : (istep P ρ o σ).all Q) :
    ∃ v v', Q (.value v, σ) ∧ (execOp ρ' o).run P w = .ok (.value v') w ∧ VR β v v' := by
  have hc := istep_consts hQ
  simp only [istep, hc, if_true] at hQ
  obtain ⟨dst, op, ty, pos, after, guard⟩ := o
  have hop : ∀ x ∈ op.operands.toList, constFit x = true := fun x hx => by
    have h0 := Array.all_eq_true.1 hc
    obtain ⟨i, hi, rfl⟩ := List.mem_iff_getElem.1 hx
    exact h0 i (by simpa using hi)
  have hv : ∀ x ∈ op.operands.toList, VR β (ρ x) (ρ' x) := fun x hx => hρ x hx (hop x hx)
  simp only at ha hr
  cases op with
  | move x => exact ⟨ρ x, ρ' x, by simpa [execOp, Sem.run_pure, ofRun, T.all] using hQ, by simp [execOp, Sem.run_pure], hv x (by simp [Op.operands])⟩
  | assign x => exact ⟨ρ x, ρ' x, by simpa [execOp, Sem.run_pure, ofRun, T.all] using hQ, by simp [execOp, Sem.run_pure], hv x (by simp [Op.operands])⟩
  | pick c x y =>
    have hcx := hv c (by simp [Op.operands])
    have hx := hv x (by simp [Op.operands])
    have hy := hv y (by simp [Op.operands])
    have : RSim (fun _ _ _ => True) P β (do pure (if ← asBool (ρ c) then ρ x else ρ y)) (do pure (if ← asBool (ρ' c) then ρ' x else ρ' y)) VR :=
      RSim.bind (rsim_asBool hcx) fun β1 a b hle e => by
        subst e
        refine RSim.pure fun β2 hle2 => ?_
        cases a with
        | true => exact (hx.mono hle).mono hle2
        | false => exact (hy.mono hle).mono hle2
    have := of_rsimP this (Q := Q) (σ := σ) (w := w) (by simpa [execOp, Sem.run_bind, Result.andThen, Sem.run_pure] using hQ)
    simpa [execOp, Sem.run_bind, Result.andThen, Sem.run_pure] using this
  | nilCheck x =>
    have hx := hv x (by simp [Op.operands])
    simp only [execOp] at hQ ⊢
    generalize ρ x = a at *
    generalize ρ' x = a' at *
    cases hx with
    | nilPtr => exact (never_all never_nil hQ).elim
    | nilFunc => exact (never_all never_nil hQ).elim
    | nilIface => exact (never_all never_nil hQ).elim
    | func hf ha1 ha2 hs hc2 =>
      cases hf with
      | func f => exact ⟨_, _, by simpa [Sem.run_pure, ofRun, T.all] using hQ, by simp [Sem.run_pure], .func (.func f) ha1 ha2 hs hc2⟩
      | yield e => exact ⟨_, _, by simpa [Sem.run_pure, ofRun, T.all] using hQ, by simp [Sem.run_pure], .func (.yield e) ha1 ha2 hs hc2⟩
    | tok e hv =>
      refine ⟨_, a', by simpa [Sem.run_pure, ofRun, T.all] using hQ, ?_, .tok e hv⟩
      obtain ⟨n, hn⟩ := tokVal_cases _
      rw [hv, hn]; simp [Sem.run_pure]
    | ptr h => exact ⟨_, _, by simpa [Sem.run_pure, ofRun, T.all] using hQ, by simp [Sem.run_pure], .ptr h⟩
    | bool b => exact ⟨_, _, by simpa [Sem.run_pure, ofRun, T.all] using hQ, by simp [Sem.run_pure], .bool b⟩
    | int k n => exact ⟨_, _, by simpa [Sem.run_pure, ofRun, T.all] using hQ, by simp [Sem.run_pure], .int k n⟩
    | float k n => exact ⟨_, _, by simpa [Sem.run_pure, ofRun, T.all] using hQ, by simp [Sem.run_pure], .float k n⟩
    | complex k n m => exact ⟨_, _, by simpa [Sem.run_pure, ofRun, T.all] using hQ, by simp [Sem.run_pure], .complex k n m⟩
    | string b => exact ⟨_, _, by simpa [Sem.run_pure, ofRun, T.all] using hQ, by simp [Sem.run_pure], .string b⟩
    | nilSlice => exact ⟨_, _, by simpa [Sem.run_pure, ofRun, T.all] using hQ, by simp [Sem.run_pure], .nilSlice⟩
    | slice h g => exact ⟨_, _, by simpa [Sem.run_pure, ofRun, T.all] using hQ, by simp [Sem.run_pure], .slice h g⟩
    | nilMap => exact ⟨_, _, by simpa [Sem.run_pure, ofRun, T.all] using hQ, by simp [Sem.run_pure], .nilMap⟩
    | map h => exact ⟨_, _, by simpa [Sem.run_pure, ofRun, T.all] using hQ, by simp [Sem.run_pure], .map h⟩
    | iface t h => exact ⟨_, _, by simpa [Sem.run_pure, ofRun, T.all] using hQ, by simp [Sem.run_pure], .iface t h⟩
    | agg h g => exact ⟨_, _, by simpa [Sem.run_pure, ofRun, T.all] using hQ, by simp [Sem.run_pure], .agg h g⟩
    | tuple h g => exact ⟨_, _, by simpa [Sem.run_pure, ofRun, T.all] using hQ, by simp [Sem.run_pure], .tuple h g⟩
  | build t parts =>
    simp only at hQ
    split at hQ
    · exact of_rsimP (rsim_build ‹_› (by
        have := rho_parts parts.toList (fun p hp => hv p.2 (by simp [Op.operands]; exact ⟨p.1, by simpa using hp⟩))
        simpa using this)) hQ
    · exact hQ.elim
  | binOp op t x y yt =>
    simp only at hQ
    split at hQ
    · exact of_rsimP (rsim_binOp x y (hv x (by simp [Op.operands])) (hv y (by simp [Op.operands])) ‹_›) hQ
    · exact hQ.elim
  | unOp op t x =>
    simp only at hQ
    split at hQ
    · exact of_rsimP (rsim_unary (hv x (by simp [Op.operands])) ‹_›) hQ
    · exact hQ.elim
  | convert s d x =>
    have hx := hv x (by simp [Op.operands])
    cases hval : ρ x with
    | int k n =>
      have hk' : ρ' x = .int k n := by
        rw [hval] at hx
        generalize ρ' x = y at hx ⊢
        cases hx
        rfl
      simp only [hval, Bool.and_true] at hQ
      split at hQ
      · rename_i h
        have := of_rsimP (β := β) (rsim_convert (s := s) (k := k) (n := n) h) (Q := Q) (σ := σ) (w := w) (by simpa [execOp, hval] using hQ)
        simpa [execOp, hk'] using this
      · exact hQ.elim
    | _ =>
      exfalso
      simp only [hval, Bool.and_false, Bool.false_eq_true, if_false] at hQ
      exact hQ
  | makeInterface t x => exact of_rsimP (rsim_makeInterface t (hv x (by simp [Op.operands]))) hQ
  | makeFunc fn first captured =>
    cases fn with
    | func g =>
      have hc1 := rho_map first (fun x hx => hv x (by simp only [Op.operands]; simp at hx ⊢; simp [hx]))
      have hc2 := rho_map captured (fun x hx => hv x (by simp only [Op.operands]; simp at hx ⊢; simp [hx]))
      exact ⟨_, _, by simpa [execOp, Instr.makeFunc, Sem.run_bind, Result.andThen, Sem.run_pure, ofRun, T.all] using hQ, by simp [execOp, Instr.makeFunc, Sem.run_pure], .func (.func g) hc1.1 hc1.2 hc2.1 hc2.2⟩
    | _ => exact hQ.elim
  | fieldAddr s x f =>
    simp only at hQ
    split at hQ
    · exact of_rsimP (rsim_fieldAt s f ‹_› (hv x (by simp [Op.operands]))) hQ
    · exact hQ.elim
  | field t x f => exact of_rsimP (rsim_field t f (hv x (by simp [Op.operands]))) hQ
  | indexAddr t x i => exact of_rsimP (rsim_indexAt (hv x (by simp [Op.operands])) (hv i (by simp [Op.operands]))) hQ
  | index t x i => exact of_rsimP (rsim_index (hv x (by simp [Op.operands])) (hv i (by simp [Op.operands]))) hQ
  | extract x i => exact of_rsimP (rsim_extract i (hv x (by simp [Op.operands]))) hQ
  | typeAssert x xt asserted ok =>
    have hx := hv x (by simp [Op.operands])
    simp only [execOp] at hQ ⊢
    generalize ρ x = a at *
    generalize ρ' x = a' at *
    cases hx with
    | iface u hu =>
      simp only at hQ
      split at hQ
      · rename_i h
        simp only [Bool.and_eq_true, beq_iff_eq] at h
        obtain ⟨rfl, hp⟩ := h
        exact of_rsimP (rsim_typeAssert hp xt ok hu) hQ
      · exact hQ.elim
    | _ => exact hQ.elim
  | call c =>
    obtain ⟨callee, args, argTypes⟩ := c
    cases callee with
    | value f => cases ha
    | invoke x n => cases ha
    | builtin b =>
      cases b with
      | max =>
        simp only at hQ
        split at hQ
        · rename_i hk
          have h1 := rho_map args (fun x hx => hv x (by simp only [Op.operands, Call.operands]; simpa using hx))
          have := of_rsimP (rsim_max (at_ := argTypes) (ty := ty) h1 (keys_of_all hk)) (Q := Q) (σ := σ) (w := w) (by simpa [execOp, resolve, invoke, builtin, Sem.run_bind, Result.andThen, Sem.run_pure] using hQ)
          simpa [execOp, resolve, invoke, builtin, Sem.run_bind, Result.andThen, Sem.run_pure] using this
        · exact hQ.elim
      | min =>
        simp only at hQ
        split at hQ
        · rename_i hk
          have h1 := rho_map args (fun x hx => hv x (by simp only [Op.operands, Call.operands]; simpa using hx))
          have := of_rsimP (rsim_min (at_ := argTypes) (ty := ty) h1 (keys_of_all hk)) (Q := Q) (σ := σ) (w := w) (by simpa [execOp, resolve, invoke, builtin, Sem.run_bind, Result.andThen, Sem.run_pure] using hQ)
          simpa [execOp, resolve, invoke, builtin, Sem.run_bind, Result.andThen, Sem.run_pure] using this
        · exact hQ.elim
      | len => cases hr
      | _ => first | (cases ha; done) | exact hQ.elim
  | _ => first | (cases ha; done) | (cases hr; done) | exact hQ.elim
theorem rd_islice {t : TypeId} {x x' : Value} (hx : VR β x x') {lo lo' hi hi' mx mx' : Option Value} (hlo : OVR β lo lo') (hhi : OVR β hi hi') (hmx : OVR β mx mx')
    {σ w : World} (hR : R P B w0 β σ w) {Q : Value × World → Prop} (hQ : (islice P t x lo hi mx σ).all Q) : ∃ v v', (Instr.sliceAt t x' lo' hi' mx').run P w = .ok v' w ∧ VR β v v' ∧ Q (v, σ) := by
  have key : ∀ {s s' : Sem Value}, RSim (R P B w0) P β s s' VR → (ofRun (s.run P σ)).all Q → ∃ v v', s'.run P w = .ok v' w ∧ VR β v v' ∧ Q (v, σ) := by
    intro s s' h hq
    cases hs : s.run P σ with
    | halt x y => rw [hs] at hq; exact hq.elim
    | ok v σ1 =>
      rw [hs] at hq
      obtain ⟨rfl, v', h1, h2⟩ := h β σ w (.refl _) hR v σ1 hs
      exact ⟨v, v', h1, h2, hq⟩
  unfold islice at hQ
  cases hu : P.underlying t with
  | none => rw [hu] at hQ; exact hQ.elim
  | some d =>
    rw [hu] at hQ
    cases d with
    | slice elem =>
      cases x with
      | slice a len cap =>
        cases a with
        | none => exact key (rsim_sliceAt hx (.inl ⟨none, len, cap, rfl, by cases hx; exact Nat.zero_lt_of_lt (show 0 < OPEN by unfold OPEN; omega)⟩) (.inl ⟨elem, hu⟩) hlo hhi hmx) hQ
        | some a =>
          dsimp only at hQ
          by_cases hc : cap < OPEN
          · simp only [hc, if_true] at hQ
            exact key (rsim_sliceAt hx (.inl ⟨_, len, cap, rfl, hc⟩) (.inl ⟨elem, hu⟩) hlo hhi hmx) hQ
          · simp only [hc, if_false] at hQ
            by_cases he : cap = OPEN
            · subst he
              simp only [if_true] at hQ
              exact rd_isliceOpen hu hx hlo hhi hmx hR hQ
            · simp only [he, if_false] at hQ
              obtain ⟨v, v', h1, h2, h3⟩ := run_isliceSeen hu hx hc he hlo hhi hmx hQ
              exact ⟨v, v', h1 w, h2, h3⟩
      | _ => exact hQ.elim
    | string =>
      cases x with
      | string s => exact key (rsim_sliceAt hx (.inr ⟨s, rfl⟩) (.inr hu) hlo hhi hmx) hQ
      | _ => exact hQ.elim
    | _ => exact hQ.elim
theorem read_istep {ρ ρ' : Operand → Value} {o : Oper} (hρ : Rho β o ρ ρ') (hr : reads o.op = true) {σ w : World} (hR : R P B w0 β σ w) {Q : Next × World → Prop} (hQ : (istep P ρ o σ).all Q) :
    ∃ v v', Q (.value v, σ) ∧ (execOp ρ' o).run P w = .ok (.value v') w ∧ VR β v v' := by
  have hc := istep_consts hQ
  simp only [istep, hc, if_true] at hQ
  obtain ⟨dst, op, ty, pos, after, guard⟩ := o
  have hop : ∀ x ∈ op.operands.toList, constFit x = true := fun x hx => by
    have h0 := Array.all_eq_true.1 hc
    obtain ⟨i, hi, rfl⟩ := List.mem_iff_getElem.1 hx
    exact h0 i (by simpa using hi)
  have hv : ∀ x ∈ op.operands.toList, VR β (ρ x) (ρ' x) := fun x hx => hρ x hx (hop x hx)
  simp only at hr
  cases op with
  | load t x => exact of_rsim (rsim_loadAt t (hv x (by simp [Op.operands]))) hR hQ
  | lookup t x k ok =>
    simp only at hQ
    split at hQ
    · rename_i h
      simp only [Bool.and_eq_true] at h
      exact of_rsim (rsim_lookup h.1.2 h.2 (hv x (by simp [Op.operands])) (hv k (by simp [Op.operands])) h.1.1 ok) hR hQ
    · exact hQ.elim
  | entry x => exact of_rsim (rsim_entry (hv x (by simp [Op.operands]))) hR hQ
  | slice t x lo hi mx =>
    simp only at hQ
    obtain ⟨v, v', h1, h2, h3⟩ := rd_islice (hv x (by simp [Op.operands])) (rho_opt lo (fun y hy => hv y (by simp [Op.operands]; simp at hy; simp [hy])))
      (rho_opt hi (fun y hy => hv y (by simp [Op.operands]; simp at hy; simp [hy]))) (rho_opt mx (fun y hy => hv y (by simp [Op.operands]; simp at hy; simp [hy]))) hR (T.all_bind.1 hQ)
    exact ⟨v, v', h3, by simp only [execOp]; rw [Sem.run_bind, h1]; rfl, h2⟩
  | call c =>
    obtain ⟨callee, args, argTypes⟩ := c
    cases callee with
    | value f => cases hr
    | invoke x n => cases hr
    | builtin b =>
      cases b with
      | len =>
        have h1 := rho_map args (fun x hx => hv x (by simp only [Op.operands, Call.operands]; simpa using hx))
        have := of_rsim (rsim_len (at_ := argTypes) (ty := ty) h1) hR (Q := Q) (by simpa [execOp, resolve, invoke, builtin, Sem.run_bind, Result.andThen, Sem.run_pure] using hQ)
        simpa [execOp, resolve, invoke, builtin, Sem.run_bind, Result.andThen, Sem.run_pure] using this
      | _ => cases hr
  | _ => cases hr
theorem still_istep {ρ ρ' : Operand → Value} {o : Oper} (hρ : Rho β o ρ ρ') (ha : acts o.op = false) {σ w : World} (hR : R P B w0 β σ w) {Q : Next × World → Prop} (hQ : (istep P ρ o σ).all Q) :
    ∃ v v', Q (.value v, σ) ∧ (execOp ρ' o).run P w = .ok (.value v') w ∧ VR β v v' := by
  cases hr : reads o.op with
  | true => exact read_istep hρ hr hR hQ
  | false => exact pure_istep hρ ha hr σ w hQ
theorem sim_getLoop {l : Nat} {bi : BI} (hl : β l = some bi) : Sim P B w0 β (Instr.getLoop l) (Instr.getLoop bi.r) (fun β r r' => OR β bi (.loop r) (.loop r')) := by
  unfold Instr.getLoop
  refine Sim.bind (sim_getObj hl) fun β1 o o' hle ho => ?_
  obtain ⟨ho, _⟩ := ho
  cases o with
  | loop r =>
    cases o' with
    | loop r' => exact Sim.pure fun β2 hle2 => ho.mono hle2
    | _ => cases ho
  | _ => exact Sim.stuck
theorem setParams {β : Beta} : ∀ (l : List (Tmp × Value)) (m : List (Tmp × Value)) (t t' : Array Value), AR β t t' → l.map (·.1) = m.map (·.1) → LR β (l.map (·.2)) (m.map (·.2)) →
    AR β (l.foldl (fun tmps (t, a) => tmps.setIfInBounds t a) t) (m.foldl (fun tmps (t, a) => tmps.setIfInBounds t a) t')
  | [], [], _, _, h, _, _ => h
  | (a, x) :: l, (b, y) :: m, t, t', h, e, hl => by
    simp only [List.map_cons, List.cons.injEq] at e
    obtain ⟨rfl, e⟩ := e
    exact setParams l m _ _ (h.set a hl.1) e hl.2
  | [], _ :: _, _, _, _, e, _ => by cases e
  | _ :: _, [], _, _, _, e, _ => by cases e
theorem sim_yield {l : Nat} {bi : BI} (hl : β l = some bi) {args args' : Array Value} (ha : AR β args args') : Sim P B w0 β (Instr.yield l args) (Instr.yield bi.r args') NR := by
  unfold Instr.yield
  refine Sim.bind (sim_getLoop hl) fun β1 r r' hle ho => ?_
  cases ho with
  | @loop st pe fn fn' tmps tmps' ps assign body df bd hd ht =>
    simp only [← ha.1]
    split
    · exact Sim.stuck
    · rename_i hsz
      simp only [ne_eq, Decidable.not_not] at hsz
      refine Sim.pure fun β2 hle2 => .round (hle2 _ _ (hle _ _ hl)) fn fn' ?_ assign body
      rw [← Array.foldl_toList, ← Array.foldl_toList]
      have hsz' := ha.1 ▸ hsz
      refine setParams _ _ _ _ (ht.mono hle2) ?_ ?_
      · simp only [Array.toList_zip]
        rw [List.map_fst_zip (by simp [hsz]), List.map_fst_zip (by simp [hsz'])]
      · simp only [Array.toList_zip]
        rw [List.map_snd_zip (by simp [hsz]), List.map_snd_zip (by simp [hsz'])]
        exact LR.mono (hle.trans hle2) ha.lr
theorem of_simN {s s' : Sem Next} (h : Sim P B w0 β s s' NR) {σ w : World} (hI : R P B w0 β σ w) {Q : Next × World → Prop} (hQ : ((ofRun (s.run P σ)).bind enters).all Q) :
    ∃ β2 nx σ' nx' w', β.le β2 ∧ s'.run P w = .ok nx' w' ∧ R P B w0 β2 σ' w' ∧ NR β2 nx nx' ∧ Q (nx, σ') := by
  cases hs : s.run P σ with
  | halt x y => rw [hs] at hQ; exact hQ.elim
  | ok v σ1 =>
    rw [hs] at hQ
    obtain ⟨β2, v', w', h0, h1, h2, h3⟩ := h β σ w (.refl _) hI v σ1 hs
    refine ⟨β2, v, σ1, v', w', h0, h1, h2, h3, ?_⟩
    cases h3 with
    | value _ => exact hQ.elim
    | skip => exact hQ.elim
    | enter f _ => exact hQ
    | round _ _ _ _ _ _ => exact hQ
theorem run_method {t : TypeId} {name : String} {f : FuncId} (h : methodOf P t name = some f) (x : Value) (n : Nat) (w : World) : (method (n + 1) t x name).run P w = .ok (f, x) w := by
  unfold methodOf at h
  split at h
  · rename_i i hi
    split at h
    · rename_i m hm
      split at h
      · rename_i g p hpath hfn
        have hp : m.path.toList = [] := by simpa using hpath
        have hti : (typeInfo t).run P w = .ok i w := by simp [typeInfo, Sem.run_bind, hi, Result.andThen]
        simp only [method, Sem.run_bind, hti, Result.andThen, hm, hp, follow, Sem.run_pure, hfn]
        split at h
        · rename_i hu
          cases h
          simp only [receiverAt, Sem.run_bind, run_underlying' hu, Result.andThen, Place.get, Sem.run_pure]
        · cases h
        · rename_i d _ hne hu
          cases h
          have : (receiverAt t (.val x) false (if m.path.isEmpty = true then some ((name.splitOn ".").getLastD name) else none)).run P w = .ok x w := by
            simp only [receiverAt, Sem.run_bind, run_underlying' hu, Result.andThen]
            cases d <;> first | rfl | exact absurd rfl (hne _)
          simp only [this]
        · cases h
      · cases h
    · cases h
  · cases h
theorem methodOf_body {t : TypeId} {name : String} {f : FuncId} (h : methodOf P t name = some f) : (P.funcs[f]?).any (fun fn => fn.body.isSome && fn.name != "runtime.NumGoroutine") = true := by
  unfold methodOf at h
  split at h
  · split at h
    · split at h
      · split at h <;> first | (cases h; assumption) | cases h
      · cases h
    · cases h
  · cases h
theorem run_enter {f : FuncId} (h : (P.funcs[f]?).any (fun fn => fn.body.isSome && fn.name != "runtime.NumGoroutine") = true) (args : Array Value) (w : World) : (callFunc f args).run P w = .ok (.enter f args) w := by
  simp only [Option.any_eq_true, Bool.and_eq_true, bne_iff_ne, ne_eq] at h
  obtain ⟨fn, hfn, hb, hn⟩ := h
  have hb2 : fn.body.isNone = false := by cases hfb : fn.body <;> simp_all
  have hn2 : (fn.name == "runtime.NumGoroutine") = false := by simpa using hn
  simp only [callFunc, Sem.run_bind, run_program, Result.andThen, hfn, hb2, hn2, Bool.false_eq_true, if_false, Sem.run_pure]
theorem run_invoke {t : TypeId} {name : String} {f : FuncId} (h : methodOf P t name = some f) (x : Value) (as : Array Value) (w : World) :
    (Go.invoke (.fn (.method name) #[]) (#[.iface t x] ++ as)).run P w = .ok (.enter f (#[x] ++ as)) w := by
  have h0 : (#[Value.iface t x] ++ as)[0]? = some (.iface t x) := by rw [Array.getElem?_append_left (by simp)]; rfl
  have h1 : (#[Value.iface t x] ++ as).extract 1 (#[Value.iface t x] ++ as).size = as := by
    apply Array.ext'; simp
  obtain ⟨n, hn⟩ : ∃ n, P.types.size + Made.depth = n + 1 := ⟨P.types.size + 99, by unfold Made.depth; omega⟩
  simp only [Go.invoke, h0, callMethod, Sem.run_bind, run_program, Result.andThen, hn, run_method h x n w, h1, run_enter (methodOf_body h)]
theorem act_istep {ρ ρ' : Operand → Value} {o : Oper} (hρ : Rho β o ρ ρ') (ha : acts o.op = true) {σ w : World} (hR : R P B w0 β σ w) {Q : Next × World → Prop} (hQ : (istep P ρ o σ).all Q) :
    ∃ β2 nx σ' nx' w', β.le β2 ∧ (execOp ρ' o).run P w = .ok nx' w' ∧ R P B w0 β2 σ' w' ∧ NR β2 nx nx' ∧ Q (nx, σ') := by
  have hc := istep_consts hQ
  simp only [istep, hc, if_true] at hQ
  obtain ⟨dst, op, ty, pos, after, guard⟩ := o
  have hop : ∀ x ∈ op.operands.toList, constFit x = true := fun x hx => by
    have h0 := Array.all_eq_true.1 hc
    obtain ⟨i, hi, rfl⟩ := List.mem_iff_getElem.1 hx
    exact h0 i (by simpa using hi)
  have hv : ∀ x ∈ op.operands.toList, VR β (ρ x) (ρ' x) := fun x hx => hρ x hx (hop x hx)
  simp only at ha
  cases op with
  | alloc t =>
    simp only at hQ
    split at hQ
    · exact of_sim (sim_alloc ‹_›) hR hQ
    · exact hQ.elim
  | box t x => exact of_sim (sim_box t (hv x (by simp [Op.operands]))) hR hQ
  | buildSlice t n parts =>
    simp only at hQ
    split at hQ
    · rename_i h
      simp only [Bool.and_eq_true, decide_eq_true_eq] at h
      exact of_sim (sim_buildSlice h.1 (Nat.lt_trans h.2 (by unfold OPEN; omega)) (by
        have := rho_parts parts.toList (fun p hp => hv p.2 (by simp [Op.operands]; exact ⟨p.1, by simpa using hp⟩))
        simpa using this)) hR hQ
    · exact hQ.elim
  | store t x y => exact of_simU (sim_storeAt t (hv x (by simp [Op.operands])) (hv y (by simp [Op.operands]))) hR hQ
  | makeMap t r =>
    cases r with
    | none => exact of_sim (sim_makeMap t) hR hQ
    | some r => exact hQ.elim
  | makeSlice t l c =>
    simp only at hQ
    split at hQ
    · rename_i h
      simp only [Bool.and_eq_true] at h
      exact of_sim (sim_makeSlice h.1 (hv l (by simp [Op.operands])) (hv c (by simp [Op.operands])) h.2) hR hQ
    · exact hQ.elim
  | mapUpdate t m k x =>
    simp only at hQ
    split at hQ
    · rename_i h
      simp only [Bool.and_eq_true] at h
      exact of_simU (sim_mapUpdate h.2 (hv m (by simp [Op.operands])) (hv k (by simp [Op.operands])) h.1 (hv x (by simp [Op.operands]))) hR hQ
    · exact hQ.elim
  | insert t m k x =>
    simp only at hQ
    split at hQ
    · rename_i h
      simp only [Bool.and_eq_true] at h
      exact of_simU (sim_mapUpdate h.2 (hv m (by simp [Op.operands])) (hv k (by simp [Op.operands])) h.1 (hv x (by simp [Op.operands]))) hR hQ
    · exact hQ.elim
  | mapEntry t m k =>
    simp only at hQ
    split at hQ
    · rename_i h
      simp only [Bool.and_eq_true] at h
      exact of_sim (sim_mapEntry h.1.2 h.2 (hv m (by simp [Op.operands])) (hv k (by simp [Op.operands])) h.1.1) hR hQ
    · exact hQ.elim
  | entryStore t m s x => exact of_simU (sim_entryStore (hv m (by simp [Op.operands])) (hv s (by simp [Op.operands])) (hv x (by simp [Op.operands]))) hR hQ
  | range t x => exact of_sim (sim_range (hv x (by simp [Op.operands]))) hR hQ
  | next it isS => exact of_tsim (tsim_next (hv it (by simp [Op.operands])) isS ty) hR hQ
  | call c =>
    obtain ⟨callee, args, argTypes⟩ := c
    have h1 := rho_map args (fun x hx => hv x (by simp only [Op.operands, Call.operands]; first | (simpa using hx) | (simp at hx; simp [hx])))
    cases callee with
    | value f =>
      have hf := hv f (by simp [Op.operands, Call.operands])
      simp only [execOp, resolve] at hQ ⊢
      generalize ρ f = a at *
      generalize ρ' f = a' at *
      cases hf with
      | func hfn ha1 ha2 hs hcap =>
        cases hfn with
        | func g =>
          simp only at hQ
          split at hQ
          · rename_i hg
            have hcs : AR β _ _ := ⟨hs, hcap⟩
            simp only [Option.any_eq_true] at hg
            obtain ⟨fn, hfn, hbody⟩ := hg
            simp only [Deferred.ofValue, Sem.run_bind, Sem.run_pure, Result.andThen, invoke, callFunc, program, Sem.run, hfn] at hQ ⊢
            have hb2 : fn.body.isNone = false := by cases hfb : fn.body <;> simp_all
            simp only [hb2, Bool.false_eq_true, if_false] at hQ ⊢
            split at hQ
            · exact hQ.elim
            · rename_i hname
              simp only [hname]
              refine ⟨β, _, σ, _, w, .refl _, rfl, hR, .enter g ((AR.append ⟨ha1, ha2⟩ h1).append hcs), hQ⟩
          · exact hQ.elim
        | yield hl =>
          simp only [Deferred.ofValue, Sem.run_bind, Sem.run_pure, Result.andThen, invoke] at hQ ⊢
          exact of_simN (sim_yield hl (AR.append ⟨ha1, ha2⟩ h1)) hR hQ
      | _ => exact hQ.elim
    | invoke x n =>
      have hx := hv x (by simp [Op.operands, Call.operands])
      simp only [execOp, resolve] at hQ ⊢
      generalize ρ x = a at *
      generalize ρ' x = a' at *
      cases hx with
      | iface u hu =>
        simp only at hQ
        split at hQ
        · rename_i hf
          obtain ⟨g, hg⟩ := Option.isSome_iff_exists.1 hf
          simp only [Sem.run_bind, Sem.run_pure, Result.andThen, run_invoke hg, ofRun, T.bind, enters] at hQ ⊢
          refine ⟨β, _, σ, _, w, .refl _, rfl, hR, .enter g (AR.append ?_ h1), hQ⟩
          have := (AR.empty β).push hu
          simpa using this
        · exact hQ.elim
      | _ => exact hQ.elim
    | builtin b =>
      cases b with
      | clear =>
        simp only at hQ
        split at hQ
        · rename_i h
          simp only [Bool.and_eq_true] at h
          have := of_sim (sim_clear (at_ := argTypes) (ty := ty) h.1 h.2 h1) hR (Q := Q) (by simpa [execOp, resolve, invoke, builtin, Sem.run_bind, Result.andThen, Sem.run_pure] using hQ)
          simpa [execOp, resolve, invoke, builtin, Sem.run_bind, Result.andThen, Sem.run_pure] using this
        · exact hQ.elim
      | copy =>
        simp only at hQ
        split at hQ
        · rename_i h
          simp only [Bool.and_eq_true] at h
          have := of_sim (sim_copy (at_ := argTypes) (ty := ty) h.1 h.2 h1) hR (Q := Q) (by simpa [execOp, resolve, invoke, builtin, Sem.run_bind, Result.andThen, Sem.run_pure] using hQ)
          simpa [execOp, resolve, invoke, builtin, Sem.run_bind, Result.andThen, Sem.run_pure] using this
        · exact hQ.elim
      | append =>
        have := of_tsim (tsim_iappend (at_ := argTypes) (ty := ty) h1) hR hQ
        simpa [execOp, resolve, invoke, builtin, Sem.run_bind, Result.andThen, Sem.run_pure] using this
      | delete =>
        simp only at hQ
        split at hQ
        · rename_i k t hk ht
          split at hQ
          · rename_i h
            simp only [Bool.and_eq_true] at h
            have := of_sim (sim_delete (at_ := argTypes) (ty := ty) ht h.2 (args := args.map ρ) (k := k) (by simpa using hk) h.1 h1) hR (Q := Q) (by simpa [execOp, resolve, invoke, builtin, Sem.run_bind, Result.andThen, Sem.run_pure] using hQ)
            simpa [execOp, resolve, invoke, builtin, Sem.run_bind, Result.andThen, Sem.run_pure] using this
          · exact hQ.elim
        · exact hQ.elim
      | _ => first | (cases ha; done) | exact hQ.elim
  | _ => first | (cases ha; done) | exact hQ.elim
end
end Go.Ideal
