/-
  The operations side by side: binary and unary operations, conversions.
-/
import Derived.Test.YtplcocifndpplaaIh
namespace Go.Ideal
open Go
section
variable {P : Program} {B : Nat} {w0 : Base} {β : Beta}

theorem still_part (t : TypeId) (cs : Array Value) (off : Nat) : Still (part t cs off) P := by
  unfold part
  refine still_bind (still_isAgg t) fun x => ?_
  split
  · exact still_bind (still_sizeOf t) fun _ => still_pure _
  · split
    · exact still_pure _
    · exact still_halt _

theorem still_eqGuardIn : ∀ (d m : Nat) (t : TypeId) (x y : Value), eqTy P m t = true → Still (Op.eqGuardIn d t x y) P := by
  intro d
  induction d with
  | zero => intro m t x y _; exact still_halt _
  | succ d ih =>
    intro m t x y hm
    unfold Op.eqGuardIn
    cases m with
    | zero => simp [eqTy] at hm
    | succ m =>
    refine still_under fun td htd => ?_
    have hm0 := hm
    unfold eqTy at hm
    rw [htd] at hm
    cases td with
    | struct fs =>
      cases x with
      | agg xs =>
        cases y with
        | agg ys =>
          dsimp only
          refine still_bind (still_forIn_mem _ (fun f hf b => ?_) _) fun r => ?_
          · split
            · refine still_bind (still_part _ _ _) fun u => still_bind (still_part _ _ _) fun v => still_bind (ih m f.type u v (eqTy_struct hm0 htd f hf)) fun e => ?_
              split <;> exact still_pure _
            · exact still_pure _
          · split <;> exact still_pure _
        | _ => exact still_pure _
      | _ => exact still_pure _
    | interface _ => simp at hm
    | array _ _ => simp at hm
    | _ => exact still_pure _

theorem still_eqGuard (op : BinOp) (t : TypeId) (x y : Operand) (a b : Value) (h : eqTy P 5 t = true ∨ (∀ c, a ≠ .agg c) ∧ a ≠ .nilIface) : Still (eqGuard op t x y a b) P := by
  have core : Still (do
      match a, b with
      | .nilIface, .nilIface =>
        if (x matches .const _) || (y matches .const _) then return
        if ← Op.eqGuardIn Op.maxDepth t a b then Go.unsupported (.noEntry "binop/eql: two nil values of an interface type with methods, neither of them the literal nil")
      | .agg _, .agg _ =>
        if !(← program).eqGuardType (← program).depth t then return
        if ← Op.eqGuardIn Op.maxDepth t a b then Go.unsupported (.noEntry "binop/eql: two nil values of an interface type with methods, in a part of a struct or an array")
      | _, _ => pure ()) P := by
    split
    · rcases h with h | h
      · have g : Still (do if ← Op.eqGuardIn Op.maxDepth t Value.nilIface Value.nilIface then Go.unsupported (.noEntry "binop/eql: two nil values of an interface type with methods, neither of them the literal nil")) P := by
          refine still_bind (still_eqGuardIn _ _ _ _ _ h) fun e => ?_
          split
          · exact still_halt _
          · exact still_pure _
        repeat' split
        all_goals first | exact still_pure _ | exact g
      · exact absurd rfl h.2
    · rcases h with h | h
      · refine still_bind still_program fun p => still_bind still_program fun q => ?_
        split
        · exact still_pure _
        · refine still_bind (still_eqGuardIn _ _ _ _ _ h) fun e => ?_
          split
          · exact still_halt _
          · exact still_pure _
      · exact absurd rfl (h.1 _)
    · exact still_pure _
  unfold eqGuard
  cases op <;> first | exact still_pure _ | exact core

/-- Where neither side is nil of an interface or a struct, nothing is looked at. -/
theorem eqGuard_none (op : BinOp) (t : TypeId) (x y : Operand) (a b : Value) (ha : ∀ c, a ≠ .agg c) (hn : a ≠ .nilIface) : eqGuard op t x y a b = Pure.pure () := by
  unfold eqGuard
  cases op <;> first
    | rfl
    | (dsimp only [Bool.not_true]; rw [if_neg (by simp)]; split
       · exact absurd rfl hn
       · exact absurd rfl (ha _)
       · rfl)

theorem still_binInt (op : BinOp) (t : TypeId) (j k : IntKind) (a b : Int) : Still (binOp op t (.int j a) (.int k b)) P := by
  have hd : ∀ (op : BinOp) (k : IntKind) (x y : Int), Still (Op.intDiv op k x y) P := by
    intro op k x y
    unfold Op.intDiv
    split
    · exact (stillP_never (never_runtimePanic _) (Q := fun _ => True)).still
    · cases op <;> first | exact still_pure _ | exact still_halt _
  have hs : ∀ (op : BinOp) (k : IntKind) (x : Int) (l : IntKind) (y : Int), Still (Op.shift op k x l y) P := by
    intro op k x l y
    unfold Op.shift
    split
    · exact (stillP_never (never_runtimePanic _) (Q := fun _ => True)).still
    · cases op <;> first | exact still_pure _ | exact still_halt _
  have hb : ∀ (op : BinOp) (k : IntKind) (x y : Int), Still (Op.intBits op k x y) P := by
    intro op k x y
    unfold Op.intBits
    cases op <;> first | exact still_pure _ | exact still_halt _
  have hc : ∀ (op : BinOp) (x y : Int), Still (Op.intCmp op x y) P := by
    intro op x y
    unfold Op.intCmp
    cases op <;> first | exact still_pure _ | exact still_halt _
  have ha : ∀ (op : BinOp) (k : IntKind) (x y : Int), Still (Op.intArith op k x y) P := by
    intro op k x y
    unfold Op.intArith
    cases op <;> first | exact still_pure _ | exact still_halt _
  unfold binOp
  cases op <;> first
    | exact hs _ _ _ _ _
    | (dsimp only; split
       · exact still_halt _
       · first | exact ha _ _ _ _ | exact hd _ _ _ _ | exact hb _ _ _ _ | exact hc _ _ _)

theorem still_binString (op : BinOp) (t : TypeId) (a b : ByteArray) : Still (binOp op t (.string a) (.string b)) P := by
  unfold binOp
  cases op <;> (dsimp only; unfold Op.stringOp; dsimp only; first | exact still_pure _ | exact still_halt _ | (split <;> first | exact still_pure _ | exact still_halt _))

theorem sim_nilEq {x x' y y' : Value} (t : TypeId) (d : Nat) (hx : VR β x x') (hy : VR β y y') (h : eqFit x y = true) (hb : ∀ c, x ≠ .agg c) :
    Sim P B w0 β (Op.equalIn d t x y) (Op.equalIn d t x' y') (fun _ a b => a = b) := by
  cases d with
  | zero => exact Sim.halt
  | succ d =>
  unfold Op.equalIn
  refine Sim.under fun td htd => ?_
  cases hx with
  | bool a =>
    cases hy with
    | bool b => cases td <;> first | exact Sim.halt | exact Sim.pure fun _ _ => rfl
    | _ => simp [eqFit] at h
  | nilPtr =>
    cases hy with
    | nilPtr => cases td <;> first | exact Sim.halt | exact Sim.pure fun _ _ => rfl
    | ptr e => cases td <;> first | exact Sim.halt | exact Sim.pure fun _ _ => rfl
    | _ => simp [eqFit] at h
  | ptr e =>
    cases hy with
    | nilPtr => cases td <;> first | exact Sim.halt | exact Sim.pure fun _ _ => rfl
    | _ => simp [eqFit] at h
  | nilSlice =>
    cases hy with
    | nilSlice => cases td <;> first | exact Sim.halt | exact Sim.pure fun _ _ => rfl
    | slice e hs => cases td <;> first | exact Sim.halt | exact Sim.pure fun _ _ => rfl
    | _ => simp [eqFit] at h
  | slice e hs =>
    cases hy with
    | nilSlice => cases td <;> first | exact Sim.halt | exact Sim.pure fun _ _ => rfl
    | _ => simp [eqFit] at h
  | nilMap =>
    cases hy with
    | nilMap => cases td <;> first | exact Sim.halt | exact Sim.pure fun _ _ => rfl
    | map e => cases td <;> first | exact Sim.halt | exact Sim.pure fun _ _ => rfl
    | _ => simp [eqFit] at h
  | map e =>
    cases hy with
    | nilMap => cases td <;> first | exact Sim.halt | exact Sim.pure fun _ _ => rfl
    | _ => simp [eqFit] at h
  | nilFunc =>
    cases hy with
    | nilFunc => cases td <;> first | exact Sim.halt | exact Sim.pure fun _ _ => rfl
    | func hf hs hc => cases td <;> first | exact Sim.halt | exact Sim.pure fun _ _ => rfl
    | _ => simp [eqFit] at h
  | func hf hs hc =>
    cases hy with
    | nilFunc => cases td <;> first | exact Sim.halt | exact Sim.pure fun _ _ => rfl
    | _ => simp [eqFit] at h
  | agg hs hc => exact absurd rfl (hb _)
  | _ => simp [eqFit] at h

theorem Sim.same {α : Type} {s : Sem α} (h : Still s P) {A : Beta → α → α → Prop} (hA : ∀ b v, A b v v) : Sim P B w0 β s s A := Sim.of_still h hA

theorem sim_binOp {op : BinOp} {t : TypeId} (o1 o2 : Operand) {x x' y y' : Value} (hx : VR β x x') (hy : VR β y y') (h : binFit P op t x y = true) :
    Sim P B w0 β (do eqGuard op t o1 o2 x y; binOp op t x y) (do eqGuard op t o1 o2 x' y'; binOp op t x' y') VR := by
  have same : ∀ {s : Sem Value}, Still s P → (∀ b σ v σ', s.run P σ = .ok v σ' → VR b v v) → Sim P B w0 β s s VR := fun hs hv => by
    intro β1 σ w hle hR u σ' hu
    obtain ⟨rfl, hw⟩ := hs σ w u σ' hu
    exact ⟨β1, u, w, .refl _, hw, hR, hv _ _ _ _ hu⟩
  have isInt : ∀ (op : BinOp) (j k : IntKind) (a b : Int) (b1 : Beta) (σ : World) (v : Value) (σ' : World), (binOp op t (.int j a) (.int k b)).run P σ = .ok v σ' → VR b1 v v := by
    intro op j k a b b1 σ v σ' hr
    have key : (∃ k n, v = .int k n) ∨ ∃ c, v = .bool c := by
      unfold binOp at hr
      cases op <;> simp only at hr <;> (try (split at hr)) <;>
        first
          | (simp [Go.stuck, Sem.run] at hr; done)
          | (unfold Op.shift at hr; split at hr
             · exact absurd hr (never_runtimePanic _ _ _ _)
             · simp [Sem.run_pure] at hr; exact .inl ⟨_, _, hr.1.symm⟩)
          | (unfold Op.intArith at hr; simp [Sem.run_pure] at hr; exact .inl ⟨_, _, hr.1.symm⟩)
          | (unfold Op.intDiv at hr; split at hr
             · exact absurd hr (never_runtimePanic _ _ _ _)
             · simp [Sem.run_pure] at hr; exact .inl ⟨_, _, hr.1.symm⟩)
          | (unfold Op.intBits at hr; simp [Sem.run_pure] at hr; exact .inl ⟨_, _, hr.1.symm⟩)
          | (unfold Op.intCmp at hr; simp [Sem.run_pure] at hr; exact .inr ⟨_, hr.1.symm⟩)
    rcases key with ⟨k, n, rfl⟩ | ⟨c, rfl⟩
    · exact .int k n
    · exact .bool c
  have isStr : ∀ (op : BinOp) (a b : ByteArray) (b1 : Beta) (σ : World) (v : Value) (σ' : World), (binOp op t (.string a) (.string b)).run P σ = .ok v σ' → VR b1 v v := by
    intro op a b b1 σ v σ' hr
    have key : (∃ s, v = .string s) ∨ ∃ c, v = .bool c := by
      unfold binOp at hr
      cases op <;> (simp only at hr; unfold Op.stringOp at hr; simp only at hr) <;>
        first
          | (simp [Go.stuck, Sem.run] at hr; done)
          | (simp [Sem.run_pure] at hr; exact .inr ⟨_, hr.1.symm⟩)
          | (split at hr
             · simp [Go.unsupported, Sem.run] at hr
             · simp [Sem.run_pure] at hr; exact .inl ⟨_, hr.1.symm⟩)
    rcases key with ⟨s, rfl⟩ | ⟨c, rfl⟩
    · exact .string s
    · exact .bool c
  have eqs : eqTy P 5 t = true → eqFit x y = true → (op = .eql ∨ op = .neq) → Sim P B w0 β (do eqGuard op t o1 o2 x y; binOp op t x y) (do eqGuard op t o1 o2 x' y'; binOp op t x' y') VR := by
    intro ht hfit hop
    by_cases hagg : ∃ c d, x = .agg c ∧ y = .agg d
    · obtain ⟨c, d, rfl, rfl⟩ := hagg
      have hg : ground (.agg c) = true ∧ ground (.agg d) = true := by simpa [eqFit] using hfit
      have e1 := VR.ground 4 hx hg.1
      have e2 := VR.ground 4 hy hg.2
      subst e1; subst e2
      refine Sim.bind (Sim.of_still (still_eqGuard _ _ _ _ _ _ (.inl ht)) (D := fun _ x y => x = y) (fun _ _ => rfl)) fun β1 _ _ hle _ => ?_
      have he : Sim P B w0 β1 (Op.equal t (.agg c) (.agg d)) (Op.equal t (.agg c) (.agg d)) (fun _ a b => a = b) :=
        Sim.of_still (still_equalIn _ 5 t _ _ 3 ht hg.1 hg.2) fun _ _ => rfl
      rcases hop with rfl | rfl
      · exact Sim.bind he fun _ a b _ e => by subst e; exact Sim.pure fun _ _ => .bool _
      · exact Sim.bind he fun _ a b _ e => by subst e; exact Sim.pure fun _ _ => .bool _
    · have hxa : ∀ c, x ≠ .agg c := fun c hc => by
        subst hc
        cases y <;> simp [eqFit] at hfit
        exact hagg ⟨_, _, rfl, rfl⟩
      have hxn : x ≠ .nilIface := fun hc => by subst hc; simp [eqFit] at hfit
      have hx'a : ∀ c, x' ≠ .agg c := fun c hc => by
        subst hc
        cases hx with
        | tok e hv => obtain ⟨n, hn⟩ := tokVal_cases _; rw [hn] at hv; cases hv
        | agg _ _ => exact hxa _ rfl
      have hx'n : x' ≠ .nilIface := fun hc => by
        subst hc
        cases hx with
        | tok e hv => obtain ⟨n, hn⟩ := tokVal_cases _; rw [hn] at hv; cases hv
        | nilIface => exact hxn rfl
      rw [eqGuard_none _ _ _ _ _ _ hxa hxn, eqGuard_none _ _ _ _ _ _ hx'a hx'n]
      have he := sim_nilEq (B := B) (w0 := w0) (P := P) t Op.maxDepth hx hy hfit hxa
      refine Sim.bind (Sim.pure (A := fun _ _ _ => True) fun _ _ => trivial) fun β1 _ _ hle _ => ?_
      have he1 := he.le hle
      have shape1 : ∀ {u v : Value}, eqFit u v = true → binOp .eql t u v = (do pure (.bool (← Op.equal t u v))) := by
        intro u v huv
        unfold binOp
        cases u <;> cases v <;> first | rfl | simp [eqFit] at huv
      have shape2 : ∀ {u v : Value}, eqFit u v = true → binOp .neq t u v = (do pure (.bool (!(← Op.equal t u v)))) := by
        intro u v huv
        unfold binOp
        cases u <;> cases v <;> first | rfl | simp [eqFit] at huv
      have hfit' : eqFit x' y' = true := by
        cases hx <;> cases hy <;> first | rfl | (simp [eqFit] at hfit; done) | (simp_all [eqFit]; done)
      rcases hop with rfl | rfl
      · rw [shape1 hfit, shape1 hfit']
        exact Sim.bind he1 fun _ a b _ e => by subst e; exact Sim.pure fun _ _ => .bool _
      · rw [shape2 hfit, shape2 hfit']
        exact Sim.bind he1 fun _ a b _ e => by subst e; exact Sim.pure fun _ _ => .bool _
  unfold binFit at h
  split at h
  · cases hx; cases hy
    refine same (still_bind (still_eqGuard _ _ _ _ _ _ (.inr ⟨(fun _ e => by cases e), (fun e => by cases e)⟩)) fun _ => still_binInt _ _ _ _ _ _) fun b σ v σ' hr => ?_
    rw [eqGuard_none _ _ _ _ _ _ (fun _ e => by cases e) (fun e => by cases e)] at hr
    exact isInt _ _ _ _ _ _ _ _ _ (by simpa [Sem.run_bind, Result.andThen] using hr)
  · cases hx; cases hy
    refine same (still_bind (still_eqGuard _ _ _ _ _ _ (.inr ⟨(fun _ e => by cases e), (fun e => by cases e)⟩)) fun _ => still_binString _ _ _ _) fun b σ v σ' hr => ?_
    rw [eqGuard_none _ _ _ _ _ _ (fun _ e => by cases e) (fun e => by cases e)] at hr
    exact isStr _ _ _ _ _ _ _ (by simpa [Sem.run_bind, Result.andThen] using hr)
  · simp only [Bool.and_eq_true] at h
    obtain ⟨⟨hop, ht⟩, hfit⟩ := h
    refine eqs ht hfit ?_
    cases op <;> simp at hop <;> first | exact .inl rfl | exact .inr rfl
end
end Go.Ideal
