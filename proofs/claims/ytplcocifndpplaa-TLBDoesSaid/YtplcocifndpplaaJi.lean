/-
  Calls among the small words; all words together.
-/
import Derived.Test.YtplcocifndpplaaJh
namespace Go.Ideal
open Go

section
variable {P : Program} {K : Kont} {w : World} {Q : Value × World → Prop}

theorem run_builtin {b : Builtin} {args : Array Operand} {at_ : Array TypeId} {ty : TypeId} {ρ : Regs} {c : Call} (hcal : c.callee = .builtin b) (hargs : c.args = args) (hat : c.argTypes = at_) :
    execOp ρ { dst := none, op := .call c, type := ty, pos := "", after := #[], guard := none } = builtin b at_ ty (args.map fun | .const _ => true | _ => false) (args.map ρ) := by
  subst hargs; subst hat
  simp only [execOp, resolve, hcal]
  rfl

theorem low_len {c : Call} (hcal : c.callee = .builtin .len) {ty : TypeId} {s : SOp} {ρ : Regs} (hc : (Op.call c).operands.all constFit = true) (hl : lowOp P (.call c) = some s) (h : (sone P K ρ w s).all Q) : (pval K (pstep P ρ (.call c) ty w)).all Q := by
  have he := run_builtin (ty := ty) (ρ := ρ) hcal rfl rfl
  obtain ⟨callee, args, at_⟩ := c
  simp only at hcal; subst hcal
  simp only [lowOp] at hl
  split at hl
  · rename_i t x ht hx
    have h1 : (args.map ρ)[0]? = some (ρ x) := by rw [Array.getElem?_map, hx]; rfl
    split at hl
    · rename_i e hu
      simp only [Option.some.injEq] at hl; subst hl
      obtain ⟨r, hr, hq⟩ := ok_len (P := P) (ty := ty) ht h1 hu h
      simp only [pstep, istep, hc, if_true, he]
      exact pv_all hr hq
    · rename_i k e hu
      simp only [Option.some.injEq] at hl; subst hl
      obtain ⟨r, hr, hq⟩ := ok_lenMap (P := P) (ty := ty) ht h1 hu h
      simp only [pstep, istep, hc, if_true, he]
      exact pv_all hr hq
    · cases hl
  · cases hl

theorem low_delete {c : Call} (hcal : c.callee = .builtin .delete) {ty : TypeId} {s : SOp} {ρ : Regs} (hc : (Op.call c).operands.all constFit = true) (hl : lowOp P (.call c) = some s) (h : (sone P K ρ w s).all Q) : (pval K (pstep P ρ (.call c) ty w)).all Q := by
  have he := run_builtin (ty := ty) (ρ := ρ) hcal rfl rfl
  obtain ⟨callee, args, at_⟩ := c
  simp only at hcal; subst hcal
  simp only [lowOp] at hl
  split at hl
  · rename_i t m k ht hm hk
    have h0 : (args.map ρ)[0]? = some (ρ m) := by rw [Array.getElem?_map, hm]; rfl
    have h1 : (args.map ρ)[1]? = some (ρ k) := by rw [Array.getElem?_map, hk]; rfl
    have h1' : (args[1]?).map ρ = some (ρ k) := by rw [hk]; rfl
    split at hl
    · rename_i kt e hu
      split at hl
      · rename_i kk hkk
        simp only [Option.some.injEq] at hl; subst hl
        obtain ⟨r, w', hr, hq, hkf⟩ := ok_delete (P := P) (ty := ty) ht h0 h1 hu hkk h
        have h2 : keyTy P t = true := by unfold keyTy isInt; rw [hu]; simp only [hkk]
        have h3 : (keyFit (ρ k) && keyTy P t) = true := by simp [hkf, h2]
        simp only [pstep, istep, hc, if_true, he, h1', ht, h3]
        exact pv_all hr hq
      · cases hl
    · cases hl
  · cases hl

theorem low_append {c : Call} (hcal : c.callee = .builtin .append) {ty : TypeId} {s : SOp} {ρ : Regs} (hc : (Op.call c).operands.all constFit = true) (hl : lowOp P (.call c) = some s) (h : (sone P K ρ w s).all Q) : (pval K (pstep P ρ (.call c) ty w)).all Q := by
  obtain ⟨callee, args, at_⟩ := c
  simp only at hcal; subst hcal
  simp only [lowOp] at hl
  split at hl
  · rename_i sT xT s0 x0 h0 h1 ha0 ha1
    have g0 : (args.map ρ)[0]? = some (ρ s0) := by rw [Array.getElem?_map, ha0]; rfl
    have g1 : (args.map ρ)[1]? = some (ρ x0) := by rw [Array.getElem?_map, ha1]; rfl
    split at hl
    · rename_i e xe hu hux
      split at hl
      · rename_i i hi
        split at hl
        · rename_i hs
          simp only [Option.some.injEq] at hl; subst hl
          have := ok_append h0 h1 g0 g1 hu hux hi hs.1 hs.2.1 hs.2.2 h
          simp only [pstep, istep, hc, if_true]
          unfold pval
          refine T.all_bind.2 (T.all_bind.2 (T.all_mono (fun p hp => ?_) this))
          exact hp
        · cases hl
      · cases hl
    · cases hl
  · cases hl

theorem low_call {g : FuncId} {c : Call} (hcal : c.callee = .value (.func g)) {ty : TypeId} {s : SOp} {ρ : Regs} (hρ : ρ (.func g) = .func (.func g) #[] #[]) (hc : (Op.call c).operands.all constFit = true) (hl : lowOp P (.call c) = some s) (h : (sone P K ρ w s).all Q) : (pval K (pstep P ρ (.call c) ty w)).all Q := by
  obtain ⟨callee, args, at_⟩ := c
  simp only at hcal; subst hcal
  simp only [lowOp] at hl
  split at hl
  · rename_i hb
    simp only [Option.some.injEq] at hl; subst hl
    obtain ⟨fn, hfn, hbody⟩ : ∃ fn, P.funcs[g]? = some fn ∧ (fn.body.isSome && fn.name != "runtime.NumGoroutine") = true := by
      cases hf : P.funcs[g]? with
      | none => rw [hf] at hb; cases hb
      | some fn => rw [hf] at hb; exact ⟨fn, rfl, hb⟩
    simp only [Bool.and_eq_true, bne_iff_ne, ne_eq] at hbody
    have hne : ¬ fn.body.isNone = true := by cases hb2 : fn.body <;> simp_all
    have hany : ((P.funcs[g]?).any (·.body.isSome)) = true := by rw [hfn]; exact hbody.1
    have hrun : (execOp ρ { dst := none, op := .call { callee := .value (.func g), args := args, argTypes := at_ }, type := ty, pos := "", after := #[], guard := none }).run P w = .ok (.enter g (args.map ρ)) w := by
      simp [execOp, resolve, hρ, Deferred.ofValue, invoke, callFunc, Sem.run_bind, Result.andThen, hfn, hbody.2]
      intro hb0
      rw [hb0] at hne
      exact absurd rfl hne
    simp only [pstep, istep, hc, if_true, hρ, hany]
    simp only [hrun, ofRun, T.bind, enters, pval]
    exact h
  · cases hl

theorem low_callv {t : Tmp} {c : Call} (hcal : c.callee = .value (.tmp t)) {ty : TypeId} {s : SOp} {ρ : Regs} (hc : (Op.call c).operands.all constFit = true) (hl : lowOp P (.call c) = some s) (h : (sone P K ρ w s).all Q) : (pval K (pstep P ρ (.call c) ty w)).all Q := by
  obtain ⟨callee, args, at_⟩ := c
  simp only at hcal; subst hcal
  simp only [lowOp, Option.some.injEq] at hl; subst hl
  simp only [sone] at h
  unfold callV at h
  split at h
  · rename_i g first cap hx
    split at h
    · rename_i hb0
      obtain ⟨he, hb⟩ := hb0
      obtain rfl := Array.eq_empty_of_size_eq_zero he
      obtain ⟨fn, hfn, hbody⟩ : ∃ fn, P.funcs[g]? = some fn ∧ (fn.body.isSome && fn.name != "runtime.NumGoroutine") = true := by
        cases hf : P.funcs[g]? with
        | none => rw [hf] at hb; cases hb
        | some fn => rw [hf] at hb; exact ⟨fn, rfl, hb⟩
      simp only [Bool.and_eq_true, bne_iff_ne, ne_eq] at hbody
      have hne : ¬ fn.body.isNone = true := by cases hb2 : fn.body <;> simp_all
      have hany : ((P.funcs[g]?).any (·.body.isSome)) = true := by rw [hfn]; exact hbody.1
      have hrun : (execOp ρ { dst := none, op := .call { callee := .value (.tmp t), args := args, argTypes := at_ }, type := ty, pos := "", after := #[], guard := none }).run P w = .ok (.enter g (args.map ρ ++ cap)) w := by
        simp [execOp, resolve, hx, Deferred.ofValue, invoke, callFunc, Sem.run_bind, Result.andThen, hfn, hbody.2]
        intro hb0
        rw [hb0] at hne
        exact absurd rfl hne
      simp only [pstep, istep, hc, if_true, hx, hany]
      simp only [hrun, ofRun, T.bind, enters, pval]
      exact h
    · exact h.elim
  · rename_i l first cap hx
    split at h
    · rename_i r hr
      split at h
      · rename_i hsz0
        obtain ⟨he, hsz⟩ := hsz0
        obtain rfl := Array.eq_empty_of_size_eq_zero he
        have hrun : (execOp ρ { dst := none, op := .call { callee := .value (.tmp t), args := args, argTypes := at_ }, type := ty, pos := "", after := #[], guard := none }).run P w =
            .ok (.round l r.fn ((r.params.zip (args.map ρ)).foldl (fun tmps (t, a) => tmps.setIfInBounds t a) r.tmps) r.assign r.body) w := by
          have hsz' : (args.map ρ).size = r.params.size := hsz
          simp only [execOp, resolve, hx, Deferred.ofValue, invoke, Sem.run_bind, Sem.run_pure, Result.andThen, Array.empty_append, Instr.yield, Instr.getLoop, getObj, Sem.run, hr, hsz', ne_eq, not_true_eq_false, if_false]
        simp only [pstep, istep, hc, if_true, hx]
        simp only [hrun, ofRun, T.bind, enters, pval]
        exact h
      · exact h.elim
    · exact h.elim
  · exact h.elim

theorem low_max {c : Call} (hcal : c.callee = .builtin .max) {ty : TypeId} {s : SOp} {ρ : Regs} (hc : (Op.call c).operands.all constFit = true) (hl : lowOp P (.call c) = some s) (h : (sone P K ρ w s).all Q) : (pval K (pstep P ρ (.call c) ty w)).all Q := by
  have he := run_builtin (ty := ty) (ρ := ρ) hcal rfl rfl
  obtain ⟨callee, args, at_⟩ := c
  simp only at hcal; subst hcal
  simp only [lowOp] at hl
  split at hl
  · rename_i x y ha
    simp only [Option.some.injEq] at hl; subst hl
    simp only [sone] at h
    split at h
    · rename_i k a j b hx hy
      split at h
      · rename_i hk; subst hk
        have hk1 : (args.toList.all fun x => keyFit (ρ x)) = true := by rw [ha]; simp [hx, hy, keyFit]
        simp only [pstep, istep, hc, if_true, he, hk1]
        refine pv_all (v := .int k (if b > a then b else a)) (w' := w) ?_ h
        have hm : (args.map ρ).toList = [.int k a, .int k b] := by rw [Array.toList_map, ha]; simp [hx, hy]
        simp only [Builtin.max_, hm, List.foldlM_cons, List.foldlM_nil, Builtin.max2, pure_bind, Sem.run_pure]
      · exact h.elim
    · exact h.elim
  · cases hl

theorem low_convert {src dst : TypeId} {x : Operand} {ty : TypeId} {s : SOp} {ρ : Regs} (hc : (Op.convert src dst x).operands.all constFit = true) (hl : lowOp P (.convert src dst x) = some s) (h : (sone P K ρ w s).all Q) : (pval K (pstep P ρ (.convert src dst x) ty w)).all Q := by
  simp only [lowOp] at hl
  split at hl
  · rename_i d k hs hd
    simp only [Option.some.injEq] at hl; subst hl
    simp only [sone] at h
    split at h
    · rename_i j n hx
      have hi : isInt P dst = true := by unfold isInt; rw [hd]
      simp only [pstep, istep, hc, if_true, execOp, hx, hi]
      refine pv_all (v := .int k (k.wrap n)) (w' := w) ?_ h
      simp only [convert, Sem.run_bind, run_underlying' hs, run_underlying' hd, Result.andThen]
      cases d <;> rfl
    · exact h.elim
  · cases hl

theorem lowOp_ok {op : Op} {ty : TypeId} {s : SOp} {ρ : Regs} (hρ : ∀ g, ρ (.func g) = .func (.func g) #[] #[]) (hc : op.operands.all constFit = true) (hl : lowOp P op = some s) (h : (sone P K ρ w s).all Q) : (pval K (pstep P ρ op ty w)).all Q := by
  cases op with
  | move x =>
    simp only [lowOp, Option.some.injEq] at hl; subst hl
    simp only [pstep, istep, hc, if_true, execOp]; exact h
  | assign x =>
    simp only [lowOp, Option.some.injEq] at hl; subst hl
    simp only [pstep, istep, hc, if_true, execOp]; exact h
  | box e x =>
    simp only [lowOp, Option.some.injEq] at hl; subst hl
    simp only [pstep, istep, hc, if_true, execOp]
    exact pv_all (v := .pointer (some ⟨w.heap.size, 0, none⟩)) (w' := World.push w (.cells (ρ x).cells e)) (by simp [Instr.box, Sem.run_bind, newVar, newRow, Result.andThen, World.push]) h
  | makeMap t r =>
    cases r with
    | some _ => cases hl
    | none =>
      simp only [lowOp, Option.some.injEq] at hl; subst hl
      simp only [pstep, istep, hc, if_true, execOp]
      exact pv_all (v := .map (some w.heap.size)) (w' := World.push w (.map #[] 0)) (by simp [Instr.makeMap, Sem.run_bind, Result.andThen, World.push]) h
  | pick c a b =>
    simp only [lowOp, Option.some.injEq] at hl; subst hl
    simp only [sone] at h
    split at h
    · rename_i x hx
      simp only [pstep, istep, hc, if_true, execOp, hx, asBool]
      exact h
    · exact h.elim
  | convert src dst x => exact low_convert hc hl h
  | makeFunc f first cap =>
    cases f with
    | func f =>
      simp only [lowOp] at hl
      split at hl
      · rename_i he
        have he' : first = #[] := by simpa using he
        subst he'
        simp only [Option.some.injEq] at hl; subst hl
        simp only [pstep, istep, hc, if_true, execOp, he]
        exact pv_all (v := .func (.func f) #[] (cap.map ρ)) (w' := w) (by simp [Instr.makeFunc]) h
      · cases hl
    | _ => simp [lowOp] at hl
  | extract x i =>
    simp only [lowOp, Option.some.injEq] at hl; subst hl
    obtain ⟨r, hr, hq⟩ := ok_extract (P := P) h
    simp only [pstep, istep, hc, if_true, execOp]; exact pv_all hr hq
  | load t a => exact low_load hc hl h
  | store t a x => exact low_store hc hl h
  | alloc e => exact low_alloc hc hl h
  | build t p => exact low_build hc hl h
  | buildSlice t n p => exact low_row hc hl h
  | nilCheck x => exact low_nilCheck hc hl h
  | binOp op t x y yt => exact low_bin hc hl h
  | unOp op t x => exact low_un hc hl h
  | fieldAddr t x f => exact low_faddr hc hl h
  | field t x f => exact low_field hc hl h
  | indexAddr t x ix => exact low_iaddr hc hl h
  | slice t x lo hi mx => exact low_slice hc hl h
  | lookup t x k ok => exact low_lookup hc hl h
  | mapUpdate t m k v => exact low_update hc hl h
  | call c =>
    cases hcal : c.callee with
    | builtin b =>
      cases b with
      | len => exact low_len hcal hc hl h
      | append => exact low_append hcal hc hl h
      | delete => exact low_delete hcal hc hl h
      | max => exact low_max hcal hc hl h
      | _ => obtain ⟨callee, args, at_⟩ := c; simp only at hcal; subst hcal; simp [lowOp] at hl
    | value f =>
      cases f with
      | func g => exact low_call hcal (hρ g) hc hl h
      | tmp t => exact low_callv hcal hc hl h
      | _ => obtain ⟨callee, args, at_⟩ := c; simp only at hcal; subst hcal; simp [lowOp] at hl
    | invoke r m => obtain ⟨callee, args, at_⟩ := c; simp only at hcal; subst hcal; simp [lowOp] at hl
  | _ => simp [lowOp] at hl
end
end Go.Ideal
