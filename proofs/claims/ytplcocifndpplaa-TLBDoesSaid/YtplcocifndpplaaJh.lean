/-
  What is looked up ahead does as the words do.
-/
import Derived.Test.YtplcocifndpplaaJg
namespace Go.Ideal
open Go

section
variable {P : Program} {K : Kont} {w : World} {Q : Value × World → Prop}

theorem pv_all {s : Sem Value} {v : Value} {w' : World} (h : s.run P w = .ok v w') (hq : Q (v, w')) : (pval K (ofRun ((do let x ← s; pure (Next.value x) : Sem Next).run P w))).all Q := by
  rw [pv h]; exact hq
theorem pu_all {s : Sem Unit} {w' : World} (h : s.run P w = .ok () w') (hq : Q (undef, w')) : (pval K (ofRun ((do s; pure Next.skip : Sem Next).run P w))).all Q := by
  rw [pu h]; exact hq

theorem fits_ok {op : Op} (hc : op.operands.all constFit = true) (ρ : Regs) (ty : TypeId) : ({ dst := none, op, type := ty, pos := "", after := #[], guard := none } : Oper).op.operands.all constFit = true := hc

theorem low_load {t : TypeId} {a : Operand} {ty : TypeId} {s : SOp} {ρ : Regs} (hc : (Op.load t a).operands.all constFit = true) (hl : lowOp P (.load t a) = some s) (h : (sone P K ρ w s).all Q) : (pval K (pstep P ρ (.load t a) ty w)).all Q := by
  simp only [lowOp, Option.map_eq_some_iff] at hl
  obtain ⟨n, ha, rfl⟩ := hl
  obtain ⟨r, hr, hq⟩ := ok_load ha h
  simp only [pstep, istep, hc, if_true, execOp]
  exact pv_all hr hq

theorem low_store {t : TypeId} {a x : Operand} {ty : TypeId} {s : SOp} {ρ : Regs} (hc : (Op.store t a x).operands.all constFit = true) (hl : lowOp P (.store t a x) = some s) (h : (sone P K ρ w s).all Q) : (pval K (pstep P ρ (.store t a x) ty w)).all Q := by
  simp only [lowOp, Option.map_eq_some_iff] at hl
  obtain ⟨n, ha, rfl⟩ := hl
  obtain ⟨r, hr, hq⟩ := ok_store ha h
  simp only [pstep, istep, hc, if_true, execOp]
  exact pu_all hr hq

theorem run_zeroValue {t : TypeId} {i : TypeInfo} {z : Value} (hi : P.info? t = some i) (hz : i.zero = some z) (w : World) : (zeroValue t).run P w = .ok z w := by
  simp [zeroValue, typeInfo, Sem.run_bind, hi, hz, Result.andThen]

theorem zeroOk_of {t : TypeId} {i : TypeInfo} {z : Value} (hi : P.info? t = some i) (hz : i.zero = some z) (hs : selfD 4 z = true) : zeroOk P t = true := by
  unfold zeroOk; rw [hi]; simp only [hz]; exact hs

theorem low_alloc {e : TypeId} {ty : TypeId} {s : SOp} {ρ : Regs} (hc : (Op.alloc e).operands.all constFit = true) (hl : lowOp P (.alloc e) = some s) (h : (sone P K ρ w s).all Q) : (pval K (pstep P ρ (.alloc e) ty w)).all Q := by
  simp only [lowOp] at hl
  split at hl
  · rename_i i hi
    split at hl
    · rename_i z hz
      split at hl
      · rename_i hs
        simp only [Option.some.injEq] at hl; subst hl
        have hzo := zeroOk_of hi hz hs
        simp only [pstep, istep, hc, if_true, execOp, hzo]
        refine pv_all (v := .pointer (some ⟨w.heap.size, 0, none⟩)) (w' := World.push w (.cells z.cells e)) ?_ h
        simp [Instr.alloc, Sem.run_bind, run_zeroValue hi hz, Result.andThen, newVar, newRow, World.push]
      · cases hl
    · cases hl
  · cases hl

theorem mapM_sizes : ∀ (l : List Field) (ps : List (Nat × Nat)), l.mapM (fun f => (P.info? f.type).map fun i => (f.offset, i.size)) = some ps →
    (l.mapM (fun f => do pure (f.offset, ← sizeOf f.type) : Field → Sem (Nat × Nat))).run P w = .ok ps w
  | [], ps, h => by
    simp only [List.mapM_nil, Option.pure_def, Option.some.injEq] at h; subst h; rfl
  | f :: l, ps, h => by
    simp only [List.mapM_cons, Option.bind_eq_bind, Option.bind_eq_some_iff, Option.map_eq_some_iff, Option.pure_def, Option.some.injEq] at h
    obtain ⟨a, ⟨i, hi, rfl⟩, b, hb, rfl⟩ := h
    simp only [List.mapM_cons, Sem.run_bind, run_sizeOf' hi w, Result.andThen, Sem.run_pure, mapM_sizes l b hb]

theorem low_build {t : TypeId} {parts : Array (Nat × Operand)} {ty : TypeId} {s : SOp} {ρ : Regs} (hc : (Op.build t parts).operands.all constFit = true) (hl : lowOp P (.build t parts) = some s) (h : (sone P K ρ w s).all Q) : (pval K (pstep P ρ (.build t parts) ty w)).all Q := by
  simp only [lowOp] at hl
  split at hl
  · rename_i fs i hu hi
    split at hl
    · rename_i z ps hz hps
      split at hl
      · rename_i hs
        simp only [Option.some.injEq] at hl; subst hl
        have hzo := zeroOk_of hi hz hs
        simp only [pstep, istep, hc, if_true, execOp, hzo]
        simp only [sone, fillS] at h
        split at h
        · rename_i cs hf
          refine pv_all (v := .agg cs) (w' := w) ?_ h
          have hm : (fs.mapM (fun f => do pure (f.offset, ← sizeOf f.type) : Field → Sem (Nat × Nat))).run P w = .ok ps w := by
            have h2 : fs.toList.mapM (fun f => (P.info? f.type).map fun i => (f.offset, i.size)) = some ps.toList := by
              unfold placesOf at hps
              rw [Array.mapM_eq_mapM_toList] at hps
              simp only [Option.map_eq_map, Option.map_eq_some_iff] at hps
              obtain ⟨l, hl, rfl⟩ := hps
              exact hl
            have := mapM_sizes (w := w) _ _ h2
            rw [Array.mapM_eq_mapM_toList]
            rw [map_eq_pure_bind, Sem.run_bind, this]
            simp [Result.andThen]
          have hf' : Instr.fill (fun i => ps[i]?) z.cells (parts.map fun (i, x) => (i, ρ x)).toList = some cs := by
            rw [Array.toList_map]; exact hf
          simp only [Instr.build, Sem.run_bind, run_zeroValue hi hz, Result.andThen, run_underlying' hu, hm, hf', Sem.run_pure]
        · exact h.elim
      · cases hl
    · cases hl
  · cases hl

theorem low_row {t : TypeId} {len : Nat} {parts : Array (Nat × Operand)} {ty : TypeId} {s : SOp} {ρ : Regs} (hc : (Op.buildSlice t len parts).operands.all constFit = true) (hl : lowOp P (.buildSlice t len parts) = some s) (h : (sone P K ρ w s).all Q) : (pval K (pstep P ρ (.buildSlice t len parts) ty w)).all Q := by
  simp only [lowOp] at hl
  split at hl
  · rename_i e hu
    split at hl
    · rename_i i hi
      split at hl
      · rename_i z hz
        split at hl
        · rename_i hs
          simp only [Bool.and_eq_true, decide_eq_true_eq] at hs
          simp only [Option.some.injEq] at hl; subst hl
          have hzo : elemOk P t = true := by unfold elemOk; rw [hu]; exact zeroOk_of hi hz hs.1.1
          have hdec : (elemOk P t && decide (len < 1000000)) = true := by simp [hzo, hs.1.2]
          simp only [pstep, istep, hc, if_true, execOp, hdec]
          simp only [sone, rowS] at h
          split at h
          · rename_i cs hf
            refine pv_all (v := .slice (some ⟨w.heap.size, 0, none⟩) len len) (w' := World.push w (.cells cs e)) ?_ h
            have hf' : Instr.fill (fun j => some (j * i.size, i.size)) ((Array.range (len * i.size)).map (z.cells[· % z.cells.size]!)) (parts.map fun (j, x) => (j, ρ x)).toList = some cs := by
              rw [Array.toList_map]; exact hf
            have hbig : ¬ len * i.size > 2 ^ 24 := by omega
            by_cases h0 : len * i.size = 0
            · have he : (Array.range (len * i.size)).map ((#[] : Array Value)[· % (#[] : Array Value).size]!) = (Array.range (len * i.size)).map (z.cells[· % z.cells.size]!) := by rw [h0]; simp
              simp only [Instr.buildSlice, Sem.run_bind, run_underlying' hu, Result.andThen, run_sizeOf' hi w, hbig, if_false, if_pos h0, Sem.run_pure]
              rw [he, hf']
              simp [Sem.run_bind, newRow, Result.andThen, World.push]
            · simp only [Instr.buildSlice, Sem.run_bind, run_underlying' hu, Result.andThen, run_sizeOf' hi w, hbig, if_false, if_neg h0, Sem.run_pure, run_zeroValue hi hz, hf']
              simp [Sem.run_bind, newRow, Result.andThen, World.push]
          · exact h.elim
        · cases hl
      · cases hl
    · cases hl
  · cases hl

theorem low_nilCheck {x : Operand} {ty : TypeId} {s : SOp} {ρ : Regs} (hc : (Op.nilCheck x).operands.all constFit = true) (hl : lowOp P (.nilCheck x) = some s) (h : (sone P K ρ w s).all Q) : (pval K (pstep P ρ (.nilCheck x) ty w)).all Q := by
  simp only [lowOp, Option.some.injEq] at hl; subst hl
  simp only [sone] at h
  split at h
  · rename_i a ha
    simp only [pstep, istep, hc, if_true, execOp, ha]
    exact h
  · exact h.elim

theorem low_bin {op : BinOp} {t yt : TypeId} {x y : Operand} {ty : TypeId} {s : SOp} {ρ : Regs} (hc : (Op.binOp op t x y yt).operands.all constFit = true) (hl : lowOp P (.binOp op t x y yt) = some s) (h : (sone P K ρ w s).all Q) : (pval K (pstep P ρ (.binOp op t x y yt) ty w)).all Q := by
  simp only [lowOp, Option.some.injEq] at hl; subst hl
  simp only [sone, binS] at h
  split at h
  · rename_i k a j b hx hy
    split at h
    · rename_i hk
      obtain ⟨r, hr, hq⟩ := ok_arith (P := P) (w := w) (t := t) hk (T.all_bind.1 h)
      simp only [pstep, istep, hc, if_true, execOp, hx, hy, binFit]
      refine pv_all (v := r) (w' := w) ?_ hq
      rw [Sem.run_bind, eqGuard_none op t x y _ _ (fun _ h => by cases h) (fun h => by cases h)]
      exact hr
    · exact h.elim
  · split at h
    · rename_i hf
      simp only [pstep, istep, hc, if_true, execOp, hf]
      cases hr : (do eqGuard op t x y (ρ x) (ρ y); binOp op t (ρ x) (ρ y) : Sem Value).run P w with
      | ok v w' => rw [hr] at h; exact pv_all hr h
      | halt a b => rw [hr] at h; exact h.elim
    · exact h.elim

theorem low_un {op : UnOp} {t : TypeId} {x : Operand} {ty : TypeId} {s : SOp} {ρ : Regs} (hc : (Op.unOp op t x).operands.all constFit = true) (hl : lowOp P (.unOp op t x) = some s) (h : (sone P K ρ w s).all Q) : (pval K (pstep P ρ (.unOp op t x) ty w)).all Q := by
  simp only [lowOp, Option.some.injEq] at hl; subst hl
  simp only [sone] at h
  split at h
  · rename_i b hx
    simp only [pstep, istep, hc, if_true, execOp, hx, unFit]
    exact pv_all (v := .bool !b) (w' := w) rfl h
  · rename_i k n hx
    simp only [pstep, istep, hc, if_true, execOp, hx, unFit]
    exact pv_all (v := .int k (k.wrap (0 - n))) (w' := w) rfl h
  · exact h.elim

theorem low_faddr {t : TypeId} {f : Nat} {x : Operand} {ty : TypeId} {s : SOp} {ρ : Regs} (hc : (Op.fieldAddr t x f).operands.all constFit = true) (hl : lowOp P (.fieldAddr t x f) = some s) (h : (sone P K ρ w s).all Q) : (pval K (pstep P ρ (.fieldAddr t x f) ty w)).all Q := by
  simp only [lowOp] at hl
  split at hl
  · rename_i fs hu
    split at hl
    · rename_i fd hf
      split at hl
      · rename_i i hi
        split at hl
        · rename_i h0
          simp only [Option.some.injEq] at hl; subst hl
          obtain ⟨r, hr, hq⟩ := ok_fieldAt hu hf hi h0 h
          have hfit : fieldFit P t f = true := by unfold fieldFit; rw [hu]; simp only [hf, hi, decide_eq_true_eq]; exact h0
          simp only [pstep, istep, hc, if_true, execOp, hfit]
          exact pv_all hr hq
        · cases hl
      · cases hl
    · cases hl
  · cases hl

theorem low_field {t : TypeId} {f : Nat} {x : Operand} {ty : TypeId} {s : SOp} {ρ : Regs} (hc : (Op.field t x f).operands.all constFit = true) (hl : lowOp P (.field t x f) = some s) (h : (sone P K ρ w s).all Q) : (pval K (pstep P ρ (.field t x f) ty w)).all Q := by
  simp only [lowOp] at hl
  split at hl
  · rename_i fs hu
    split at hl
    · rename_i fd hf
      simp only [Option.map_eq_some_iff] at hl
      obtain ⟨n, ha, rfl⟩ := hl
      obtain ⟨cs, r, hx, hr, hq⟩ := ok_part ha h
      simp only [pstep, istep, hc, if_true, execOp]
      refine pv_all (v := r) (w' := w) ?_ hq
      simp only [Instr.field, Sem.run_bind, run_underlying' hu, Result.andThen, hf, hx, asAgg, Sem.run_pure, hr]
    · cases hl
  · cases hl

theorem low_iaddr {t : TypeId} {x ix : Operand} {ty : TypeId} {s : SOp} {ρ : Regs} (hc : (Op.indexAddr t x ix).operands.all constFit = true) (hl : lowOp P (.indexAddr t x ix) = some s) (h : (sone P K ρ w s).all Q) : (pval K (pstep P ρ (.indexAddr t x ix) ty w)).all Q := by
  simp only [lowOp] at hl
  split at hl
  · rename_i e hu
    simp only [Option.map_eq_some_iff] at hl
    obtain ⟨i, hi, rfl⟩ := hl
    obtain ⟨r, hr, hq⟩ := ok_indexAt hu hi h
    simp only [pstep, istep, hc, if_true, execOp]
    exact pv_all hr hq
  · cases hl

theorem low_slice {t : TypeId} {x : Operand} {lo hi mx : Option Operand} {ty : TypeId} {s : SOp} {ρ : Regs} (hc : (Op.slice t x lo hi mx).operands.all constFit = true) (hl : lowOp P (.slice t x lo hi mx) = some s) (h : (sone P K ρ w s).all Q) : (pval K (pstep P ρ (.slice t x lo hi mx) ty w)).all Q := by
  simp only [lowOp] at hl
  split at hl
  · rename_i e hu
    simp only [Option.map_eq_some_iff] at hl
    obtain ⟨i, hi', rfl⟩ := hl
    have := ok_slice hu hi' h
    simp only [pstep, istep, hc, if_true]
    unfold pval
    refine T.all_bind.2 (T.all_bind.2 (T.all_mono (fun p hp => ?_) this))
    exact hp
  · cases hl

theorem low_lookup {t : TypeId} {x k : Operand} {ok : Bool} {ty : TypeId} {s : SOp} {ρ : Regs} (hc : (Op.lookup t x k ok).operands.all constFit = true) (hl : lowOp P (.lookup t x k ok) = some s) (h : (sone P K ρ w s).all Q) : (pval K (pstep P ρ (.lookup t x k ok) ty w)).all Q := by
  simp only [lowOp] at hl
  split at hl
  · rename_i kt et hu
    split at hl
    · rename_i kk i hk hi
      split at hl
      · rename_i z hz
        split at hl
        · rename_i hs
          simp only [Option.some.injEq] at hl; subst hl
          obtain ⟨r, hr, hq, hkf⟩ := ok_lookup hu hk hi hz h
          have h1 : elemOk P t = true := by unfold elemOk; rw [hu]; exact zeroOk_of hi hz hs
          have h2 : keyTy P t = true := by unfold keyTy isInt; rw [hu]; simp only [hk]
          have h3 : (keyFit (ρ k) && elemOk P t && keyTy P t) = true := by simp [hkf, h1, h2]
          simp only [pstep, istep, hc, if_true, execOp, h3]
          exact pv_all hr hq
        · cases hl
      · cases hl
    · cases hl
  · cases hl

theorem low_update {t : TypeId} {m k v : Operand} {ty : TypeId} {s : SOp} {ρ : Regs} (hc : (Op.mapUpdate t m k v).operands.all constFit = true) (hl : lowOp P (.mapUpdate t m k v) = some s) (h : (sone P K ρ w s).all Q) : (pval K (pstep P ρ (.mapUpdate t m k v) ty w)).all Q := by
  simp only [lowOp] at hl
  split at hl
  · rename_i kt et hu
    split at hl
    · rename_i kk hk
      simp only [Option.some.injEq] at hl; subst hl
      obtain ⟨w', hr, hq, hkf⟩ := ok_update hu hk h
      have h2 : keyTy P t = true := by unfold keyTy isInt; rw [hu]; simp only [hk]
      have h3 : (keyFit (ρ k) && keyTy P t) = true := by simp [hkf, h2]
      simp only [pstep, istep, hc, if_true, execOp, h3]
      exact pu_all hr hq
    · cases hl
  · cases hl
end
end Go.Ideal
