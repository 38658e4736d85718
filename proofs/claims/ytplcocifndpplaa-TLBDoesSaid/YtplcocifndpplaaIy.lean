/-
  New memory ahead of its time.
-/
import Derived.Test.YtplcocifndpplaaIt
namespace Go.Ideal
open Go

def Base.hold (w0 : Base) (r : Nat) (x : Obj) : Base := { w := w0.w, S := fun k => w0.S k ∨ k = r, o := fun k => if k = r then some x else w0.o k }
def Base.free (w0 : Base) (r : Nat) : Base := { w := w0.w, S := fun k => w0.S k ∧ k ≠ r, o := w0.o }

/-- What an operation that lays new memory lays, and what it hands back. -/
def freshObj (P : Program) (op : Op) (ρ : Operand → Value) : Option (Array Value × TypeId × (Nat → Value)) :=
  match op with
  | .alloc e => match P.info? e with
    | some i => match i.zero with
      | some z => some (z.cells, e, fun b => .pointer (some ⟨b, 0, none⟩))
      | none => none
    | none => none
  | .buildSlice t len parts => match P.underlying t with
    | some (.slice e) => match P.info? e with
      | some i =>
        if len * i.size > 2 ^ 24 ∨ (len * i.size ≠ 0 ∧ i.zero.isNone = true) then none else
        match Instr.fill (fun j => some (j * i.size, i.size)) ((Array.range (len * i.size)).map fun k => ((match i.zero with | some z => if len * i.size = 0 then #[] else z.cells | none => #[]) : Array Value)[k % ((match i.zero with | some z => if len * i.size = 0 then #[] else z.cells | none => #[]) : Array Value).size]!) (parts.map fun (j, x) => (j, ρ x)).toList with
        | some cs => some (cs, e, fun b => .slice (some ⟨b, 0, none⟩) len len)
        | none => none
      | none => none
    | _ => none
  | _ => none

section
variable {P : Program} {B : Nat} {w0 : Base} {β : Beta}

theorem R.early {σ w : World} (h : R P B w0 β σ w) (x : Obj) : R P B (w0.hold w.heap.size x) β σ (w.alloc x) where
  below := h.below.alloc h.size x
  held := fun k hk => by
    rcases hk with hk | rfl
    · obtain ⟨y, hy, hy2⟩ := h.held k hk
      have hne : k ≠ w.heap.size := Nat.ne_of_lt (Array.getElem?_eq_some_iff.1 hy).1
      exact ⟨y, by rw [alloc_heap, if_neg hne]; exact hy, by simp only [Base.hold, if_neg hne]; exact hy2⟩
    · exact ⟨x, by rw [alloc_heap, if_pos rfl], by simp [Base.hold]⟩
  size := by have := h.size; simp; omega
  dom := h.dom
  cov := h.cov
  obj := fun b o bi hb hbi hl => by
    obtain ⟨o', ho', hor⟩ := h.obj b o bi hb hbi hl
    exact ⟨o', by rw [alloc_heap, if_neg (Nat.ne_of_lt (Array.getElem?_eq_some_iff.1 ho').1)]; exact ho', hor⟩
  dd := h.dd
  esz := h.esz
  new := h.new
  free := fun b o bi hb hbi hl => by
    rintro (hs | hr)
    · exact h.free b o bi hb hbi hl hs
    · exact absurd (h.lt hb hbi hl) (by rw [hr]; exact Nat.lt_irrefl _)
  inj := h.inj

theorem R.late {σ w : World} (h : R P B w0 β σ w) {r : Nat} {cs cs' : Array Value} {e : TypeId} (hr : w0.S r) (ho : w0.o r = some (.cells cs' e)) (hB : B ≤ r) (hc : AR β cs cs') :
    R P B (w0.free r) (β.put σ.heap.size ⟨r, 0, cs.size, ((P.info? e).map (·.size)).getD 0, cs.size⟩) (σ.alloc (.cells cs e)) w := by
  have hle := Beta.le_put (bi := ⟨r, 0, cs.size, ((P.info? e).map (·.size)).getD 0, cs.size⟩) h.fresh
  have hold : ∀ k bk, k ≠ σ.heap.size → (β.put σ.heap.size ⟨r, 0, cs.size, ((P.info? e).map (·.size)).getD 0, cs.size⟩) k = some bk → β k = some bk := fun k bk hk e => by
    unfold Beta.put at e; rwa [if_neg hk] at e
  have hnew : ∀ bk, (β.put σ.heap.size ⟨r, 0, cs.size, ((P.info? e).map (·.size)).getD 0, cs.size⟩) σ.heap.size = some bk → bk = ⟨r, 0, cs.size, ((P.info? e).map (·.size)).getD 0, cs.size⟩ := fun bk e => by
    unfold Beta.put at e; rw [if_pos rfl] at e; simpa using e.symm
  obtain ⟨x, hx, hx2⟩ := h.held r hr
  rw [ho] at hx2
  simp only [Option.some.injEq] at hx2
  subst hx2
  refine { below := h.below, held := fun k hk => h.held k hk.1, size := h.size, dom := ?_, cov := ?_, obj := ?_, dd := ?_, esz := ?_, new := ?_, free := ?_, inj := ?_ }
  · intro k bk hk
    by_cases ek : k = σ.heap.size
    · subst ek; simp
    · have := h.dom k bk (hold _ _ ek hk)
      simp; omega
  · intro k hk
    by_cases ek : k = σ.heap.size
    · subst ek; exact ⟨_, by unfold Beta.put; rw [if_pos rfl]⟩
    · obtain ⟨bk, hb⟩ := h.cov k (by simp at hk; omega)
      exact ⟨bk, hle _ _ hb⟩
  · intro k ok bk hk hbk hl
    rw [alloc_heap] at hk
    by_cases ek : k = σ.heap.size
    · subst ek
      rw [if_pos rfl] at hk
      have := hnew _ hbk
      subst this
      simp only [Option.some.injEq] at hk
      subst hk
      refine ⟨_, hx, .cells rfl hc.1.symm (by simp) (fun i v hv => ?_) (.inl ⟨rfl, rfl⟩)⟩
      obtain ⟨v', hv', hvr⟩ := hc.get hv
      exact ⟨v', by simpa using hv', hvr.mono hle⟩
    · rw [if_neg ek] at hk
      have hb' := hold _ _ ek hbk
      obtain ⟨o2, ho2, hor⟩ := h.obj _ _ _ hk hb' hl
      exact ⟨o2, ho2, hor.mono hle⟩
  · intro k o3 hk hl
    rw [alloc_heap] at hk
    by_cases ek : k = σ.heap.size
    · rw [if_pos ek] at hk
      simp only [Option.some.injEq] at hk
      subst hk
      cases hl
    · rw [if_neg ek] at hk
      exact h.dd _ _ hk hl
  · intro k c e' fz bk hk hl hbk i hi
    rw [alloc_heap] at hk
    by_cases ek : k = σ.heap.size
    · subst ek
      rw [if_pos rfl] at hk
      have := hnew _ hbk
      subst this
      simp only [Option.some.injEq, Obj.cells.injEq] at hk
      obtain ⟨_, rfl, _⟩ := hk
      rw [hi]; rfl
    · rw [if_neg ek] at hk
      exact h.esz _ _ _ _ _ hk hl (hold _ _ ek hbk) i hi
  · intro k ok bk hk hbk hl
    rw [alloc_heap] at hk
    by_cases ek : k = σ.heap.size
    · subst ek
      have := hnew _ hbk
      subst this
      exact hB
    · rw [if_neg ek] at hk
      exact h.new _ _ _ hk (hold _ _ ek hbk) hl
  · intro k ok bk hk hbk hl hs
    rw [alloc_heap] at hk
    by_cases ek : k = σ.heap.size
    · subst ek
      have := hnew _ hbk
      subst this
      exact hs.2 rfl
    · rw [if_neg ek] at hk
      exact h.free _ _ _ hk (hold _ _ ek hbk) hl hs.1
  · intro k1 k2 o1 o2 b1 b2 h1 h2 e1 e2 hw1 hl2 hrr
    rw [alloc_heap] at h1 h2
    by_cases g1 : k1 = σ.heap.size
    · by_cases g2 : k2 = σ.heap.size
      · rw [g1, g2]
      · exfalso
        subst g1
        have := hnew _ e1
        subst this
        rw [if_neg g2] at h2
        exact h.free _ _ _ h2 (hold _ _ g2 e2) hl2 (by rw [← hrr]; exact hr)
    · by_cases g2 : k2 = σ.heap.size
      · exfalso
        subst g2
        have := hnew _ e2
        subst this
        rw [if_neg g1] at h1
        exact h.free _ _ _ h1 (hold _ _ g1 e1) (live_of_wr hw1) (by rw [hrr]; exact hr)
      · rw [if_neg g1] at h1
        rw [if_neg g2] at h2
        exact h.inj _ _ _ _ _ _ h1 h2 (hold _ _ g1 e1) (hold _ _ g2 e2) hw1 hl2 hrr

theorem fresh_shape {op : Op} {ρ : Operand → Value} {cs : Array Value} {e : TypeId} {sh : Nat → Value} (h : freshObj P op ρ = some (cs, e, sh)) (hfit : ∀ t n p, op = .buildSlice t n p → n < 1000000)
    {b r : Nat} {bi : BI} (hb : β b = some bi) (hr : bi.r = r) (hd : bi.d = 0) : VR β (sh b) (sh r) := by
  subst hr
  unfold freshObj at h
  split at h
  · split at h
    · split at h
      · simp only [Option.some.injEq, Prod.mk.injEq] at h
        obtain ⟨_, _, rfl⟩ := h
        have := VR.ptr (β := β) (o := 0) hb
        rw [hd] at this
        exact this
      · cases h
    · cases h
  · rename_i t len parts
    split at h
    · split at h
      · split at h
        · cases h
        · split at h
          · simp only [Option.some.injEq, Prod.mk.injEq] at h
            obtain ⟨_, _, rfl⟩ := h
            have := hfit t len parts rfl
            exact .slice hb (.inl ⟨by unfold OPEN; omega, rfl, Nat.le_refl _, .inl (by rw [hd])⟩)
          · cases h
      · cases h
    · cases h
  · cases h

/-- It lays that, in whatever world. -/
theorem fresh_run {o : Oper} {ρ : Operand → Value} {cs : Array Value} {e : TypeId} {sh : Nat → Value} (h : freshObj P o.op ρ = some (cs, e, sh)) (w : World) :
    (execOp ρ o).run P w = .ok (.value (sh w.heap.size)) (w.alloc (.cells cs e)) := by
  obtain ⟨dst, op, ty, pos, after, guard⟩ := o
  simp only at h
  unfold freshObj at h
  split at h
  · split at h
    · rename_i i hi
      split at h
      · rename_i z hz
        simp only [Option.some.injEq, Prod.mk.injEq] at h
        obtain ⟨rfl, rfl, rfl⟩ := h
        simp [execOp, Instr.alloc, Sem.run_bind, zeroValue, typeInfo, hi, hz, Result.andThen, newVar, newRow]
      · cases h
    · cases h
  · rename_i t len parts
    split at h
    · rename_i e' hu
      split at h
      · rename_i i hi
        split at h
        · cases h
        · rename_i hc
          split at h
          · rename_i cs' hf
            simp only [Option.some.injEq, Prod.mk.injEq] at h
            obtain ⟨rfl, rfl, rfl⟩ := h
            have hbig : ¬ len * i.size > 2 ^ 24 := fun hh => hc (.inl hh)
            by_cases h0 : len * i.size = 0
            · have hf' : Instr.fill (fun j => some (j * i.size, i.size)) ((Array.range (len * i.size)).map ((#[] : Array Value)[· % (#[] : Array Value).size]!)) (parts.map fun (j, x) => (j, ρ x)).toList = some cs' := by
                have : (Array.range (len * i.size)).map ((#[] : Array Value)[· % (#[] : Array Value).size]!) = (Array.range (len * i.size)).map fun k => ((match i.zero with | some z => if len * i.size = 0 then #[] else z.cells | none => #[]) : Array Value)[k % ((match i.zero with | some z => if len * i.size = 0 then #[] else z.cells | none => #[]) : Array Value).size]! := by rw [h0]; simp
                rw [this]; exact hf
              simp only [execOp, Instr.buildSlice, Sem.run_bind, run_underlying' hu, Result.andThen, run_sizeOf' hi w, hbig, if_false, if_pos h0, Sem.run_pure, hf']
              simp [Sem.run_bind, newRow, Result.andThen]
            · cases hz : i.zero with
              | none => exact absurd (.inr ⟨h0, by rw [hz]; rfl⟩) hc
              | some z =>
                have hf' : Instr.fill (fun j => some (j * i.size, i.size)) ((Array.range (len * i.size)).map (z.cells[· % z.cells.size]!)) (parts.map fun (j, x) => (j, ρ x)).toList = some cs' := by
                  rw [hz] at hf; simp only [h0, if_false] at hf; exact hf
                have hzv : (zeroValue e').run P w = .ok z w := by simp [zeroValue, typeInfo, Sem.run_bind, hi, hz, Result.andThen]
                simp only [execOp, Instr.buildSlice, Sem.run_bind, run_underlying' hu, Result.andThen, run_sizeOf' hi w, hbig, if_false, if_neg h0, Sem.run_pure, hzv, hf']
                simp [Sem.run_bind, newRow, Result.andThen]
          · cases h
      · cases h
    · cases h
  · cases h

def lateFit (P : Program) : Op → Bool
  | .alloc e => zeroOk P e
  | .buildSlice t n _ => elemOk P t && decide (n < 1000000)
  | _ => false

theorem fresh_of {o : Oper} {ρ : Operand → Value} {σ : World} {Q : Next × World → Prop} (hl : lateOp o.op = true) (hQ : (istep P ρ o σ).all Q) :
    ∃ cs e sh, freshObj P o.op ρ = some (cs, e, sh) ∧ Q (.value (sh σ.heap.size), σ.alloc (.cells cs e)) ∧ lateFit P o.op = true := by
  have hc := istep_consts hQ
  have hrun : ∀ {cs : Array Value} {e : TypeId} {sh : Nat → Value}, freshObj P o.op ρ = some (cs, e, sh) → ∀ w, (execOp ρ o).run P w = .ok (.value (sh w.heap.size)) (w.alloc (.cells cs e)) := fun h w => fresh_run h w
  obtain ⟨dst, op, ty, pos, after, guard⟩ := o
  simp only at hl hc hrun ⊢
  simp only [istep, hc, if_true] at hQ
  cases op with
  | alloc t =>
    simp only at hQ
    split at hQ
    · rename_i hz0
      cases hf : freshObj P (.alloc t) ρ with
      | some r =>
        obtain ⟨cs, e, sh⟩ := r
        rw [hrun hf σ] at hQ
        exact ⟨cs, e, sh, rfl, hQ, hz0⟩
      | none =>
        exfalso
        unfold freshObj at hf
        simp only at hf
        cases hi : P.info? t with
        | none => simp [execOp, Instr.alloc, Sem.run_bind, zeroValue, typeInfo, hi, Result.andThen, ofRun] at hQ; exact hQ
        | some i =>
          rw [hi] at hf
          cases hz : i.zero with
          | none => simp [execOp, Instr.alloc, Sem.run_bind, zeroValue, typeInfo, hi, hz, Result.andThen, ofRun] at hQ; exact hQ
          | some z => simp only [hz] at hf; cases hf
    · exact hQ.elim
  | buildSlice t len parts =>
    simp only at hQ
    split at hQ
    · rename_i hz0
      cases hf : freshObj P (.buildSlice t len parts) ρ with
      | some r =>
        obtain ⟨cs, e, sh⟩ := r
        rw [hrun hf σ] at hQ
        exact ⟨cs, e, sh, rfl, hQ, hz0⟩
      | none =>
        exfalso
        unfold freshObj at hf
        simp only at hf
        simp only [execOp, Instr.buildSlice, Sem.run_bind] at hQ
        cases hu : P.underlying t with
        | none => simp [underlying, Sem.run_bind, hu, Result.andThen, ofRun] at hQ; exact hQ
        | some d =>
          rw [hu] at hf
          rw [run_underlying' hu] at hQ
          cases d with
          | slice e =>
            simp only at hf
            simp only [Result.andThen, Sem.run_bind] at hQ
            cases hi : P.info? e with
            | none => simp [sizeOf, typeInfo, Sem.run_bind, hi, Result.andThen, ofRun] at hQ; exact hQ
            | some i =>
              rw [hi] at hf
              simp only at hf
              rw [run_sizeOf' hi] at hQ
              simp only at hQ
              by_cases hbig : len * i.size > 2 ^ 24
              · simp [hbig, Sem.run_bind, Result.andThen, ofRun] at hQ; exact hQ
              · by_cases h0 : len * i.size = 0
                · rw [if_neg (by simp [hbig, h0])] at hf
                  split at hf
                  · cases hf
                  · rename_i hfill
                    have hrow : (Array.range (len * i.size)).map ((#[] : Array Value)[· % (#[] : Array Value).size]!) = (Array.range (len * i.size)).map fun k => ((match i.zero with | some z => if len * i.size = 0 then #[] else z.cells | none => #[]) : Array Value)[k % ((match i.zero with | some z => if len * i.size = 0 then #[] else z.cells | none => #[]) : Array Value).size]! := by rw [h0]; simp
                    rw [← hrow] at hfill
                    simp only [hbig, if_false, if_pos h0, Sem.run_pure, Result.andThen, Sem.run_bind, hfill, run_stuck, ofRun] at hQ
                    exact hQ
                · cases hz : i.zero with
                  | none =>
                    simp only [hbig, if_false, if_neg h0, Sem.run_bind, zeroValue, typeInfo, run_program, hi, Sem.run_pure, Result.andThen, hz, run_unsupported, ofRun] at hQ
                    exact hQ
                  | some z =>
                    rw [hz] at hf
                    rw [if_neg (by simp [hbig])] at hf
                    split at hf
                    · cases hf
                    · rename_i hfill
                      simp only [h0, if_false] at hfill
                      simp only [hbig, if_false, if_neg h0, Sem.run_bind, zeroValue, typeInfo, run_program, hi, Sem.run_pure, Result.andThen, hz, hfill, run_stuck, ofRun] at hQ
                      exact hQ
          | _ => simp [Result.andThen, ofRun] at hQ; exact hQ
    · exact hQ.elim
  | _ => cases hl

theorem parts_rel {ρ ρ' : Operand → Value} : ∀ (l : List (Nat × Operand)), (∀ p ∈ l, VR β (ρ p.2) (ρ' p.2)) → PartR β (l.map fun (j, x) => (j, ρ x)) (l.map fun (j, x) => (j, ρ' x))
  | [], _ => trivial
  | p :: l, h => ⟨rfl, h p (by simp), parts_rel l fun q hq => h q (by simp [hq])⟩

theorem fresh_rel {o : Oper} {ρ ρ' : Operand → Value} {cs : Array Value} {e : TypeId} {sh : Nat → Value} (hfit : lateFit P o.op = true) (hc : o.op.operands.all constFit = true) (hρ : Rho β o ρ ρ') (h : freshObj P o.op ρ = some (cs, e, sh)) :
    ∃ cs', freshObj P o.op ρ' = some (cs', e, sh) ∧ AR β cs cs' := by
  obtain ⟨dst, op, ty, pos, after, guard⟩ := o
  simp only at hfit hc h ⊢
  have hop : ∀ x ∈ op.operands.toList, constFit x = true := fun x hx => by
    have h0 := Array.all_eq_true.1 hc
    obtain ⟨i, hi, rfl⟩ := List.mem_iff_getElem.1 hx
    exact h0 i (by simpa using hi)
  have hv : ∀ x ∈ op.operands.toList, VR β (ρ x) (ρ' x) := fun x hx => hρ x hx (hop x hx)
  unfold freshObj at h ⊢
  split at h
  · rename_i e0
    split at h
    · rename_i i hi
      split at h
      · rename_i z hz
        simp only [Option.some.injEq, Prod.mk.injEq] at h
        obtain ⟨rfl, rfl, rfl⟩ := h
        exact ⟨z.cells, rfl, (zero_self (P := P) hfit hi hz β).cells⟩
      · cases h
    · cases h
  · rename_i t len parts
    split at h
    · rename_i e' hu
      split at h
      · rename_i i hi
        split at h
        · cases h
        · rename_i hcc
          split at h
          · rename_i cs0 hf
            simp only [Option.some.injEq, Prod.mk.injEq] at h
            obtain ⟨rfl, rfl, rfl⟩ := h
            have hzz : AR β (match i.zero with | some z => if len * i.size = 0 then #[] else z.cells | none => #[]) (match i.zero with | some z => if len * i.size = 0 then #[] else z.cells | none => #[]) := by
              cases hz : i.zero with
              | none => exact AR.empty β
              | some z =>
                simp only
                split
                · exact AR.empty β
                · simp only [lateFit, Bool.and_eq_true] at hfit
                  exact (zero_self (P := P) (elemOk_slice hfit.1 hu) hi hz β).cells
            have hparts : PartR β (parts.map fun (j, x) => (j, ρ x)).toList (parts.map fun (j, x) => (j, ρ' x)).toList := by
              rw [Array.toList_map, Array.toList_map]
              exact parts_rel _ fun p hp => hv p.2 (by simp [Op.operands]; exact ⟨p.1, by simpa using hp⟩)
            obtain ⟨c', h1, h2⟩ := fill_rel (β := β) (fun j => some (j * i.size, i.size)) _ _ _ _ hparts (hzz.row (len * i.size)) _ hf
            simp only [hu, hi, hcc, if_false]
            rw [h1]
            exact ⟨c', rfl, h2⟩
          · cases h
      · cases h
    · cases h
  · cases h
end
end Go.Ideal
