/-
  The operations side by side: places, maps, iterators.
-/
import Derived.Test.YtplcocifndpplaaIf
namespace Go.Ideal
open Go
section
variable {P : Program} {B : Nat} {w0 : Base} {β : Beta}

theorem still_mark (m : Mark) : Still (mark m) P := fun σ w u σ' hu => by
  have hu' : Result.ok () σ = .ok u σ' := hu
  simp only [Result.ok.injEq] at hu'
  exact ⟨hu'.2.symm, rfl⟩

theorem still_askRoom (n : Nat) : Still (askRoom n) P := by
  unfold askRoom
  split
  · exact still_mark _
  · exact still_pure _

theorem sim_makeSlice {t : TypeId} (hz : elemOk P t = true) {l l' c c' : Value} (hl : VR β l l') (hc : VR β c c') (hcap : capFit c = true) :
    Sim P B w0 β (Instr.makeSlice t l c) (Instr.makeSlice t l' c') VR := by
  unfold Instr.makeSlice
  refine Sim.under fun d hd => ?_
  split
  · rename_i elem
    refine Sim.bind (sim_asInt hl) fun β1 n n' hle e => ?_
    subst e
    refine Sim.bind (A := fun _ x y => x = y ∧ IntKind.i64.wrap x < 4611686018427387904) ?_ fun β2 m m' hle2 e => ?_
    · intro β3 σ w hle3 hR u σ' hu
      obtain ⟨β4, v', w', h1, h2, h3, h4⟩ := sim_asInt (hc.mono hle) β3 σ w hle3 hR u σ' hu
      refine ⟨β4, v', w', h1, h2, h3, h4, ?_⟩
      cases hc with
      | int k n =>
        simp [asInt, asIntOf, Result.andThen] at hu
        obtain ⟨rfl, _⟩ := hu
        simpa [capFit] using hcap
      | _ => simp [asInt, asIntOf, Result.andThen, Go.stuck, Go.unsupported, Sem.run] at hu
    · obtain ⟨rfl, hm⟩ := e
      refine Sim.still (still_typeInfo _) fun info => ?_
      dsimp only
      split
      · refine Sim.never ?_
        split
        · exact never_left (never_runtimePanic _)
        · split
          · exact never_left (never_runtimePanic _)
          · exact never_bind fun _ => never_left (never_runtimePanic _)
      · rename_i hcond
        simp only [Bool.or_eq_true, decide_eq_true_eq, not_or, Int.not_lt, Bool.not_eq_true] at hcond
        have hlc : (IntKind.i64.wrap n).toNat ≤ (IntKind.i64.wrap m).toNat := by omega
        have hcO : (IntKind.i64.wrap m).toNat < OPEN := by
          unfold OPEN; omega
        refine Sim.still (still_askRoom _) fun _ => ?_
        refine Sim.still (still_sizeOf _) fun size => ?_
        by_cases h0 : (IntKind.i64.wrap m).toNat * size = 0
        · rw [if_pos h0]
          exact Sim.bind (Sim.pure (A := AR) fun β4 _ => AR.empty β4) fun β4 z z' hle4 hzz => sim_newSlice elem _ _ hlc hcO (hzz.row _)
        · rw [if_neg h0]
          exact Sim.bind (sim_zeroValue (elemOk_slice hz hd)) fun β4 z z' hle4 hzz => Sim.bind (Sim.pure (A := AR) fun β5 hle5 => (hzz.mono hle5).cells) fun β5 y y' hle5 hyy => sim_newSlice elem _ _ hlc hcO (hyy.row _)
  · exact Sim.stuck

theorem sim_indexAt {t : TypeId} {x x' i i' : Value} (hx : VR β x x') (hi : VR β i i') : Sim P B w0 β (Instr.indexAt t x i) (Instr.indexAt t x' i') VR := by
  unfold Instr.indexAt
  refine Sim.bind (sim_asIntOf hi) fun β1 p p' hle e => ?_
  subst e
  obtain ⟨k, n⟩ := p
  simp only
  have hx1 := hx.mono hle
  have tail : ∀ {β2 : Beta} (b b' : Option Addr) (l : Nat) (e : TypeId),
      ((b = none ∧ b' = none) ∨ ∃ a a', b = some a ∧ b' = some a' ∧ (PR β2 a a' ∨ l = 0)) →
      Sim P B w0 β2 (do
          let tiny := decide (l ≤ 1) && (match ← underlying t with | .array .. => true | _ => false)
          match b with
          | some a =>
            if 0 ≤ n ∧ n < l then pure (.pointer (some (a.add (n.toNat * (← sizeOf e)))))
            else if tiny then Go.unsupported (.noEntry "op/indexAddr.an index out of range at an array of length 0 or 1 (ledger 616)")
            else boundsPanic k n l .index
          | none => boundsPanic k n 0 .index)
        (do
          let tiny := decide (l ≤ 1) && (match ← underlying t with | .array .. => true | _ => false)
          match b' with
          | some a =>
            if 0 ≤ n ∧ n < l then pure (.pointer (some (a.add (n.toNat * (← sizeOf e)))))
            else if tiny then Go.unsupported (.noEntry "op/indexAddr.an index out of range at an array of length 0 or 1 (ledger 616)")
            else boundsPanic k n l .index
          | none => boundsPanic k n 0 .index) VR := by
    intro β2 b b' l e hb
    refine Sim.under fun d2 hd2 => ?_
    rcases hb with ⟨rfl, rfl⟩ | ⟨a, a', rfl, rfl, hp⟩
    · exact Sim.never (never_boundsPanic _ _ _ _)
    · dsimp only
      by_cases hn : 0 ≤ n ∧ n < l
      · rw [if_pos hn, if_pos hn]
        have hp' : PR β2 a a' := hp.resolve_right (by omega)
        exact Sim.still (still_sizeOf _) fun s => Sim.pure fun β3 hle3 => ((hp'.mono hle3).add _).vr
      · rw [if_neg hn, if_neg hn]
        refine Sim.never ?_
        split <;> (split <;> first | exact never_halt _ | exact never_boundsPanic _ _ _ _)
  refine Sim.under fun d hd => ?_
  cases d with
  | array len elem =>
    simp only
    exact Sim.bind (sim_sureAddr hx1) fun β2 a a' hle2 hp => tail (some a) (some a') len elem (.inr ⟨a, a', rfl, rfl, .inl hp⟩)
  | slice elem =>
    cases hx1 with
    | nilSlice => exact tail none none 0 elem (.inl ⟨rfl, rfl⟩)
    | @slice b o len cap o' cap' bi hb hs =>
      refine tail _ _ len elem (.inr ⟨_, _, rfl, rfl, ?_⟩)
      rcases hs with ⟨h1, h2, h3, h4 | h4⟩ | ⟨h1, h2, ⟨h3, _⟩ | ⟨h3, _⟩⟩ | ⟨_, h3, _⟩
      · subst h4; exact .inl ⟨b, o, bi, hb, rfl, rfl⟩
      · exact .inr (by omega)
      · subst h3; exact .inl ⟨b, o, bi, hb, rfl, rfl⟩
      · exact .inr h3
      · subst h3; exact .inl ⟨b, o, bi, hb, rfl, rfl⟩
    | _ => exact Sim.stuck
  | _ => exact Sim.stuck

theorem sim_index {t : TypeId} {x x' i i' : Value} (hx : VR β x x') (hi : VR β i i') : Sim P B w0 β (Instr.index t x i) (Instr.index t x' i') VR := by
  unfold Instr.index
  refine Sim.bind (sim_asIntOf hi) fun β1 p p' hle e => ?_
  subst e
  obtain ⟨k, n⟩ := p
  simp only
  have hx1 := hx.mono hle
  refine Sim.under fun d hd => ?_
  cases d with
  | array len elem =>
    cases hx1 with
    | agg hs hc =>
      dsimp only
      split
      · exact Sim.still (still_sizeOf _) fun s => sim_part _ _ ⟨hs, hc⟩
      · exact Sim.never (never_boundsPanic _ _ _ _)
    | _ => exact Sim.stuck
  | string =>
    cases hx1 with
    | string s =>
      dsimp only
      split
      · exact Sim.pure fun _ _ => .int _ _
      · exact Sim.never (never_boundsPanic _ _ _ _)
    | _ => exact Sim.stuck
  | _ => exact Sim.stuck

/-! ### Maps -/
theorem sim_getObj {b : Nat} {bi : BI} (hb : β b = some bi) : Sim P B w0 β (getObj b) (getObj bi.r) (fun β o o' => OR β bi o o' ∧ wr o = true) := by
  intro β1 σ w hle hR u σ' hu
  have hb1 := hle _ _ hb
  simp only [getObj, Sem.run] at hu ⊢
  cases ho : σ.heap[b]? with
  | none => simp [ho] at hu
  | some o =>
    rw [ho] at hu
    cases o with
    | cells c e fz => simp at hu
    | _ =>
      simp only [Result.ok.injEq] at hu
      obtain ⟨rfl, rfl⟩ := hu
      obtain ⟨o', ho', hor⟩ := hR.obj _ _ _ ho hb1 rfl
      refine ⟨β1, o', w, .refl _, ?_, hR, hor, rfl⟩
      rw [ho']
      cases hor <;> rfl
end
end Go.Ideal
