/-
  The operations side by side: instructions.
-/
import Derived.Test.YtplcocifndpplaaId
namespace Go.Ideal
open Go

theorem selfVR (β : Beta) : ∀ (n : Nat) (v : Value), selfD n v = true → VR β v v
  | n, .bool b, _ => .bool b
  | n, .int k m, _ => .int k m
  | n, .float k m, _ => .float k m
  | n, .complex k m l, _ => .complex k m l
  | n, .string s, _ => .string s
  | n, .nilFunc, _ => .nilFunc
  | n, .nilIface, _ => .nilIface
  | n, .pointer none, _ => .nilPtr
  | n, .slice none 0 0, _ => .nilSlice
  | n, .map none, _ => .nilMap
  | n + 1, .agg cs, h => by
    simp only [selfD, List.all_eq_true] at h
    refine .agg rfl fun i v v' e e' => ?_
    rw [e] at e'
    simp only [Option.some.injEq] at e'
    subst e'
    exact selfVR β n v (h v (by simpa using Array.mem_of_getElem? e))
  | n + 1, .tuple cs, h => by
    simp only [selfD, List.all_eq_true] at h
    refine .tuple rfl fun i v v' e e' => ?_
    rw [e] at e'
    simp only [Option.some.injEq] at e'
    subst e'
    exact selfVR β n v (h v (by simpa using Array.mem_of_getElem? e))
  | n + 1, .iface t v, h => by
    simp only [selfD] at h
    exact .iface t (selfVR β n v h)
  | 0, .agg _, h => by simp [selfD] at h
  | 0, .tuple _, h => by simp [selfD] at h
  | 0, .iface _ _, h => by simp [selfD] at h
  | 0, .pointer (some _), h => by simp [selfD] at h
  | n + 1, .pointer (some _), h => by simp [selfD] at h
  | 0, .slice (some _) _ _, h => by simp [selfD] at h
  | n + 1, .slice (some _) _ _, h => by simp [selfD] at h
  | 0, .slice none (m + 1) _, h => by simp [selfD] at h
  | n + 1, .slice none (m + 1) _, h => by simp [selfD] at h
  | 0, .slice none 0 (c + 1), h => by simp [selfD] at h
  | n + 1, .slice none 0 (c + 1), h => by simp [selfD] at h
  | 0, .map (some _), h => by simp [selfD] at h
  | n + 1, .map (some _), h => by simp [selfD] at h
  | 0, .chan _, h => by simp [selfD] at h
  | n + 1, .chan _, h => by simp [selfD] at h
  | 0, .func _ _ _, h => by simp [selfD] at h
  | n + 1, .func _ _ _, h => by simp [selfD] at h

theorem undefVR (β : Beta) : VR β undef undef := .tuple rfl fun i v v' e => by simp at e

theorem zero_self {P : Program} {t : TypeId} (hz : zeroOk P t = true) {i : TypeInfo} {z : Value} (hi : P.info? t = some i) (h : i.zero = some z) (β : Beta) : VR β z z := by
  unfold zeroOk at hz
  rw [hi] at hz
  simp only [h] at hz
  exact selfVR β 4 z hz

section
variable {P : Program} {B : Nat} {w0 : Base} {β : Beta}

/-- It never comes to an end that counts. -/
def Never {α : Type} (s : Sem α) (P : Program) : Prop := ∀ σ v σ', s.run P σ ≠ .ok v σ'
theorem never_halt {α : Type} (x : Halt) : Never (.halt x : Sem α) P := fun σ v σ' h => by simp [Sem.run] at h
theorem never_bind {α γ : Type} {s : Sem α} {k : α → Sem γ} (h : ∀ v, Never (k v) P) : Never (s >>= k) P := fun σ v σ' hu => by
  rw [Sem.run_bind] at hu
  cases hs : s.run P σ with
  | halt x y => rw [hs] at hu; cases hu
  | ok u σ1 => rw [hs] at hu; exact h u _ _ _ hu
theorem never_left {α γ : Type} {s : Sem α} {k : α → Sem γ} (h : Never s P) : Never (s >>= k) P := fun σ v σ' hu => by
  rw [Sem.run_bind] at hu
  cases hs : s.run P σ with
  | halt x y => rw [hs] at hu; cases hu
  | ok u σ1 => exact h _ _ _ hs
theorem never_runtimePanic {α : Type} (e : RuntimeError) : Never (runtimePanic e : Sem α) P := by
  unfold runtimePanic
  refine never_bind fun p => ?_
  cases e <;> first
    | exact never_halt _
    | exact never_bind fun _ => never_bind fun _ => never_halt _
    | (simp only []; exact never_halt _)
theorem never_boundsPanic {α : Type} (k : IntKind) (x y : Int) (c : BoundsCode) : Never (boundsPanic k x y c : Sem α) P := by
  unfold boundsPanic
  dsimp only
  split <;> exact never_bind fun _ => never_runtimePanic _
theorem Sim.never {α α' : Type} {s : Sem α} {s' : Sem α'} {A : Beta → α → α' → Prop} (h : Never s P) : Sim P B w0 β s s' A := Sim.of_ne h

theorem Sim.still {α γ γ' : Type} {s : Sem α} (hs : Still s P) {k : α → Sem γ} {k' : α → Sem γ'} {C : Beta → γ → γ' → Prop}
    (h : ∀ v, Sim P B w0 β (k v) (k' v) C) : Sim P B w0 β (s >>= k) (s >>= k') C :=
  Sim.bind (Sim.of_still hs (D := fun _ x y => x = y) (fun _ _ => rfl)) fun _ v v' hle e => by subst e; exact (h v).le hle

theorem sim_zeroValue {t : TypeId} (hz : zeroOk P t = true) : Sim P B w0 β (zeroValue t) (zeroValue t) VR := by
  intro β1 σ w hle hR u σ' hu
  obtain ⟨rfl, hw⟩ := still_zeroValue t σ w u σ' hu
  refine ⟨β1, u, w, .refl _, hw, hR, ?_⟩
  unfold zeroValue typeInfo at hu
  cases hi : P.info? t with
  | none => simp [program, Sem.run, Go.stuck, hi, Result.andThen] at hu
  | some i =>
    cases hzz : i.zero with
    | none => simp [program, Sem.run, Go.unsupported, hi, hzz, Result.andThen] at hu
    | some z =>
      simp [program, Sem.run, hi, hzz, Result.andThen] at hu
      subst hu
      exact zero_self hz hi hzz β1

theorem sim_sureAddr {v v' : Value} (h : VR β v v') : Sim P B w0 β (Instr.sureAddr v) (Instr.sureAddr v') PR := by
  cases h with
  | ptr e => exact Sim.pure fun β1 hle => ⟨_, _, _, hle _ _ e, rfl, rfl⟩
  | _ => exact Sim.stuck

theorem sim_loadAt {v v' : Value} (t : TypeId) (h : VR β v v') : Sim P B w0 β (Instr.loadAt t v) (Instr.loadAt t v') VR :=
  Sim.bind (sim_sureAddr h) fun _ _ _ _ hp => sim_loadVar t hp

theorem sim_storeAt {v v' x x' : Value} (t : TypeId) (h : VR β v v') (hx : VR β x x') : Sim P B w0 β (Instr.storeAt t v x) (Instr.storeAt t v' x') (fun _ _ _ => True) :=
  Sim.bind (sim_sureAddr h) fun _ _ _ hle hp => sim_storeVar t hp (hx.mono hle)

theorem sim_alloc {t : TypeId} (hz : zeroOk P t = true) : Sim P B w0 β (Instr.alloc t true (.tuple #[])) (Instr.alloc t true (.tuple #[])) VR := by
  unfold Instr.alloc
  refine Sim.bind (sim_zeroValue hz) fun _ _ _ _ hv => ?_
  exact Sim.bind (sim_newVar t hv) fun _ _ _ _ hp => Sim.pure fun β3 hle => (hp.mono hle).vr

theorem sim_box {v v' : Value} (t : TypeId) (h : VR β v v') : Sim P B w0 β (Instr.box t v) (Instr.box t v') VR :=
  Sim.bind (sim_newVar t h) fun _ _ _ _ hp => Sim.pure fun β3 hle => (hp.mono hle).vr

theorem sim_part {c c' : Array Value} (t : TypeId) (n : Nat) (h : AR β c c') : Sim P B w0 β (part t c n) (part t c' n) VR := by
  unfold part
  refine Sim.still (still_isAgg t) fun x => ?_
  cases x with
  | true =>
    simp only [if_true]
    refine Sim.still (still_sizeOf t) fun m => Sim.pure fun β1 hle => ?_
    have := (h.mono hle).extract n (n + m)
    exact .agg this.1 this.2
  | false =>
    simp only [Bool.false_eq_true, if_false]
    cases hc : c[n]? with
    | none => exact Sim.stuck
    | some v =>
      obtain ⟨v', h1, h2⟩ := h.get hc
      rw [h1]
      exact Sim.pure fun β1 hle => h2.mono hle

theorem sim_asAgg {v v' : Value} (h : VR β v v') : Sim P B w0 β (asAgg v) (asAgg v') AR := by
  cases h with
  | agg hs hc => exact Sim.pure fun β1 hle => AR.mono hle ⟨hs, hc⟩
  | _ => exact Sim.stuck

theorem sim_field {v v' : Value} (t : TypeId) (f : Nat) (h : VR β v v') : Sim P B w0 β (Instr.field t v f) (Instr.field t v' f) VR := by
  unfold Instr.field
  refine Sim.still (still_underlying t) fun d => ?_
  split
  · split
    · exact Sim.bind (sim_asAgg h) fun _ _ _ _ hc => sim_part _ _ hc
    · exact Sim.stuck
  · exact Sim.stuck

theorem sim_extract {v v' : Value} (i : Nat) (h : VR β v v') : Sim P B w0 β (Instr.extract v i) (Instr.extract v' i) VR := by
  unfold Instr.extract
  cases h with
  | @tuple c c' hs hc =>
    simp only
    cases hci : c[i]? with
    | none => exact Sim.stuck
    | some x =>
      obtain ⟨x', h1, h2⟩ := (show AR β c c' from ⟨hs, hc⟩).get hci
      rw [h1]
      exact Sim.pure fun β1 hle => h2.mono hle
  | _ => exact Sim.stuck

theorem sim_makeInterface {v v' : Value} (t : TypeId) (h : VR β v v') : Sim P B w0 β (Instr.makeInterface t v) (Instr.makeInterface t v') VR := by
  unfold Instr.makeInterface
  refine Sim.still (still_underlying t) fun d => ?_
  split
  · exact Sim.stuck
  · exact Sim.pure fun β1 hle => .iface t (h.mono hle)

theorem sim_asIntOf {v v' : Value} (h : VR β v v') : Sim P B w0 β (asIntOf v) (asIntOf v') (fun _ x y => x = y) := by
  cases h with
  | int k n => exact Sim.pure fun _ _ => rfl
  | ptr _ => exact Sim.unsupported
  | _ => exact Sim.stuck

theorem sim_asInt {v v' : Value} (h : VR β v v') : Sim P B w0 β (asInt v) (asInt v') (fun _ x y => x = y) :=
  Sim.bind (sim_asIntOf h) fun _ x y _ e => by subst e; exact Sim.pure fun _ _ => rfl

theorem sim_asBool {v v' : Value} (h : VR β v v') : Sim P B w0 β (asBool v) (asBool v') (fun _ x y => x = y) := by
  cases h with
  | bool b => exact Sim.pure fun _ _ => rfl
  | _ => exact Sim.stuck

theorem fieldFit_spec {s : TypeId} {f : Nat} (h : fieldFit P s f = true) : ∃ fields fd i, P.underlying s = some (.struct fields) ∧ fields[f]? = some fd ∧ P.info? fd.type = some i ∧ 0 < i.size := by
  unfold fieldFit at h
  split at h
  · rename_i fields hu
    split at h
    · rename_i fd hf
      split at h
      · rename_i i hi
        exact ⟨fields, fd, i, hu, hf, hi, by simpa using h⟩
      · cases h
    · cases h
  · cases h

theorem run_underlying' {t : TypeId} {d : TypeDesc} (h : P.underlying t = some d) (w : World) : (underlying t).run P w = .ok d w := by
  simp [underlying, program, Sem.run, h, Result.andThen]

theorem run_sizeOf' {t : TypeId} {i : TypeInfo} (h : P.info? t = some i) (w : World) : (sizeOf t).run P w = .ok i.size w := by
  simp [sizeOf, typeInfo, program, Sem.run, h, Result.andThen]

theorem sim_fieldAt {v v' : Value} (s : TypeId) (f : Nat) (hf : fieldFit P s f = true) (h : VR β v v') : Sim P B w0 β (Instr.fieldAt s v f) (Instr.fieldAt s v' f) VR := by
  obtain ⟨fields, fd, i, hu, hfd, hi, hpos⟩ := fieldFit_spec hf
  unfold Instr.fieldAt
  refine Sim.bind (A := fun _ x y => x = .struct fields ∧ y = .struct fields) ?_ fun β1 x y hle e => ?_
  · intro β1 σ w hle hR u σ' hu'
    rw [run_underlying' hu] at hu'
    simp only [Result.ok.injEq] at hu'
    obtain ⟨rfl, rfl⟩ := hu'
    exact ⟨β1, _, w, .refl _, run_underlying' hu w, hR, rfl, rfl⟩
  · obtain ⟨rfl, rfl⟩ := e
    simp only [hfd]
    refine Sim.bind (sim_sureAddr (h.mono hle)) fun β2 a a' hle2 hp => ?_
    refine Sim.bind (A := PR) ?_ fun β3 b b' hle3 hq => Sim.pure fun β4 hle4 => (hq.mono hle4).vr
    unfold fieldPlace
    refine Sim.bind (A := fun _ x y => x = i.size ∧ y = i.size) ?_ fun β3 x y hle3 e => ?_
    · intro β1 σ w hle hR u σ' hu'
      rw [run_sizeOf' hi] at hu'
      simp only [Result.ok.injEq] at hu'
      obtain ⟨rfl, rfl⟩ := hu'
      exact ⟨β1, _, w, .refl _, run_sizeOf' hi w, hR, rfl, rfl⟩
    · obtain ⟨rfl, rfl⟩ := e
      rw [if_neg (by omega), if_neg (by omega)]
      exact Sim.pure fun β4 hle4 => ((hp.mono hle3).mono hle4).add _

end
end Go.Ideal
