/-
  The operations side by side: comparisons, arithmetic, maps.
-/
import Derived.Test.YtplcocifndpplaaIg
namespace Go.Ideal
open Go
section
variable {P : Program} {B : Nat} {w0 : Base} {β : Beta}

/-- It looks at the program's tables alone, and what it tells is so. -/
def StillP {α : Type} (s : Sem α) (P : Program) (Q : α → Prop) : Prop := ∀ σ w v σ', s.run P σ = .ok v σ' → σ' = σ ∧ s.run P w = .ok v w ∧ Q v

theorem StillP.still {α : Type} {s : Sem α} {Q : α → Prop} (h : StillP s P Q) : Still s P := fun σ w v σ' e => let ⟨a, b, _⟩ := h σ w v σ' e; ⟨a, b⟩
theorem stillP_pure {α : Type} {v : α} {Q : α → Prop} (h : Q v) : StillP (Pure.pure v) P Q := fun σ w u σ' hu => by
  simp only [Sem.run_pure, Result.ok.injEq] at hu
  obtain ⟨rfl, rfl⟩ := hu
  exact ⟨rfl, by simp, h⟩
theorem stillP_bind {α γ : Type} {s : Sem α} {k : α → Sem γ} {Q : α → Prop} {Q' : γ → Prop} (h : StillP s P Q) (hk : ∀ v, Q v → StillP (k v) P Q') : StillP (s >>= k) P Q' := fun σ w u σ' hu => by
  rw [Sem.run_bind] at hu
  cases hs : s.run P σ with
  | halt x y => rw [hs] at hu; cases hu
  | ok v σ1 =>
    rw [hs] at hu
    obtain ⟨rfl, hw, hq⟩ := h σ w v σ1 hs
    obtain ⟨rfl, hw2, hq2⟩ := hk v hq σ1 w u σ' hu
    exact ⟨rfl, by rw [Sem.run_bind, hw]; exact hw2, hq2⟩
theorem stillP_halt {α : Type} (x : Halt) {Q : α → Prop} : StillP (.halt x : Sem α) P Q := fun σ w u σ' hu => by simp [Sem.run] at hu
theorem stillP_never {α : Type} {s : Sem α} (h : Never s P) {Q : α → Prop} : StillP s P Q := fun σ w u σ' hu => absurd hu (h _ _ _)
theorem Still.p {α : Type} {s : Sem α} (h : Still s P) : StillP s P (fun _ => True) := fun σ w v σ' e => let ⟨a, b⟩ := h σ w v σ' e; ⟨a, b, trivial⟩
theorem stillP_under {α : Type} {t : TypeId} {k : TypeDesc → Sem α} {Q : α → Prop} (h : ∀ d, P.underlying t = some d → StillP (k d) P Q) : StillP (underlying t >>= k) P Q := by
  refine stillP_bind (Q := fun d => P.underlying t = some d) ?_ h
  intro σ w u σ' hu
  obtain ⟨rfl, hw⟩ := still_underlying t σ w u σ' hu
  refine ⟨rfl, hw, ?_⟩
  cases hd : P.underlying t with
  | none => simp [underlying, program, Sem.run, hd, Result.andThen, Go.stuck] at hu
  | some d => rw [run_underlying' hd] at hu; simp only [Result.ok.injEq] at hu; rw [hu.1]
theorem still_under {α : Type} {t : TypeId} {k : TypeDesc → Sem α} (h : ∀ d, P.underlying t = some d → Still (k d) P) : Still (underlying t >>= k) P :=
  (stillP_under fun d hd => (h d hd).p).still

theorem groundD_agg {n : Nat} {cs : Array Value} (h : groundD (n + 1) (.agg cs) = true) (i : Nat) (v : Value) (hv : cs[i]? = some v) : groundD n v = true := by
  simp only [groundD, List.all_eq_true] at h
  exact h v (by simpa using Array.mem_of_getElem? hv)

theorem groundD_mono : ∀ (n : Nat) (v : Value), groundD n v = true → groundD (n + 1) v = true
  | n, .bool b, _ => by simp [groundD]
  | n, .int k m, _ => by simp [groundD]
  | n, .float k m, _ => by simp [groundD]
  | n, .complex k m l, _ => by simp [groundD]
  | n, .string s, _ => by simp [groundD]
  | n, .nilFunc, _ => by simp [groundD]
  | n, .nilIface, _ => by simp [groundD]
  | n, .pointer none, _ => by simp [groundD]
  | n, .slice none 0 0, _ => by simp [groundD]
  | n, .map none, _ => by simp [groundD]
  | n + 1, .agg cs, h => by
    simp only [groundD, List.all_eq_true] at h ⊢
    exact fun x hx => groundD_mono n x (h x hx)
  | n + 1, .iface t v, h => by
    simp only [groundD] at h ⊢
    exact groundD_mono n v h
  | 0, .agg _, h => by simp [groundD] at h
  | 0, .iface _ _, h => by simp [groundD] at h
  | 0, .tuple _, h => by simp [groundD] at h
  | n + 1, .tuple _, h => by simp [groundD] at h
  | 0, .pointer (some _), h => by simp [groundD] at h
  | n + 1, .pointer (some _), h => by simp [groundD] at h
  | 0, .slice (some _) _ _, h => by simp [groundD] at h
  | n + 1, .slice (some _) _ _, h => by simp [groundD] at h
  | 0, .slice none (m + 1) _, h => by simp [groundD] at h
  | n + 1, .slice none (m + 1) _, h => by simp [groundD] at h
  | 0, .slice none 0 (c + 1), h => by simp [groundD] at h
  | n + 1, .slice none 0 (c + 1), h => by simp [groundD] at h
  | 0, .map (some _), h => by simp [groundD] at h
  | n + 1, .map (some _), h => by simp [groundD] at h
  | 0, .chan _, h => by simp [groundD] at h
  | n + 1, .chan _, h => by simp [groundD] at h
  | 0, .func _ _ _, h => by simp [groundD] at h
  | n + 1, .func _ _ _, h => by simp [groundD] at h

theorem stillP_part {n : Nat} {cs : Array Value} (h : groundD (n + 1) (.agg cs) = true) (t : TypeId) (off : Nat) : StillP (part t cs off) P (fun v => groundD (n + 1) v = true) := by
  unfold part
  refine stillP_bind (still_isAgg t).p fun x _ => ?_
  cases x with
  | true =>
    simp only [if_true]
    refine stillP_bind (still_sizeOf t).p fun m _ => stillP_pure ?_
    simp only [groundD, List.all_eq_true] at h ⊢
    intro v hv
    obtain ⟨i, hi, rfl⟩ := List.getElem_of_mem hv
    simp only [Array.length_toList] at hi
    refine h _ ?_
    simp only [Array.getElem_toList, Array.getElem_extract]
    simp
  | false =>
    simp only [Bool.false_eq_true, if_false]
    cases hc : cs[off]? with
    | none => exact stillP_halt _
    | some v => exact stillP_pure (groundD_mono n v (groundD_agg h off v hc))

theorem still_forIn {α γ : Type} {f : α → γ → Sem (ForInStep γ)} (hf : ∀ a b, Still (f a b) P) (l : Array α) (b : γ) : Still (forIn l b f) P := by
  rw [← Array.forIn_toList]
  induction l.toList generalizing b with
  | nil => exact still_pure _
  | cons a l ih =>
    rw [List.forIn_cons]
    refine still_bind (hf a b) fun x => ?_
    cases x with
    | done b => exact still_pure _
    | yield b => exact ih b

theorem eqTy_struct {n : Nat} {t : TypeId} {fs : Array Field} (h : eqTy P (n + 1) t = true) (hu : P.underlying t = some (.struct fs)) : ∀ f ∈ fs, eqTy P n f.type = true := by
  unfold eqTy at h
  rw [hu] at h
  simp only [Array.all_eq_true] at h
  intro f hf
  obtain ⟨i, hi, rfl⟩ := Array.getElem_of_mem hf
  exact h i hi

theorem still_forIn_mem {α γ : Type} {f : α → γ → Sem (ForInStep γ)} (l : Array α) (hf : ∀ a ∈ l, ∀ b, Still (f a b) P) (b : γ) : Still (forIn l b f) P := by
  rw [← Array.forIn_toList]
  have key : ∀ (L : List α), (∀ a ∈ L, ∀ b, Still (f a b) P) → ∀ b, Still (forIn L b f) P := by
    intro L
    induction L with
    | nil => exact fun _ b => still_pure _
    | cons a L ih =>
      intro h b
      rw [List.forIn_cons]
      refine still_bind (h a (by simp) b) fun x => ?_
      cases x with
      | done b => exact still_pure _
      | yield b => exact ih (fun a ha => h a (by simp [ha])) b
  exact key _ (fun a ha => hf a (by simpa using ha)) b

theorem still_equalIn : ∀ (d m : Nat) (t : TypeId) (x y : Value) (n : Nat), eqTy P m t = true → groundD (n + 1) x = true → groundD (n + 1) y = true → Still (Op.equalIn d t x y) P := by
  intro d
  induction d with
  | zero => intro m t x y n _ _ _; exact still_halt _
  | succ d ih =>
    intro m t x y n hm hx hy
    unfold Op.equalIn
    cases m with
    | zero => simp [eqTy] at hm
    | succ m =>
    refine still_under fun td htd => ?_
    have hm0 := hm
    unfold eqTy at hm
    rw [htd] at hm
    cases td with
    | struct fs =>
      cases x with
      | agg xs =>
        cases y with
        | agg ys =>
          dsimp only
          refine still_bind still_program fun p => ?_
          split
          · exact (stillP_never (never_left (never_halt _)) (Q := fun _ => True)).still
          · refine still_bind (still_forIn_mem _ (fun f hf b => ?_) _) fun r => ?_
            · split
              · refine (stillP_bind (stillP_part hx _ _) fun u hu => stillP_bind (stillP_part hy _ _) fun v hv => ?_).still (Q := fun _ => True)
                refine (still_bind (ih m f.type u v n (eqTy_struct hm0 htd f hf) hu hv) fun e => ?_).p
                split <;> exact still_pure _
              · exact still_pure _
            · split <;> exact still_pure _
        | _ => exact still_halt _
      | _ => exact still_halt _
    | bool => cases x <;> first | exact still_halt _ | (cases y <;> first | exact still_halt _ | exact still_pure _)
    | string => cases x <;> first | exact still_halt _ | (cases y <;> first | exact still_halt _ | exact still_pure _)
    | int k =>
      cases x with
      | int k1 a =>
        cases y with
        | int k2 b =>
          dsimp only
          split
          · exact still_pure _
          · exact still_halt _
        | pointer p =>
          cases p with
          | some _ => simp [groundD] at hy
          | none => exact still_halt _
        | _ => exact still_halt _
      | pointer p =>
        cases p with
        | some _ => simp [groundD] at hx
        | none =>
          cases y with
          | pointer q =>
            cases q with
            | some _ => simp [groundD] at hy
            | none => exact still_halt _
          | _ => exact still_halt _
      | _ => cases y <;> exact still_halt _
    | pointer e =>
      cases x with
      | pointer p =>
        cases p with
        | some _ => simp [groundD] at hx
        | none => cases y <;> first | exact still_halt _ | exact still_pure _
      | _ => exact still_halt _
    | slice e =>
      cases x with
      | slice p l c =>
        cases p with
        | some _ => simp [groundD] at hx
        | none => cases y <;> first | exact still_halt _ | exact still_pure _
      | _ => exact still_halt _
    | map k e =>
      cases x with
      | map p =>
        cases p with
        | some _ => simp [groundD] at hx
        | none => cases y <;> first | exact still_halt _ | exact still_pure _
      | _ => exact still_halt _
    | func a b c => cases x <;> first | exact still_halt _ | (cases y <;> first | exact still_halt _ | exact still_pure _)
    | _ => simp at hm
end
end Go.Ideal
