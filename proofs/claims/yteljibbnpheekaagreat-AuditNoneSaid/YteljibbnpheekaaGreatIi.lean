/-
  The operations side by side: binary and unary operations, conversions.
-/
import Derived.Test.YteljibbnpheekaaGreatIa
namespace Go.Ideal
open Go
section
variable {P : Program} {B : Nat} {w0 : Base} {β : Beta}
theorem still_part (t : TypeId) (cs : Array Value) (off : Nat) : Still (part t cs off) P := by
  unfold part
  refine still_bind (still_isAgg t) fun x => ?_
  split
  · exact still_bind (still_sizeOf t) fun _ => still_pure _
  · split
    · exact still_pure _
    · exact still_halt _
theorem still_eqGuardIn : ∀ (d m : Nat) (t : TypeId) (x y : Value), eqTy P m t = true → Still (Op.eqGuardIn d t x y) P := by
  intro d
  induction d with
  | zero => intro m t x y _; exact still_halt _
  | succ d ih =>
    intro m t x y hm
    unfold Op.eqGuardIn
    cases m with
    | zero => simp [eqTy] at hm
    | succ m =>
    refine still_under fun td htd => ?_
    have hm0 := hm
    unfold eqTy at hm
    rw [htd] at hm
    cases td with
    | struct fs =>
      cases x with
      | agg xs =>
        cases y with
        | agg ys =>
          dsimp only
          refine still_bind (still_forIn_mem _ (fun f hf b => ?_) _) fun r => ?_
          · split
            · refine still_bind (still_part _ _ _) fun u => still_bind (still_part _ _ _) fun v => still_bind (ih m f.type u v (eqTy_struct hm0 htd f hf)) fun e => ?_
              split <;> exact still_pure _
            · exact still_pure _
          · split <;> exact still_pure _
        | _ => exact still_pure _
      | _ => exact still_pure _
    | interface _ => simp at hm
    | array _ _ => simp at hm
    | _ => exact still_pure _
theorem still_eqGuard (op : BinOp) (t : TypeId) (x y : Operand) (a b : Value) (h : eqTy P 5 t = true ∨ (∀ c, a ≠ .agg c) ∧ a ≠ .nilIface) : Still (eqGuard op t x y a b) P := by
  have core : Still (do
      match a, b with
      | .nilIface, .nilIface =>
        if (x matches .const _) || (y matches .const _) then return
        if ← Op.eqGuardIn Op.maxDepth t a b then Go.unsupported (.noEntry "binop/eql: two nil values of an interface type with methods, neither of them the literal nil")
      | .agg _, .agg _ =>
        if !(← program).eqGuardType (← program).depth t then return
        if ← Op.eqGuardIn Op.maxDepth t a b then Go.unsupported (.noEntry "binop/eql: two nil values of an interface type with methods, in a part of a struct or an array")
      | _, _ => pure ()) P := by
    split
    · rcases h with h | h
      · have g : Still (do if ← Op.eqGuardIn Op.maxDepth t Value.nilIface Value.nilIface then Go.unsupported (.noEntry "binop/eql: two nil values of an interface type with methods, neither of them the literal nil")) P := by
          refine still_bind (still_eqGuardIn _ _ _ _ _ h) fun e => ?_
          split
          · exact still_halt _
          · exact still_pure _
        repeat' split
        all_goals first | exact still_pure _ | exact g
      · exact absurd rfl h.2
    · rcases h with h | h
      · refine still_bind still_program fun p => still_bind still_program fun q => ?_
        split
        · exact still_pure _
        · refine still_bind (still_eqGuardIn _ _ _ _ _ h) fun e => ?_
          split
          · exact still_halt _
          · exact still_pure _
      · exact absurd rfl (h.1 _)
    · exact still_pure _
  unfold eqGuard
  cases op <;> first | exact still_pure _ | exact core
theorem eqGuard_none (op : BinOp) (t : TypeId) (x y : Operand) (a b : Value) (ha : ∀ c, a ≠ .agg c) (hn : a ≠ .nilIface) : eqGuard op t x y a b = Pure.pure () := by
  unfold eqGuard
  cases op <;> first
    | rfl
    | (dsimp only [Bool.not_true]; rw [if_neg (by simp)]; split
       · exact absurd rfl hn
       · exact absurd rfl (ha _)
       · rfl)
theorem still_binInt (op : BinOp) (t : TypeId) (j k : IntKind) (a b : Int) : Still (binOp op t (.int j a) (.int k b)) P := by
  have hd : ∀ (op : BinOp) (k : IntKind) (x y : Int), Still (Op.intDiv op k x y) P := by
    intro op k x y
    unfold Op.intDiv
    split
    · exact (stillP_never (never_runtimePanic _) (Q := fun _ => True)).still
    · cases op <;> first | exact still_pure _ | exact still_halt _
  have hs : ∀ (op : BinOp) (k : IntKind) (x : Int) (l : IntKind) (y : Int), Still (Op.shift op k x l y) P := by
    intro op k x l y
    unfold Op.shift
    split
    · exact (stillP_never (never_runtimePanic _) (Q := fun _ => True)).still
    · cases op <;> first | exact still_pure _ | exact still_halt _
  have hb : ∀ (op : BinOp) (k : IntKind) (x y : Int), Still (Op.intBits op k x y) P := by
    intro op k x y
    unfold Op.intBits
    cases op <;> first | exact still_pure _ | exact still_halt _
  have hc : ∀ (op : BinOp) (x y : Int), Still (Op.intCmp op x y) P := by
    intro op x y
    unfold Op.intCmp
    cases op <;> first | exact still_pure _ | exact still_halt _
  have ha : ∀ (op : BinOp) (k : IntKind) (x y : Int), Still (Op.intArith op k x y) P := by
    intro op k x y
    unfold Op.intArith
    cases op <;> first | exact still_pure _ | exact still_halt _
  unfold binOp
  cases op <;> first
    | exact hs _ _ _ _ _
    | (dsimp only; split
       · exact still_halt _
       · first | exact ha _ _ _ _ | exact hd _ _ _ _ | exact hb _ _ _ _ | exact hc _ _ _)
theorem still_binString (op : BinOp) (t : TypeId) (a b : ByteArray) : Still (binOp op t (.string a) (.string b)) P := by
  unfold binOp
  cases op <;> (dsimp only; unfold Op.stringOp; dsimp only; first | exact still_pure _ | exact still_halt _ | (split <;> first | exact still_pure _ | exact still_halt _))
theorem Sim.same {α : Type} {s : Sem α} (h : Still s P) {A : Beta → α → α → Prop} (hA : ∀ b v, A b v v) : Sim P B w0 β s s A := Sim.of_still h hA
end
end Go.Ideal
namespace Go.Ideal
open Go
def ERL (β : Beta) : List MapEntry → List MapEntry → Prop
  | [], [] => True
  | a :: l, b :: m => ER β a b ∧ ERL β l m
  | _, _ => False
theorem ERL.of_index {β : Beta} : ∀ {l m : List MapEntry}, l.length = m.length → (∀ (i : Nat) (v v' : MapEntry), l[i]? = some v → m[i]? = some v' → ER β v v') → ERL β l m
  | [], [], _, _ => trivial
  | [], _ :: _, h, _ => by simp at h
  | _ :: _, [], h, _ => by simp at h
  | a :: l, b :: m, h, hi => ⟨hi 0 a b rfl rfl, ERL.of_index (by simpa using h) fun i v v' e e' => hi (i + 1) v v' (by simpa using e) (by simpa using e')⟩
theorem ERL.mono {β β' : Beta} (h : β.le β') : ∀ {l m : List MapEntry}, ERL β l m → ERL β' l m
  | [], [], _ => trivial
  | _ :: _, _ :: _, hl => ⟨hl.1.mono h, ERL.mono h hl.2⟩
  | [], _ :: _, hl => hl.elim
  | _ :: _, [], hl => hl.elim
def EAR (β : Beta) (es es' : Array MapEntry) : Prop := es.size = es'.size ∧ ∀ (i : Nat) (x x' : MapEntry), es[i]? = some x → es'[i]? = some x' → ER β x x'
theorem EAR.mono {β β' : Beta} (h : β.le β') {es es' : Array MapEntry} (he : EAR β es es') : EAR β' es es' := ⟨he.1, fun i x x' e e' => (he.2 i x x' e e').mono h⟩
theorem EAR.list {β : Beta} {es es' : Array MapEntry} (h : EAR β es es') : ERL β es.toList es'.toList :=
  ERL.of_index (by simpa using h.1) fun i v v' e e' => h.2 i v v' (by simpa using e) (by simpa using e')
theorem EAR.get {β : Beta} {es es' : Array MapEntry} (h : EAR β es es') {i : Nat} {x : MapEntry} (hx : es[i]? = some x) : ∃ x', es'[i]? = some x' ∧ ER β x x' := by
  have hi : i < es.size := (Array.getElem?_eq_some_iff.1 hx).1
  have hi' : i < es'.size := h.1 ▸ hi
  exact ⟨es'[i], by simp [hi'], h.2 i x _ hx (by simp [hi'])⟩
theorem EAR.push {β : Beta} {c c' : Array MapEntry} (h : EAR β c c') {v v' : MapEntry} (hv : ER β v v') : EAR β (c.push v) (c'.push v') := by
  refine ⟨by simp [h.1], fun i x x' e e' => ?_⟩
  rw [Array.getElem?_push] at e e'
  rw [h.1] at e
  by_cases hi : i = c'.size
  · rw [if_pos hi] at e e'
    simp only [Option.some.injEq] at e e'
    subst e; subst e'; exact hv
  · rw [if_neg hi] at e e'
    exact h.2 i x x' e e'
theorem EAR.modify {β : Beta} {c c' : Array MapEntry} (h : EAR β c c') (i : Nat) {f f' : MapEntry → MapEntry} (hf : ∀ x x', ER β x x' → ER β (f x) (f' x')) : EAR β (c.modify i f) (c'.modify i f') := by
  refine ⟨by simp [h.1], fun k x x' e e' => ?_⟩
  rw [Array.getElem?_modify] at e e'
  by_cases hk : i = k
  · rw [if_pos hk] at e e'
    cases hc : c[k]? with
    | none => rw [hc] at e; cases e
    | some y =>
      cases hc' : c'[k]? with
      | none => rw [hc'] at e'; cases e'
      | some y' =>
        rw [hc] at e; rw [hc'] at e'
        simp only [Option.map_some, Option.some.injEq] at e e'
        subst e; subst e'
        exact hf _ _ (h.2 k y y' hc hc')
  · rw [if_neg hk] at e e'
    exact h.2 k x x' e e'
theorem EAR.erase {β : Beta} {c c' : Array MapEntry} (h : EAR β c c') (i : Nat) : EAR β (c.eraseIdxIfInBounds i) (c'.eraseIdxIfInBounds i) := by
  unfold Array.eraseIdxIfInBounds
  by_cases hi : i < c.size
  · have hi' : i < c'.size := h.1 ▸ hi
    rw [dif_pos hi, dif_pos hi']
    refine ⟨by simp [h.1], fun k x x' e e' => ?_⟩
    rw [Array.getElem?_eraseIdx] at e e'
    split at e
    · rename_i hk
      rw [if_pos hk] at e'
      exact h.2 _ x x' e e'
    · rename_i hk
      rw [if_neg hk] at e'
      exact h.2 _ x x' e e'
  · have hi' : ¬ i < c'.size := by rw [← h.1]; exact hi
    rw [dif_neg hi, dif_neg hi']
    exact h
def FR (β : Beta) : Option (Nat × Value) → Option (Nat × Value) → Prop
  | none, none => True
  | some (i, v), some (j, v') => i = j ∧ VR β v v'
  | _, _ => False
theorem keyFit_int {v : Value} (h : keyFit v = true) : ∃ k n, v = .int k n := by
  cases v <;> simp [keyFit] at h
  exact ⟨_, _, rfl⟩
theorem findNow_rel {β : Beta} (kd : TypeDesc) {k : Value} : ∀ {l m : List MapEntry}, ERL β l m → ∀ i,
    (Instr.findNow kd k l i = none ∧ Instr.findNow kd k m i = none) ∨ ∃ r r', Instr.findNow kd k l i = some r ∧ Instr.findNow kd k m i = some r' ∧ FR β r r'
  | [], [], _, i => .inr ⟨none, none, rfl, rfl, trivial⟩
  | a :: l, b :: m, h, i => by
    unfold Instr.findNow
    rw [← h.1.key.1]
    cases hs : Instr.sameNow kd k a.key with
    | none => exact .inl ⟨rfl, rfl⟩
    | some t =>
      cases t with
      | true => exact .inr ⟨_, _, rfl, rfl, rfl, h.1.val⟩
      | false => exact findNow_rel kd h.2 (i + 1)
  | [], _ :: _, h, _ => h.elim
  | _ :: _, [], h, _ => h.elim
theorem findNow_key (kd : TypeDesc) {k : Value} (hk : keyFit k = true) : ∀ (l : List MapEntry) (i j : Nat) (v : Value), Instr.findNow kd k l i = some (some (j, v)) →
    ∃ e, i ≤ j ∧ l[j - i]? = some e ∧ e.key = k ∧ e.val = v
  | [], i, j, v, h => by simp [Instr.findNow] at h
  | e :: l, i, j, v, h => by
    unfold Instr.findNow at h
    cases hs : Instr.sameNow kd k e.key with
    | none => rw [hs] at h; cases h
    | some t =>
      rw [hs] at h
      cases t with
      | true =>
        simp only [Option.some.injEq, Prod.mk.injEq] at h
        obtain ⟨rfl, rfl⟩ := h
        refine ⟨e, Nat.le_refl _, by simp, ?_, rfl⟩
        obtain ⟨kk, n, rfl⟩ := keyFit_int hk
        unfold Instr.sameNow at hs
        split at hs <;> simp_all
      | false =>
        obtain ⟨e', h1, h2, h3, h4⟩ := findNow_key kd hk l (i + 1) j v h
        refine ⟨e', by omega, ?_, h3, h4⟩
        rw [show j - i = (j - (i + 1)) + 1 from by omega]
        simpa using h2
section
variable {P : Program} {B : Nat} {w0 : Base} {β : Beta}
theorem isInt_spec {t : TypeId} (h : isInt P t = true) : ∃ k, P.underlying t = some (.int k) := by
  unfold isInt at h
  split at h
  · exact ⟨_, ‹_›⟩
  · cases h
theorem eqTy_int {t : TypeId} (h : isInt P t = true) : eqTy P 5 t = true := by
  obtain ⟨k, hk⟩ := isInt_spec h
  unfold eqTy
  rw [hk]
theorem still_equalKey {t : TypeId} (h : isInt P t = true) {x y : Value} (hx : keyFit x = true) (hy : keyFit y = true) : Still (Op.equal t x y) P := by
  obtain ⟨k, n, rfl⟩ := keyFit_int hx
  obtain ⟨j, m, rfl⟩ := keyFit_int hy
  exact still_equalIn _ 5 t _ _ 3 (eqTy_int h) rfl rfl
theorem equalKey_eq {t : TypeId} (h : isInt P t = true) {x y : Value} (hx : keyFit x = true) (hy : keyFit y = true) {σ σ' : World} (hr : (Op.equal t x y).run P σ = .ok true σ') : x = y := by
  obtain ⟨k, n, rfl⟩ := keyFit_int hx
  obtain ⟨j, m, rfl⟩ := keyFit_int hy
  obtain ⟨kk, hkk⟩ := isInt_spec h
  unfold Op.equal Op.maxDepth Op.equalIn at hr
  rw [Sem.run_bind, run_underlying' hkk] at hr
  simp only [Result.andThen] at hr
  split at hr
  · rename_i e
    subst e
    simp only [Sem.run_pure, Result.ok.injEq] at hr
    rw [Value.int.injEq]
    exact ⟨rfl, by simpa using hr.1⟩
  · simp [Go.stuck] at hr
theorem sim_findAsking {t : TypeId} (h : isInt P t = true) {k : Value} (hk : keyFit k = true) : ∀ {l m : List MapEntry}, ERL β l m → ∀ i,
    Sim P B w0 β (Instr.findAsking t k l i) (Instr.findAsking t k m i) FR := by
  intro l
  induction l generalizing β with
  | nil =>
    intro m hl i
    cases m with
    | nil => exact Sim.pure fun _ _ => trivial
    | cons b m => exact hl.elim
  | cons a l ih =>
    intro m hl i
    cases m with
    | nil => exact hl.elim
    | cons b m =>
      unfold Instr.findAsking
      rw [← hl.1.key.1]
      refine Sim.bind (Sim.of_still (still_equalKey h hk hl.1.key.2) (D := fun _ x y => x = y) (fun _ _ => rfl)) fun β1 x y hle e => ?_
      subst e
      cases x with
      | true => exact Sim.pure fun β2 hle2 => ⟨rfl, (hl.1.val.mono hle).mono hle2⟩
      | false => exact ih (hl.2.mono hle) (i + 1)
theorem findAsking_key {t : TypeId} (h : isInt P t = true) {k : Value} (hk : keyFit k = true) : ∀ (l : List MapEntry), (∀ e ∈ l, keyFit e.key = true) → ∀ (i j : Nat) (v : Value) (σ σ' : World),
    (Instr.findAsking t k l i).run P σ = .ok (some (j, v)) σ' → ∃ e, i ≤ j ∧ l[j - i]? = some e ∧ e.key = k ∧ e.val = v := by
  intro l
  induction l with
  | nil => intro _ i j v σ σ' hr; simp [Instr.findAsking, Sem.run_pure] at hr
  | cons a l ih =>
    intro hl i j v σ σ' hr
    unfold Instr.findAsking at hr
    rw [Sem.run_bind] at hr
    cases he : (Op.equal t k a.key).run P σ with
    | halt x y => rw [he] at hr; cases hr
    | ok b σ1 =>
      rw [he] at hr
      simp only [Result.andThen] at hr
      cases b with
      | true =>
        simp only [if_true, Sem.run_pure, Result.ok.injEq, Option.some.injEq, Prod.mk.injEq] at hr
        obtain ⟨⟨rfl, rfl⟩, _⟩ := hr
        exact ⟨a, Nat.le_refl _, by simp, (equalKey_eq h hk (hl a (by simp)) he).symm, rfl⟩
      | false =>
        obtain ⟨e', h1, h2, h3, h4⟩ := ih (fun e he => hl e (by simp [he])) (i + 1) j v _ _ hr
        refine ⟨e', by omega, ?_, h3, h4⟩
        rw [show j - i = (j - (i + 1)) + 1 from by omega]
        simpa using h2
theorem sim_findKey {t : TypeId} (h : isInt P t = true) {k : Value} (hk : keyFit k = true) {es es' : Array MapEntry} (he : EAR β es es') :
    Sim P B w0 β (Instr.findKey t k es.toList) (Instr.findKey t k es'.toList) (fun β r r' => FR β r r' ∧ ∀ j v, r = some (j, v) → ∃ e e', es[j]? = some e ∧ es'[j]? = some e' ∧ e.key = k ∧ e'.key = k) := by
  have hfit : ∀ e ∈ es.toList, keyFit e.key = true := by
    intro e hm
    obtain ⟨i, hi, rfl⟩ := List.getElem_of_mem hm
    obtain ⟨x', _, hx⟩ := he.get (i := i) (x := es.toList[i]) (by simp)
    exact hx.key.2
  have idx : ∀ {j : Nat} {e : MapEntry}, es.toList[j]? = some e → e.key = k → ∃ e1 e2, es[j]? = some e1 ∧ es'[j]? = some e2 ∧ e1.key = k ∧ e2.key = k := by
    intro j e h1 h2
    have h1' : es[j]? = some e := by simpa using h1
    obtain ⟨x', hx', hx⟩ := he.get h1'
    exact ⟨e, x', h1', hx', h2, hx.key.1 ▸ h2⟩
  unfold Instr.findKey
  refine Sim.under fun d hd => ?_
  rcases findNow_rel (k := k) d he.list 0 with ⟨h1, h2⟩ | ⟨r, r', h1, h2, h3⟩
  · rw [h1, h2]
    intro β1 σ w hle hR u σ' hu
    obtain ⟨β2, v', w', g1, g2, g3, g4⟩ := sim_findAsking h hk he.list 0 β1 σ w hle hR u σ' hu
    refine ⟨β2, v', w', g1, g2, g3, g4, ?_⟩
    rintro j v rfl
    obtain ⟨e, _, q1, q2, _⟩ := findAsking_key h hk _ hfit 0 j v σ σ' hu
    exact idx (by simpa using q1) q2
  · rw [h1, h2]
    refine Sim.pure fun β1 hle => ⟨?_, ?_⟩
    · cases r with
      | none => cases r' <;> exact h3
      | some p => cases r' with
        | none => exact h3
        | some p' => exact ⟨h3.1, h3.2.mono hle⟩
    · rintro j v rfl
      obtain ⟨e, _, q1, q2, _⟩ := findNow_key d hk _ 0 j v h1
      exact idx (by simpa using q1) q2
theorem still_checkKey {t : TypeId} (h : isInt P t = true) (b : Bool) (n : Nat) (v : Value) (hv : keyFit v = true) : Still (Instr.checkKey b n t v) P := by
  cases n with
  | zero => exact still_halt _
  | succ n =>
    obtain ⟨k, hk⟩ := isInt_spec h
    obtain ⟨j, m, rfl⟩ := keyFit_int hv
    unfold Instr.checkKey
    refine still_under fun d hd => ?_
    rw [hk] at hd
    simp only [Option.some.injEq] at hd
    subst hd
    exact still_pure _
theorem keyTy_spec {t : TypeId} (h : keyTy P t = true) : ∃ k e, P.underlying t = some (.map k e) ∧ isInt P k = true := by
  unfold keyTy at h
  split at h
  · exact ⟨_, _, ‹_›, h⟩
  · cases h
theorem sim_getMap {b : Nat} {bi : BI} (hb : β b = some bi) {α α' : Type} {k : Array MapEntry → Nat → Sem α} {k' : Array MapEntry → Nat → Sem α'} {s : String} {A : Beta → α → α' → Prop}
    (h : ∀ β1 es es' c, β.le β1 → EAR β1 es es' → Sim P B w0 β1 (k es c) (k' es' c) A) :
    Sim P B w0 β (do match ← getObj b with | .map es c => k es c | _ => Go.stuck s) (do match ← getObj bi.r with | .map es c => k' es c | _ => Go.stuck s) A := by
  refine Sim.bind (sim_getObj hb) fun β1 o o' hle ho => ?_
  obtain ⟨ho, _⟩ := ho
  cases ho with
  | map hs he => exact h β1 _ _ _ hle ⟨hs, he⟩
  | _ => exact Sim.stuck
theorem sim_setObj {b : Nat} {bi : BI} (hb : β b = some bi) {o o' : Obj} (ho : OR β bi o o') (hw : wr o = true) (hc : ∀ c e fz, o ≠ .cells c e fz) :
    Sim P B w0 β (setObj b o) (setObj bi.r o') (fun _ _ _ => True) := by
  intro β1 σ w hle hR u σ' hu
  have hb1 := hle _ _ hb
  simp only [setObj, Sem.run] at hu ⊢
  cases hσ : σ.heap[b]? with
  | none => simp [hσ] at hu
  | some o1 =>
    rw [hσ] at hu
    have hlive : wr o1 = true ∧ σ' = Ideal.putObj σ b o := by
      cases o1 <;> simp at hu <;> exact ⟨rfl, hu.symm⟩
    obtain ⟨hw1, rfl⟩ := hlive
    obtain ⟨o2, ho2, hor2⟩ := hR.obj _ _ _ hσ hb1 (live_of_wr hw1)
    refine ⟨β1, (), Ideal.putObj w bi.r o', .refl _, ?_, hR.putObj hb1 hσ hw1 (ho.mono hle) hw (fun c e fz h => absurd h (hc c e fz)), trivial⟩
    rw [ho2]
    cases hor2 with
    | cells => simp at hu
    | _ => rfl
theorem sim_keyThatStays (k : Value) (hk : keyFit k = true) : Sim P B w0 β (Instr.keyThatStays k k) (Instr.keyThatStays k k) (fun _ x y => x = k ∧ y = k) := by
  obtain ⟨a, b, rfl⟩ := keyFit_int hk
  unfold Instr.keyThatStays
  rw [if_pos (by simp [Instr.sameBits])]
  exact Sim.pure fun _ _ => ⟨rfl, rfl⟩
theorem sim_mapUpdate {t : TypeId} (hkt : keyTy P t = true) {m m' k k' v v' : Value} (hm : VR β m m') (hk : VR β k k') (hkf : keyFit k = true) (hv : VR β v v') :
    Sim P B w0 β (Instr.mapUpdate t m k v) (Instr.mapUpdate t m' k' v') (fun _ _ _ => True) := by
  obtain ⟨kt, et, hu, hki⟩ := keyTy_spec hkt
  have hkk : k = k' := by
    obtain ⟨a, b, rfl⟩ := keyFit_int hkf
    cases hk; rfl
  subst hkk
  unfold Instr.mapUpdate
  refine Sim.under fun d hd => ?_
  rw [hu] at hd
  simp only [Option.some.injEq] at hd
  subst hd
  dsimp only
  cases hm with
  | nilMap => exact Sim.never (never_runtimePanic _)
  | map hb =>
    dsimp only
    refine sim_getMap hb fun β1 es es' c hle he => ?_
    refine Sim.bind (Sim.of_still (still_checkKey hki _ _ _ hkf) (D := fun _ x y => x = y) (fun _ _ => rfl)) fun β2 _ _ hle2 _ => ?_
    refine Sim.bind (sim_findKey hki hkf (he.mono hle2)) fun β3 r r' hle3 hr => ?_
    obtain ⟨hr, hkeys⟩ := hr
    have hle03 := (hle.trans hle2).trans hle3
    cases r with
    | none =>
      cases r' with
      | some _ => exact hr.elim
      | none =>
        refine sim_setObj (hle03 _ _ hb) ?_ rfl (fun _ _ _ h => by cases h)
        have := ((he.mono hle2).mono hle3).push (v := { key := k, val := v, born := c }) (v' := { key := k, val := v', born := c }) ⟨⟨rfl, hkf⟩, hv.mono hle03, rfl⟩
        exact .map this.1 this.2
    | some p =>
      cases r' with
      | none => exact hr.elim
      | some p' =>
        obtain ⟨i, x⟩ := p
        obtain ⟨j, x'⟩ := p'
        obtain ⟨rfl, hx⟩ := hr
        obtain ⟨e, e', g1, g2, g3, g4⟩ := hkeys i x rfl
        dsimp only
        rw [g1, g2]
        simp only [Option.map_some, Option.getD_some]
        rw [g3, g4]
        refine Sim.bind (sim_keyThatStays k hkf) fun β4 y y' hle4 hy => ?_
        rw [hy.1, hy.2]
        refine sim_setObj ((hle03.trans hle4) _ _ hb) ?_ rfl (fun _ _ _ h => by cases h)
        have := (((he.mono hle2).mono hle3).mono hle4).modify i (f := fun e => { e with key := k, val := v }) (f' := fun e => { e with key := k, val := v' })
          (fun x x' hx => ⟨⟨rfl, hkf⟩, (hv.mono hle03).mono hle4, hx.born⟩)
        exact .map this.1 this.2
  | _ => exact Sim.stuck
theorem sim_mapEntry {t : TypeId} (hz : elemOk P t = true) (hkt : keyTy P t = true) {m m' k k' : Value} (hm : VR β m m') (hk : VR β k k') (hkf : keyFit k = true) :
    Sim P B w0 β (Instr.mapEntry t m k) (Instr.mapEntry t m' k') VR := by
  obtain ⟨kt, et, hu, hki⟩ := keyTy_spec hkt
  have hkk : k = k' := by
    obtain ⟨a, b, rfl⟩ := keyFit_int hkf
    cases hk; rfl
  subst hkk
  unfold Instr.mapEntry
  refine Sim.under fun d hd => ?_
  rw [hu] at hd
  simp only [Option.some.injEq] at hd
  subst hd
  dsimp only
  have fin : ∀ {β3 : Beta} {v v' : Value} (b : Int), VR β3 v v' → VR β3 (.tuple #[v, goInt b]) (.tuple #[v', goInt b]) := by
    intro β3 v v' b hv
    have := ((AR.empty β3).push hv).push (VR.int .i64 b)
    exact .tuple this.1 this.2
  cases hm with
  | nilMap => exact Sim.never (never_runtimePanic _)
  | map hb =>
    dsimp only
    refine sim_getMap hb fun β1 es es' c hle he => ?_
    refine Sim.bind (Sim.of_still (still_checkKey hki _ _ _ hkf) (D := fun _ x y => x = y) (fun _ _ => rfl)) fun β2 _ _ hle2 _ => ?_
    refine Sim.bind (sim_findKey hki hkf (he.mono hle2)) fun β3 r r' hle3 hr => ?_
    obtain ⟨hr, hkeys⟩ := hr
    have hle03 := (hle.trans hle2).trans hle3
    cases r with
    | none =>
      cases r' with
      | some _ => exact hr.elim
      | none =>
        refine Sim.bind (sim_zeroValue (elemOk_map hz hu)) fun β4 z z' hle4 hzz => ?_
        have := (((he.mono hle2).mono hle3).mono hle4).push (v := { key := k, val := z, born := c }) (v' := { key := k, val := z', born := c }) ⟨⟨rfl, hkf⟩, hzz, rfl⟩
        refine Sim.bind (sim_setObj ((hle03.trans hle4) _ _ hb) (.map this.1 this.2) rfl (fun _ _ _ h => by cases h)) fun β5 _ _ hle5 _ => ?_
        exact Sim.pure fun β6 hle6 => fin _ ((hzz.mono hle5).mono hle6)
    | some p =>
      cases r' with
      | none => exact hr.elim
      | some p' =>
        obtain ⟨i, x⟩ := p
        obtain ⟨j, x'⟩ := p'
        obtain ⟨rfl, hx⟩ := hr
        obtain ⟨e, e', g1, g2, g3, g4⟩ := hkeys i x rfl
        have hborn : e.born = e'.born := (((he.mono hle2).mono hle3).2 i e e' g1 g2).born
        dsimp only
        rw [g1, g2]
        simp only [Option.map_some, Option.getD_some]
        rw [g3, g4, hborn]
        refine Sim.bind (sim_keyThatStays k hkf) fun β4 y y' hle4 hy => ?_
        rw [hy.1, hy.2]
        have := (((he.mono hle2).mono hle3).mono hle4).modify i (f := fun e => { e with key := k }) (f' := fun e => { e with key := k })
          (fun x x' hx => ⟨⟨rfl, hkf⟩, hx.val, hx.born⟩)
        refine Sim.bind (sim_setObj ((hle03.trans hle4) _ _ hb) (.map this.1 this.2) rfl (fun _ _ _ h => by cases h)) fun β5 _ _ hle5 _ => ?_
        exact Sim.pure fun β6 hle6 => fin _ (((hx.mono hle4).mono hle5).mono hle6)
  | _ => exact Sim.stuck
theorem EAR.findBorn {β : Beta} {es es' : Array MapEntry} (h : EAR β es es') (b : Int) : es.findIdx? (fun e => (e.born : Int) == b) = es'.findIdx? (fun e => (e.born : Int) == b) := by
  have hm : es.map (fun e => (e.born : Int)) = es'.map (fun e => (e.born : Int)) := by
    apply Array.ext (by simp [h.1])
    intro i h1 h2
    simp only [Array.size_map] at h1 h2
    simp only [Array.getElem_map]
    rw [(h.2 i _ _ (Array.getElem?_eq_getElem h1) (Array.getElem?_eq_getElem h2)).born]
  have hf : ∀ (l : Array MapEntry), l.findIdx? (fun e => (e.born : Int) == b) = (l.map (fun e => (e.born : Int))).findIdx? (fun n => n == b) := by
    intro l
    obtain ⟨l⟩ := l
    simp [List.findIdx?_map, Function.comp_def]
  rw [hf, hf, hm]
theorem sim_entryStore {t : TypeId} {m m' s s' v v' : Value} (hm : VR β m m') (hs : VR β s s') (hv : VR β v v') :
    Sim P B w0 β (Instr.entryStore t m s v) (Instr.entryStore t m' s' v') (fun _ _ _ => True) := by
  unfold Instr.entryStore
  cases hm with
  | nilMap => exact Sim.stuck
  | map hb =>
    dsimp only
    refine sim_getMap hb fun β1 es es' c hle he => ?_
    refine Sim.bind (sim_asInt (hs.mono hle)) fun β2 n n' hle2 e => ?_
    subst e
    rw [(he.mono hle2).findBorn n]
    cases es'.findIdx? (fun e => (e.born : Int) == n) with
    | none => exact Sim.unsupported
    | some i =>
      have := (he.mono hle2).modify i (f := fun e => { e with val := v }) (f' := fun e => { e with val := v' })
        (fun x x' hx => ⟨hx.key, (hv.mono hle).mono hle2, hx.born⟩)
      exact sim_setObj ((hle.trans hle2) _ _ hb) (.map this.1 this.2) rfl (fun _ _ _ h => by cases h)
  | _ => exact Sim.stuck
theorem sim_delete {at_ : Array TypeId} {t ty : TypeId} (ht : at_[0]? = some t) (hkt : keyTy P t = true) {args args' : Array Value} {k : Value} (hk : args[1]? = some k) (hkf : keyFit k = true) (ha : AR β args args') :
    Sim P B w0 β (Builtin.delete_ at_ ty args) (Builtin.delete_ at_ ty args') VR := by
  obtain ⟨kt, et, hu, hki⟩ := keyTy_spec hkt
  obtain ⟨k', hk', hkr⟩ := ha.get hk
  have hkk : k = k' := by
    obtain ⟨a, b, rfl⟩ := keyFit_int hkf
    cases hkr; rfl
  subst hkk
  unfold Builtin.delete_
  rw [ht, hk, hk']
  cases hm0 : args[0]? with
  | none => exact Sim.stuck
  | some m =>
    obtain ⟨m', hm', hm⟩ := ha.get hm0
    rw [hm']
    dsimp only
    refine Sim.under fun d hd => ?_
    rw [hu] at hd
    simp only [Option.some.injEq] at hd
    subst hd
    dsimp only
    cases hm with
    | nilMap => exact Sim.bind (Sim.of_still (still_checkKey hki _ _ _ hkf) (D := fun _ x y => x = y) (fun _ _ => rfl)) fun β2 _ _ hle2 _ => Sim.pure fun β3 _ => undefVR β3
    | map hb =>
      refine sim_getMap hb fun β1 es es' c hle he => ?_
      have hemp : es.isEmpty = es'.isEmpty := by simp [Array.isEmpty, he.1]
      rw [← hemp]
      refine Sim.bind (Sim.of_still (still_checkKey hki _ _ _ hkf) (D := fun _ x y => x = y) (fun _ _ => rfl)) fun β2 _ _ hle2 _ => ?_
      refine Sim.bind (sim_findKey hki hkf (he.mono hle2)) fun β3 r r' hle3 hr => ?_
      obtain ⟨hr, _⟩ := hr
      have hle03 := (hle.trans hle2).trans hle3
      have he3 := (he.mono hle2).mono hle3
      cases r with
      | none =>
        cases r' with
        | some _ => exact hr.elim
        | none => exact Sim.bind (sim_setObj (hle03 _ _ hb) (.map he3.1 he3.2) rfl (fun _ _ _ h => by cases h)) fun β4 _ _ _ _ => Sim.pure fun β5 _ => undefVR β5
      | some p =>
        cases r' with
        | none => exact hr.elim
        | some p' =>
          obtain ⟨i, x⟩ := p
          obtain ⟨j, x'⟩ := p'
          obtain ⟨rfl, hx⟩ := hr
          have := he3.erase i
          exact Sim.bind (sim_setObj (hle03 _ _ hb) (.map this.1 this.2) rfl (fun _ _ _ h => by cases h)) fun β4 _ _ _ _ => Sim.pure fun β5 _ => undefVR β5
    | _ => exact Sim.stuck
theorem sim_makeMap (t : TypeId) : Sim P B w0 β (Instr.makeMap t none) (Instr.makeMap t none) VR := by
  intro β1 σ w hle hR u σ' hu
  have hu' : Result.ok (Value.map (some σ.heap.size)) (σ.alloc (.map #[] 0)) = .ok u σ' := hu
  simp only [Result.ok.injEq] at hu'
  obtain ⟨rfl, rfl⟩ := hu'
  refine ⟨_, .map (some w.heap.size), w.alloc (.map #[] 0), Beta.le_put (bi := ⟨w.heap.size, 0, 0, 0, 0⟩) hR.fresh, rfl,
    hR.alloc (.map rfl fun i x x' e => by simp at e) (fun c e fz h => by cases h) rfl, ?_⟩
  exact .map (bi := ⟨w.heap.size, 0, 0, 0, 0⟩) (by unfold Beta.put; rw [if_pos rfl])
end
end Go.Ideal
namespace Go.Ideal
open Go
section
variable {P : Program} {B : Nat} {w0 : Base} {β : Beta}
theorem sim_newObj {o o' : Obj} (ho : ∀ β1 r, β.le β1 → OR β1 ⟨r, 0, 0, 0, 0⟩ o o') (hc : ∀ c e fz, o ≠ .cells c e fz) :
    Sim P B w0 β (newObj o) (newObj o') (fun β b b' => ∃ bi, β b = some bi ∧ b' = bi.r ∧ bi.d = 0) := by
  intro β1 σ w hle hR u σ' hu
  have hu' : Result.ok σ.heap.size (σ.alloc o) = .ok u σ' := hu
  simp only [Result.ok.injEq] at hu'
  obtain ⟨rfl, rfl⟩ := hu'
  have hlive : live o = true := by cases o <;> first | rfl | exact absurd rfl (hc _ _ _)
  have hl := Beta.le_put (bi := ⟨w.heap.size, 0, 0, 0, 0⟩) hR.fresh
  refine ⟨_, w.heap.size, w.alloc o', hl, rfl, hR.alloc (ho _ _ (hle.trans hl)) (fun c e fz h => absurd h (hc c e fz)) hlive, ⟨w.heap.size, 0, 0, 0, 0⟩, by unfold Beta.put; rw [if_pos rfl], rfl, rfl⟩
theorem sim_range {t : TypeId} {x x' : Value} (hx : VR β x x') : Sim P B w0 β (Instr.range t x) (Instr.range t x') VR := by
  unfold Instr.range
  have tail : ∀ {β1 : Beta} {o o' : Obj}, β.le β1 → (∀ β2 r, β1.le β2 → OR β2 ⟨r, 0, 0, 0, 0⟩ o o') → (∀ c e fz, o ≠ .cells c e fz) →
      Sim P B w0 β1 (do pure (Value.pointer (some ⟨← newObj o, 0, none⟩))) (do pure (Value.pointer (some ⟨← newObj o', 0, none⟩))) VR := by
    intro β1 o o' hle ho hc
    refine Sim.bind (sim_newObj ho hc) fun β2 b b' hle2 hb => Sim.pure fun β3 hle3 => ?_
    obtain ⟨bi, h1, rfl, h3⟩ := hb
    have := VR.ptr (o := 0) (hle3 _ _ h1)
    rwa [h3] at this
  refine Sim.under fun d hd => ?_
  cases d with
  | string =>
    cases hx with
    | string s => exact tail (.refl _) (fun β2 r _ => .stringIter s 0 rfl) (fun _ _ _ h => by cases h)
    | _ => exact Sim.stuck
  | map k e =>
    cases hx with
    | nilMap => exact tail (.refl _) (fun β2 r _ => .nilIter 0 #[] 0 rfl) (fun _ _ _ h => by cases h)
    | @map b bi hb =>
      dsimp only
      refine sim_getMap hb fun β1 es es' c hle he => ?_
      exact tail hle (fun β2 r hle2 => .mapIter (hle2 _ _ (hle _ _ hb)) c #[] c rfl) (fun _ _ _ h => by cases h)
    | _ => exact Sim.stuck
  | _ => cases hx <;> exact Sim.stuck
theorem find_born {β : Beta} (stamp : Nat) : ∀ {l m : List MapEntry}, ERL β l m →
    (l.find? (·.born == stamp) = none ∧ m.find? (·.born == stamp) = none) ∨ ∃ e e', l.find? (·.born == stamp) = some e ∧ m.find? (·.born == stamp) = some e' ∧ ER β e e'
  | [], [], _ => .inl ⟨rfl, rfl⟩
  | a :: l, b :: m, h => by
    simp only [List.find?_cons, ← h.1.born]
    cases hs : a.born == stamp with
    | true => exact .inr ⟨a, b, rfl, rfl, h.1⟩
    | false => exact find_born stamp h.2
  | [], _ :: _, h => h.elim
  | _ :: _, [], h => h.elim
theorem ER.tuple2 {x x' : MapEntry} (h : ER β x x') : VR β (.tuple #[x.key, x.val]) (.tuple #[x'.key, x'.val]) := by
  have hk : VR β x.key x'.key := by
    rw [← h.key.1]
    obtain ⟨a, b, e⟩ := keyFit_int h.key.2
    rw [e]; exact .int a b
  have := ((AR.empty β).push hk).push h.val
  exact .tuple this.1 this.2
theorem sim_firstCells {size n : Nat} {x x' : Value} (hx : VR β x x') (hn : ∀ a l c, x = .slice a l c → n ≤ l) :
    Sim P B w0 β (Builtin.firstCells size n x) (Builtin.firstCells size n x') AR := by
  cases hx with
  | nilSlice => exact Sim.pure fun β1 _ => AR.empty β1
  | @slice b o len cap o' cap' bi hb hs =>
    have hl := hn _ _ _ rfl
    have zero : n = 0 → Sim P B w0 β (Builtin.firstCells size n (.slice (some ⟨b, o, none⟩) len cap)) (Builtin.firstCells size n (.slice (some ⟨bi.r, o', none⟩) len cap')) AR := by
      rintro rfl
      simp only [Builtin.firstCells, Nat.zero_mul, loadCells, loadCellsFrom]
      exact Sim.pure fun β1 _ => AR.empty β1
    rcases hs with ⟨h1, h2, h3, h4 | h4⟩ | ⟨h1, h2, ⟨h3, _⟩ | ⟨h3, _⟩⟩ | ⟨_, h3, _⟩
    · subst h4; exact sim_loadCells ⟨b, o, bi, hb, rfl, rfl⟩ _
    · exact zero (by omega)
    · subst h3; exact sim_loadCells ⟨b, o, bi, hb, rfl, rfl⟩ _
    · exact zero (by omega)
    · subst h3; exact sim_loadCells ⟨b, o, bi, hb, rfl, rfl⟩ _
  | string s =>
    refine Sim.pure fun β1 _ => ⟨rfl, fun i v v' e e' => ?_⟩
    rw [e] at e'
    simp only [Option.some.injEq] at e'
    subst e'
    simp only [Array.getElem?_map, Option.map_eq_some_iff] at e
    obtain ⟨b, _, rfl⟩ := e
    exact .int _ _
  | _ => exact Sim.stuck
theorem slice_pr {b o len cap : Nat} {y : Value} (h : VR β (.slice (some ⟨b, o, none⟩) len cap) y) (hn : len ≠ 0) : ∃ a' cap', y = .slice (some a') len cap' ∧ PR β ⟨b, o, none⟩ a' := by
  cases h with
  | @slice _ _ _ _ o' cap' bi hb hs =>
    refine ⟨⟨bi.r, o', none⟩, cap', rfl, b, o, bi, hb, rfl, ?_⟩
    rcases hs with ⟨h1, h2, h3, h4 | h4⟩ | ⟨h1, h2, ⟨h3, _⟩ | ⟨h3, _⟩⟩ | ⟨_, h3, _⟩
    · rw [h4]
    · exact absurd (by omega) hn
    · rw [h3]
    · exact absurd h3 hn
    · rw [h3]
theorem sim_clear {at_ : Array TypeId} {ty : TypeId} {args args' : Array Value} (hs0 : isSlice args[0]? = true) (hf : clearFit P at_ = true) (ha : AR β args args') :
    Sim P B w0 β (Builtin.clear_ at_ ty args) (Builtin.clear_ at_ ty args') VR := by
  unfold clearFit at hf
  cases ht : at_[0]? with
  | none => rw [ht] at hf; cases hf
  | some t =>
    rw [ht] at hf
    simp only at hf
    cases hu : P.underlying t with
    | none => rw [hu] at hf; cases hf
    | some d =>
      rw [hu] at hf
      cases d with
      | slice elem =>
        simp only at hf
        unfold Builtin.clear_
        rw [ht]
        cases hx0 : args[0]? with
        | none => exact Sim.stuck
        | some x =>
          obtain ⟨x', hx', hx⟩ := ha.get hx0
          rw [hx']
          dsimp only
          refine Sim.under fun d hd => ?_
          rw [hu] at hd
          simp only [Option.some.injEq] at hd
          subst hd
          have nop : Sim P B w0 β (do (Pure.pure () : Sem Unit); Pure.pure (.tuple #[]) : Sem Value) (do (Pure.pure () : Sem Unit); Pure.pure (.tuple #[])) VR := Sim.pure fun β3 _ => undefVR β3
          cases x with
          | slice a n c =>
            cases a with
            | none => cases hx; exact nop
            | some a =>
              obtain ⟨b, o, rfl⟩ : ∃ b o, a = ⟨b, o, none⟩ := by cases hx; exact ⟨_, _, rfl⟩
              by_cases hn : n = 0
              · subst hn
                cases hx
                exact nop
              · obtain ⟨a', c', rfl, hpr⟩ := slice_pr hx hn
                obtain ⟨n, rfl⟩ : ∃ m, n = m + 1 := ⟨n - 1, by omega⟩
                refine Sim.bind (sim_zeroValue hf) fun β1 z z' hle hz => ?_
                have hc := hz.cells.row ((n + 1) * z.cells.size)
                have hs : z'.cells.size = z.cells.size := hz.cells.1.symm
                refine Sim.bind (A := fun _ _ _ => True) (sim_storeCells _ _ 0 (hpr.mono hle) ?_) fun β2 _ _ hle _ => Sim.pure fun β3 _ => undefVR β3
                unfold Builtin.zeroCells
                rw [hs]
                rw [hs] at hc
                exact hc.lr
          | _ => rw [hx0] at hs0; cases hs0
      | _ => cases hf
theorem sim_copy {at_ : Array TypeId} {ty : TypeId} {args args' : Array Value} (hs0 : isSlice args[0]? = true) (hs1 : isSlice args[1]? = true) (ha : AR β args args') :
    Sim P B w0 β (Builtin.copy_ at_ ty args) (Builtin.copy_ at_ ty args') VR := by
  cases hx0 : args[0]? with
  | none => rw [hx0] at hs0; cases hs0
  | some x =>
    cases x with
    | slice a n c =>
      cases hy0 : args[1]? with
      | none => rw [hy0] at hs1; cases hs1
      | some y =>
        cases y with
        | slice a2 n2 c2 =>
          obtain ⟨x', hx', hx⟩ := ha.get hx0
          obtain ⟨y', hy', hy⟩ := ha.get hy0
          have lens : ∀ {a : Option Addr} {n c : Nat} {x' : Value}, VR β (.slice a n c) x' → ∃ a' c', x' = .slice a' n c' ∧ (n ≠ 0 → (a = none ∧ a' = none) ∨ ∃ u u', a = some u ∧ a' = some u' ∧ PR β u u') ∧ (a = none ↔ a' = none) := by
            intro a n c x' hx
            cases a with
            | none => cases hx; exact ⟨none, _, rfl, fun h => absurd rfl h, Iff.rfl⟩
            | some u =>
              obtain ⟨b, o, rfl⟩ : ∃ b o, u = ⟨b, o, none⟩ := by cases hx; exact ⟨_, _, rfl⟩
              by_cases hn : n = 0
              · subst hn; cases hx; exact ⟨_, _, rfl, fun h => absurd rfl h, by simp⟩
              · obtain ⟨u', c', rfl, hpr⟩ := slice_pr hx hn
                exact ⟨_, _, rfl, fun _ => .inr ⟨_, _, rfl, rfl, hpr⟩, by simp⟩
          obtain ⟨a', c', rfl, hpr, hnn⟩ := lens hx
          obtain ⟨a2', c2', rfl, _, _⟩ := lens hy
          unfold Builtin.copy_
          rw [hx0, hx', hy0, hy']
          cases ht : at_[0]? with
          | none => exact Sim.stuck
          | some t =>
            dsimp only
            refine Sim.under fun d hd => ?_
            cases d with
            | slice elem =>
              dsimp only
              have hl : ∀ (b : Option Addr) (k : Nat), Builtin.lenOf (.slice b n2 k) = Pure.pure n2 := fun _ _ => rfl
              rw [hl, hl]
              refine Sim.bind (Sim.pure (A := fun _ x y => x = n2 ∧ y = n2) fun _ _ => ⟨rfl, rfl⟩) fun β1 m m' hle e => ?_
              obtain ⟨e1, e2⟩ := e
              rw [e1, e2]
              refine Sim.still (still_sizeOf _) fun size => ?_
              have f0 : ∀ (b : Option Addr) (k : Nat), Builtin.firstCells size 0 (.slice b n2 k) = Pure.pure #[] := fun b k => by
                cases b <;> simp only [Builtin.firstCells, Nat.zero_mul, loadCells, loadCellsFrom]
              by_cases hn : n = 0
              · subst hn
                rw [show Nat.min n2 0 = 0 from Nat.min_zero n2, f0, f0]
                refine Sim.bind (Sim.pure (A := fun _ x y => x = #[] ∧ y = #[]) fun _ _ => ⟨rfl, rfl⟩) fun β2 cs cs' hle2 e => ?_
                obtain ⟨rfl, rfl⟩ := e
                cases a with
                | none =>
                  have := hnn.1 rfl
                  subst this
                  exact Sim.pure fun β3 _ => .int _ _
                | some u =>
                  cases a' with
                  | none => exact absurd (hnn.2 rfl) (by simp)
                  | some u' => exact Sim.pure fun β3 _ => .int _ _
              refine Sim.bind (sim_firstCells (n := Nat.min n2 n) (hy.mono hle) (fun _ l _ e => by simp only [Value.slice.injEq] at e; rw [← e.2.1]; exact Nat.min_le_left _ _)) fun β2 cs cs' hle2 hcs => ?_
              cases a with
              | none =>
                have := hnn.1 rfl
                subst this
                exact Sim.pure fun β3 _ => .int _ _
              | some u =>
                cases a' with
                | none => exact absurd (hnn.2 rfl) (by simp)
                | some u' =>
                  dsimp only
                  rcases hpr hn with ⟨e, _⟩ | ⟨u1, u1', e3, e4, hp⟩
                  · cases e
                  · simp only [Option.some.injEq] at e3 e4
                    subst e3; subst e4
                    exact Sim.bind (A := fun _ _ _ => True) (sim_storeCells _ _ 0 ((hp.mono hle).mono hle2) hcs.lr) fun β3 _ _ _ _ => Sim.pure fun β4 _ => .int _ _
            | _ => exact Sim.stuck
        | _ => rw [hy0] at hs1; cases hs1
    | _ => rw [hx0] at hs0; cases hs0
theorem still_bound (x : Value) (y : Nat) (c : BoundsCode) (hx : ∀ a, x ≠ .pointer (some a)) : Still (Instr.sliceBound x y c) P := by
  unfold Instr.sliceBound asIntOf
  cases x <;> first
    | exact (stillP_never (never_left (never_halt _)) (Q := fun _ => True)).still
    | (refine still_bind (still_pure _) fun p => ?_
       dsimp only
       split
       · exact still_pure _
       · exact (stillP_never (never_boundsPanic _ _ _ _) (Q := fun _ => True)).still)
    | (rename_i a; cases a
       · exact (stillP_never (never_left (never_halt _)) (Q := fun _ => True)).still
       · exact absurd rfl (hx _))
end
end Go.Ideal
namespace Go.Ideal
open Go
def TSim {α α' : Type} (P : Program) (B : Nat) (w0 : Base) (β : Beta) (t : World → T (α × World)) (s' : Sem α') (A : Beta → α → α' → Prop) : Prop :=
  ∀ β1 σ w, β.le β1 → R P B w0 β1 σ w → ∀ Q, (t σ).all Q → ∃ β2 v σ' v' w', β1.le β2 ∧ s'.run P w = .ok v' w' ∧ R P B w0 β2 σ' w' ∧ A β2 v v' ∧ Q (v, σ')
section
variable {P : Program} {B : Nat} {w0 : Base} {β : Beta} {α α' γ γ' : Type} {A : Beta → α → α' → Prop} {C : Beta → γ → γ' → Prop}
theorem TSim.of_sim {s : Sem α} {s' : Sem α'} (h : Sim P B w0 β s s' A) : TSim P B w0 β (fun σ => ofRun (s.run P σ)) s' A := by
  intro β1 σ w hle hR Q hQ
  cases hs : s.run P σ with
  | halt x y => simp only [hs] at hQ; exact hQ.elim
  | ok v σ' =>
    simp only [hs] at hQ
    obtain ⟨β2, v', w', h1, h2, h3, h4⟩ := h β1 σ w hle hR v σ' hs
    exact ⟨β2, v, σ', v', w', h1, h2, h3, h4, hQ⟩
theorem TSim.bad {s' : Sem α'} : TSim P B w0 β (fun _ => (.bad : T (α × World))) s' A := fun _ _ _ _ _ _ hQ => hQ.elim
theorem TSim.map {t : World → T (α × World)} {s' : Sem α'} (h : TSim P B w0 β t s' A) {f : α → γ} {f' : α' → γ'} (hf : ∀ β1 v v', β.le β1 → A β1 v v' → C β1 (f v) (f' v')) :
    TSim P B w0 β (fun σ => (t σ).bind fun (v, w) => .ret (f v, w)) (do pure (f' (← s'))) C := by
  intro β1 σ w hle hR Q hQ
  obtain ⟨β2, v, σ', v', w', h1, h2, h3, h4, h5⟩ := h β1 σ w hle hR _ (T.all_bind.1 hQ)
  exact ⟨β2, f v, σ', f' v', w', h1, by simp [h2, Result.andThen], h3, hf _ _ _ (hle.trans h1) h4, h5⟩
theorem run_bound_ok {k : IntKind} {i : Int} {y : Nat} {c : BoundsCode} (h0 : 0 ≤ i) (h1 : i ≤ y) (w : World) : (Instr.sliceBound (.int k i) y c).run P w = .ok i.toNat w := by
  simp [Instr.sliceBound, asIntOf, h0, h1, Sem.run_pure]
theorem stillP_bound (x : Value) (y : Nat) (c : BoundsCode) (hx : ∀ a, x ≠ .pointer (some a)) : StillP (Instr.sliceBound x y c) P (fun n => n ≤ y) := by
  intro σ w v σ' hu
  obtain ⟨h1, h2⟩ := still_bound x y c hx σ w v σ' hu
  refine ⟨h1, h2, ?_⟩
  unfold Instr.sliceBound at hu
  rw [Sem.run_bind] at hu
  cases hs : (asIntOf x).run P σ with
  | halt a b => rw [hs] at hu; cases hu
  | ok p σ1 =>
    rw [hs] at hu
    obtain ⟨k, i⟩ := p
    simp only [Result.andThen] at hu
    split at hu
    · simp only [Sem.run_pure, Result.ok.injEq] at hu
      obtain ⟨rfl, _⟩ := hu
      omega
    · exact absurd hu (never_boundsPanic _ _ _ _ _ _ _)
def OVR (β : Beta) : Option Value → Option Value → Prop
  | none, none => True
  | some a, some b => VR β a b
  | _, _ => False
theorem Addr.add_off (b o n : Nat) : (⟨b, o, none⟩ : Addr).add n = ⟨b, o + n, none⟩ := by
  unfold Addr.add
  split
  · rename_i h; subst h; rfl
  · rfl
end
end Go.Ideal
namespace Go.Ideal
open Go
section
variable {P : Program} {B : Nat} {w0 : Base} {β : Beta}
theorem bound?_spec {β : Beta} {v v' : Option Value} {d n : Nat} (h : OVR β v v') (hb : bound? v d = some n) :
    (v = none ∧ v' = none ∧ n = d) ∨ ∃ k i, v = some (.int k i) ∧ v' = some (.int k i) ∧ 0 ≤ i ∧ n = i.toNat := by
  cases v with
  | none =>
    cases v' with
    | some _ => exact h.elim
    | none => simp [bound?] at hb; exact .inl ⟨rfl, rfl, hb.symm⟩
  | some x =>
    cases v' with
    | none => exact h.elim
    | some x' =>
      cases h with
      | int k i =>
        simp only [bound?] at hb
        split at hb
        · simp only [Option.some.injEq] at hb
          exact .inr ⟨k, i, rfl, rfl, by assumption, hb.symm⟩
        · cases hb
      | _ => simp [bound?] at hb
theorem run_sliceBounds {isS : Bool} {len cap l h : Nat} {lo lo' hi hi' : Option Value} (hlo : OVR β lo lo') (hhi : OVR β hi hi') (el : bound? lo 0 = some l) (eh : bound? hi len = some h)
    (hlh : l ≤ h) (hhc : h ≤ cap) (w : World) : (Instr.sliceBounds isS len cap lo' hi' none).run P w = .ok (l, h, cap) w := by
  have h1 := bound?_spec hlo el
  have h2 := bound?_spec hhi eh
  unfold Instr.sliceBounds
  rcases h1 with ⟨_, rfl, rfl⟩ | ⟨k1, i1, _, rfl, g1, rfl⟩ <;> rcases h2 with ⟨_, rfl, rfl⟩ | ⟨k2, i2, _, rfl, g2, rfl⟩
  · simp only [Sem.run_bind, Sem.run_pure, Result.andThen]
  · simp only [Sem.run_bind, Sem.run_pure, Result.andThen]
    rw [run_bound_ok g2 (by omega)]
  · simp only [Sem.run_bind, Sem.run_pure, Result.andThen]
    rw [run_bound_ok g1 (by omega)]
  · simp only [Sem.run_bind, Sem.run_pure, Result.andThen]
    rw [run_bound_ok g2 (by omega)]
    simp only
    rw [run_bound_ok g1 (by omega)]
theorem run_sliceBounds3 {isS : Bool} {len cap l h m : Nat} {lo lo' hi hi' : Option Value} {k3 : IntKind} {i3 : Int} (hlo : OVR β lo lo') (hhi : OVR β hi hi') (el : bound? lo 0 = some l) (eh : bound? hi len = some h)
    (his : hi.isSome = true) (h3 : 0 ≤ i3) (em : i3.toNat = m) (hlh : l ≤ h) (hhm : h ≤ m) (hmc : m ≤ cap) (w : World) :
    (Instr.sliceBounds isS len cap lo' hi' (some (.int k3 i3))).run P w = .ok (l, h, m) w := by
  have h1 := bound?_spec hlo el
  have h2 := bound?_spec hhi eh
  unfold Instr.sliceBounds
  rcases h2 with ⟨rfl, _, _⟩ | ⟨k2, i2, _, rfl, g2, rfl⟩
  · cases his
  · rcases h1 with ⟨_, rfl, rfl⟩ | ⟨k1, i1, _, rfl, g1, rfl⟩
    · simp only [Sem.run_bind]
      rw [run_bound_ok h3 (by omega)]
      simp only [Result.andThen]
      rw [em, run_bound_ok g2 (by omega)]
      simp only [Sem.run_pure]
    · simp only [Sem.run_bind]
      rw [run_bound_ok h3 (by omega)]
      simp only [Result.andThen]
      rw [em, run_bound_ok g2 (by omega)]
      simp only [Sem.run_pure]
      rw [run_bound_ok g1 (by omega)]
theorem run_isliceSeen {t elem : TypeId} (ht : P.underlying t = some (.slice elem)) {a : Addr} {len cap : Nat} {x' : Value} (hx : VR β (.slice (some a) len cap) x') (hc : ¬ cap < OPEN) (he : ¬ cap = OPEN)
    {lo lo' hi hi' mx mx' : Option Value} (hlo : OVR β lo lo') (hhi : OVR β hi hi') (hmx : OVR β mx mx') {σ : World} {Q : Value × World → Prop} (hQ : (isliceSeen P elem a len cap lo hi mx σ).all Q) :
    ∃ v v', (∀ w, (Instr.sliceAt t x' lo' hi' mx').run P w = .ok v' w) ∧ VR β v v' ∧ Q (v, σ) := by
  cases hx with
  | @slice b o _ _ o' cap' bi hb hs =>
  rcases hs with ⟨h1, _⟩ | ⟨h1, _⟩ | ⟨h1, rfl, hle⟩
  · exact absurd h1 hc
  · exact absurd h1 he
  unfold isliceSeen at hQ
  split at hQ
  · rename_i i h hie hh
    split at hQ
    · rename_i hl
      have hmx' : mx' = none := by cases mx' <;> first | rfl | exact hmx.elim
      subst hmx'
      refine ⟨_, .slice (some ⟨bi.r, o + bi.d, none⟩) h cap', fun w => ?_, .slice hb (.inr (.inr ⟨h1, rfl, by omega⟩)), hQ⟩
      · unfold Instr.sliceAt Instr.slice
        have hr := run_sliceBounds (P := P) (isS := true) (len := len) (cap := cap') (l := 0) (h := h) hlo hhi rfl hh (Nat.zero_le _) (by omega) w
        simp only [Sem.run_bind, run_underlying' ht, Result.andThen, hr, run_sizeOf' hie, Sem.run_pure]
        simp [Addr.add_off]
    · exact hQ.elim
  · exact hQ.elim
end
end Go.Ideal
