/-
  The operations side by side: maps.
-/
import Derived.Test.YtplcocifndpplaaIi
namespace Go.Ideal
open Go

def ERL (β : Beta) : List MapEntry → List MapEntry → Prop
  | [], [] => True
  | a :: l, b :: m => ER β a b ∧ ERL β l m
  | _, _ => False

theorem ERL.of_index {β : Beta} : ∀ {l m : List MapEntry}, l.length = m.length → (∀ (i : Nat) (v v' : MapEntry), l[i]? = some v → m[i]? = some v' → ER β v v') → ERL β l m
  | [], [], _, _ => trivial
  | [], _ :: _, h, _ => by simp at h
  | _ :: _, [], h, _ => by simp at h
  | a :: l, b :: m, h, hi => ⟨hi 0 a b rfl rfl, ERL.of_index (by simpa using h) fun i v v' e e' => hi (i + 1) v v' (by simpa using e) (by simpa using e')⟩

theorem ERL.mono {β β' : Beta} (h : β.le β') : ∀ {l m : List MapEntry}, ERL β l m → ERL β' l m
  | [], [], _ => trivial
  | _ :: _, _ :: _, hl => ⟨hl.1.mono h, ERL.mono h hl.2⟩
  | [], _ :: _, hl => hl.elim
  | _ :: _, [], hl => hl.elim

def EAR (β : Beta) (es es' : Array MapEntry) : Prop := es.size = es'.size ∧ ∀ (i : Nat) (x x' : MapEntry), es[i]? = some x → es'[i]? = some x' → ER β x x'

theorem EAR.mono {β β' : Beta} (h : β.le β') {es es' : Array MapEntry} (he : EAR β es es') : EAR β' es es' := ⟨he.1, fun i x x' e e' => (he.2 i x x' e e').mono h⟩

theorem EAR.list {β : Beta} {es es' : Array MapEntry} (h : EAR β es es') : ERL β es.toList es'.toList :=
  ERL.of_index (by simpa using h.1) fun i v v' e e' => h.2 i v v' (by simpa using e) (by simpa using e')

theorem EAR.get {β : Beta} {es es' : Array MapEntry} (h : EAR β es es') {i : Nat} {x : MapEntry} (hx : es[i]? = some x) : ∃ x', es'[i]? = some x' ∧ ER β x x' := by
  have hi : i < es.size := (Array.getElem?_eq_some_iff.1 hx).1
  have hi' : i < es'.size := h.1 ▸ hi
  exact ⟨es'[i], by simp [hi'], h.2 i x _ hx (by simp [hi'])⟩

theorem EAR.push {β : Beta} {c c' : Array MapEntry} (h : EAR β c c') {v v' : MapEntry} (hv : ER β v v') : EAR β (c.push v) (c'.push v') := by
  refine ⟨by simp [h.1], fun i x x' e e' => ?_⟩
  rw [Array.getElem?_push] at e e'
  rw [h.1] at e
  by_cases hi : i = c'.size
  · rw [if_pos hi] at e e'
    simp only [Option.some.injEq] at e e'
    subst e; subst e'; exact hv
  · rw [if_neg hi] at e e'
    exact h.2 i x x' e e'

theorem EAR.modify {β : Beta} {c c' : Array MapEntry} (h : EAR β c c') (i : Nat) {f f' : MapEntry → MapEntry} (hf : ∀ x x', ER β x x' → ER β (f x) (f' x')) : EAR β (c.modify i f) (c'.modify i f') := by
  refine ⟨by simp [h.1], fun k x x' e e' => ?_⟩
  rw [Array.getElem?_modify] at e e'
  by_cases hk : i = k
  · rw [if_pos hk] at e e'
    cases hc : c[k]? with
    | none => rw [hc] at e; cases e
    | some y =>
      cases hc' : c'[k]? with
      | none => rw [hc'] at e'; cases e'
      | some y' =>
        rw [hc] at e; rw [hc'] at e'
        simp only [Option.map_some, Option.some.injEq] at e e'
        subst e; subst e'
        exact hf _ _ (h.2 k y y' hc hc')
  · rw [if_neg hk] at e e'
    exact h.2 k x x' e e'

theorem EAR.erase {β : Beta} {c c' : Array MapEntry} (h : EAR β c c') (i : Nat) : EAR β (c.eraseIdxIfInBounds i) (c'.eraseIdxIfInBounds i) := by
  unfold Array.eraseIdxIfInBounds
  by_cases hi : i < c.size
  · have hi' : i < c'.size := h.1 ▸ hi
    rw [dif_pos hi, dif_pos hi']
    refine ⟨by simp [h.1], fun k x x' e e' => ?_⟩
    rw [Array.getElem?_eraseIdx] at e e'
    split at e
    · rename_i hk
      rw [if_pos hk] at e'
      exact h.2 _ x x' e e'
    · rename_i hk
      rw [if_neg hk] at e'
      exact h.2 _ x x' e e'
  · have hi' : ¬ i < c'.size := by rw [← h.1]; exact hi
    rw [dif_neg hi, dif_neg hi']
    exact h

/-- What is found. -/
def FR (β : Beta) : Option (Nat × Value) → Option (Nat × Value) → Prop
  | none, none => True
  | some (i, v), some (j, v') => i = j ∧ VR β v v'
  | _, _ => False

theorem keyFit_int {v : Value} (h : keyFit v = true) : ∃ k n, v = .int k n := by
  cases v <;> simp [keyFit] at h
  exact ⟨_, _, rfl⟩

theorem findNow_rel {β : Beta} (kd : TypeDesc) {k : Value} : ∀ {l m : List MapEntry}, ERL β l m → ∀ i,
    (Instr.findNow kd k l i = none ∧ Instr.findNow kd k m i = none) ∨ ∃ r r', Instr.findNow kd k l i = some r ∧ Instr.findNow kd k m i = some r' ∧ FR β r r'
  | [], [], _, i => .inr ⟨none, none, rfl, rfl, trivial⟩
  | a :: l, b :: m, h, i => by
    unfold Instr.findNow
    rw [← h.1.key.1]
    cases hs : Instr.sameNow kd k a.key with
    | none => exact .inl ⟨rfl, rfl⟩
    | some t =>
      cases t with
      | true => exact .inr ⟨_, _, rfl, rfl, rfl, h.1.val⟩
      | false => exact findNow_rel kd h.2 (i + 1)
  | [], _ :: _, h, _ => h.elim
  | _ :: _, [], h, _ => h.elim

theorem findNow_key (kd : TypeDesc) {k : Value} (hk : keyFit k = true) : ∀ (l : List MapEntry) (i j : Nat) (v : Value), Instr.findNow kd k l i = some (some (j, v)) →
    ∃ e, i ≤ j ∧ l[j - i]? = some e ∧ e.key = k ∧ e.val = v
  | [], i, j, v, h => by simp [Instr.findNow] at h
  | e :: l, i, j, v, h => by
    unfold Instr.findNow at h
    cases hs : Instr.sameNow kd k e.key with
    | none => rw [hs] at h; cases h
    | some t =>
      rw [hs] at h
      cases t with
      | true =>
        simp only [Option.some.injEq, Prod.mk.injEq] at h
        obtain ⟨rfl, rfl⟩ := h
        refine ⟨e, Nat.le_refl _, by simp, ?_, rfl⟩
        obtain ⟨kk, n, rfl⟩ := keyFit_int hk
        unfold Instr.sameNow at hs
        split at hs <;> simp_all
      | false =>
        obtain ⟨e', h1, h2, h3, h4⟩ := findNow_key kd hk l (i + 1) j v h
        refine ⟨e', by omega, ?_, h3, h4⟩
        rw [show j - i = (j - (i + 1)) + 1 from by omega]
        simpa using h2

section
variable {P : Program} {B : Nat} {w0 : Base} {β : Beta}

theorem isInt_spec {t : TypeId} (h : isInt P t = true) : ∃ k, P.underlying t = some (.int k) := by
  unfold isInt at h
  split at h
  · exact ⟨_, ‹_›⟩
  · cases h

theorem eqTy_int {t : TypeId} (h : isInt P t = true) : eqTy P 5 t = true := by
  obtain ⟨k, hk⟩ := isInt_spec h
  unfold eqTy
  rw [hk]

theorem still_equalKey {t : TypeId} (h : isInt P t = true) {x y : Value} (hx : keyFit x = true) (hy : keyFit y = true) : Still (Op.equal t x y) P := by
  obtain ⟨k, n, rfl⟩ := keyFit_int hx
  obtain ⟨j, m, rfl⟩ := keyFit_int hy
  exact still_equalIn _ 5 t _ _ 3 (eqTy_int h) rfl rfl

theorem equalKey_eq {t : TypeId} (h : isInt P t = true) {x y : Value} (hx : keyFit x = true) (hy : keyFit y = true) {σ σ' : World} (hr : (Op.equal t x y).run P σ = .ok true σ') : x = y := by
  obtain ⟨k, n, rfl⟩ := keyFit_int hx
  obtain ⟨j, m, rfl⟩ := keyFit_int hy
  obtain ⟨kk, hkk⟩ := isInt_spec h
  unfold Op.equal Op.maxDepth Op.equalIn at hr
  rw [Sem.run_bind, run_underlying' hkk] at hr
  simp only [Result.andThen] at hr
  split at hr
  · rename_i e
    subst e
    simp only [Sem.run_pure, Result.ok.injEq] at hr
    rw [Value.int.injEq]
    exact ⟨rfl, by simpa using hr.1⟩
  · simp [Go.stuck, Sem.run] at hr

theorem sim_findAsking {t : TypeId} (h : isInt P t = true) {k : Value} (hk : keyFit k = true) : ∀ {l m : List MapEntry}, ERL β l m → ∀ i,
    Sim P B w0 β (Instr.findAsking t k l i) (Instr.findAsking t k m i) FR := by
  intro l
  induction l generalizing β with
  | nil =>
    intro m hl i
    cases m with
    | nil => exact Sim.pure fun _ _ => trivial
    | cons b m => exact hl.elim
  | cons a l ih =>
    intro m hl i
    cases m with
    | nil => exact hl.elim
    | cons b m =>
      unfold Instr.findAsking
      rw [← hl.1.key.1]
      refine Sim.bind (Sim.of_still (still_equalKey h hk hl.1.key.2) (D := fun _ x y => x = y) (fun _ _ => rfl)) fun β1 x y hle e => ?_
      subst e
      cases x with
      | true => exact Sim.pure fun β2 hle2 => ⟨rfl, (hl.1.val.mono hle).mono hle2⟩
      | false => exact ih (hl.2.mono hle) (i + 1)

theorem findAsking_key {t : TypeId} (h : isInt P t = true) {k : Value} (hk : keyFit k = true) : ∀ (l : List MapEntry), (∀ e ∈ l, keyFit e.key = true) → ∀ (i j : Nat) (v : Value) (σ σ' : World),
    (Instr.findAsking t k l i).run P σ = .ok (some (j, v)) σ' → ∃ e, i ≤ j ∧ l[j - i]? = some e ∧ e.key = k ∧ e.val = v := by
  intro l
  induction l with
  | nil => intro _ i j v σ σ' hr; simp [Instr.findAsking, Sem.run_pure] at hr
  | cons a l ih =>
    intro hl i j v σ σ' hr
    unfold Instr.findAsking at hr
    rw [Sem.run_bind] at hr
    cases he : (Op.equal t k a.key).run P σ with
    | halt x y => rw [he] at hr; cases hr
    | ok b σ1 =>
      rw [he] at hr
      simp only [Result.andThen] at hr
      cases b with
      | true =>
        simp only [if_true, Sem.run_pure, Result.ok.injEq, Option.some.injEq, Prod.mk.injEq] at hr
        obtain ⟨⟨rfl, rfl⟩, _⟩ := hr
        exact ⟨a, Nat.le_refl _, by simp, (equalKey_eq h hk (hl a (by simp)) he).symm, rfl⟩
      | false =>
        obtain ⟨e', h1, h2, h3, h4⟩ := ih (fun e he => hl e (by simp [he])) (i + 1) j v _ _ hr
        refine ⟨e', by omega, ?_, h3, h4⟩
        rw [show j - i = (j - (i + 1)) + 1 from by omega]
        simpa using h2

theorem sim_findKey {t : TypeId} (h : isInt P t = true) {k : Value} (hk : keyFit k = true) {es es' : Array MapEntry} (he : EAR β es es') :
    Sim P B w0 β (Instr.findKey t k es.toList) (Instr.findKey t k es'.toList) (fun β r r' => FR β r r' ∧ ∀ j v, r = some (j, v) → ∃ e e', es[j]? = some e ∧ es'[j]? = some e' ∧ e.key = k ∧ e'.key = k) := by
  have hfit : ∀ e ∈ es.toList, keyFit e.key = true := by
    intro e hm
    obtain ⟨i, hi, rfl⟩ := List.getElem_of_mem hm
    obtain ⟨x', _, hx⟩ := he.get (i := i) (x := es.toList[i]) (by simp)
    exact hx.key.2
  have idx : ∀ {j : Nat} {e : MapEntry}, es.toList[j]? = some e → e.key = k → ∃ e1 e2, es[j]? = some e1 ∧ es'[j]? = some e2 ∧ e1.key = k ∧ e2.key = k := by
    intro j e h1 h2
    have h1' : es[j]? = some e := by simpa using h1
    obtain ⟨x', hx', hx⟩ := he.get h1'
    exact ⟨e, x', h1', hx', h2, hx.key.1 ▸ h2⟩
  unfold Instr.findKey
  refine Sim.under fun d hd => ?_
  rcases findNow_rel (k := k) d he.list 0 with ⟨h1, h2⟩ | ⟨r, r', h1, h2, h3⟩
  · rw [h1, h2]
    intro β1 σ w hle hR u σ' hu
    obtain ⟨β2, v', w', g1, g2, g3, g4⟩ := sim_findAsking h hk he.list 0 β1 σ w hle hR u σ' hu
    refine ⟨β2, v', w', g1, g2, g3, g4, ?_⟩
    rintro j v rfl
    obtain ⟨e, _, q1, q2, _⟩ := findAsking_key h hk _ hfit 0 j v σ σ' hu
    exact idx (by simpa using q1) q2
  · rw [h1, h2]
    refine Sim.pure fun β1 hle => ⟨?_, ?_⟩
    · cases r with
      | none => cases r' <;> exact h3
      | some p => cases r' with
        | none => exact h3
        | some p' => exact ⟨h3.1, h3.2.mono hle⟩
    · rintro j v rfl
      obtain ⟨e, _, q1, q2, _⟩ := findNow_key d hk _ 0 j v h1
      exact idx (by simpa using q1) q2

theorem still_checkKey {t : TypeId} (h : isInt P t = true) (b : Bool) (n : Nat) (v : Value) (hv : keyFit v = true) : Still (Instr.checkKey b n t v) P := by
  cases n with
  | zero => exact still_halt _
  | succ n =>
    obtain ⟨k, hk⟩ := isInt_spec h
    obtain ⟨j, m, rfl⟩ := keyFit_int hv
    unfold Instr.checkKey
    refine still_under fun d hd => ?_
    rw [hk] at hd
    simp only [Option.some.injEq] at hd
    subst hd
    exact still_pure _

theorem keyTy_spec {t : TypeId} (h : keyTy P t = true) : ∃ k e, P.underlying t = some (.map k e) ∧ isInt P k = true := by
  unfold keyTy at h
  split at h
  · exact ⟨_, _, ‹_›, h⟩
  · cases h

theorem sim_getMap {b : Nat} {bi : BI} (hb : β b = some bi) {α α' : Type} {k : Array MapEntry → Nat → Sem α} {k' : Array MapEntry → Nat → Sem α'} {s : String} {A : Beta → α → α' → Prop}
    (h : ∀ β1 es es' c, β.le β1 → EAR β1 es es' → Sim P B w0 β1 (k es c) (k' es' c) A) :
    Sim P B w0 β (do match ← getObj b with | .map es c => k es c | _ => Go.stuck s) (do match ← getObj bi.r with | .map es c => k' es c | _ => Go.stuck s) A := by
  refine Sim.bind (sim_getObj hb) fun β1 o o' hle ho => ?_
  obtain ⟨ho, _⟩ := ho
  cases ho with
  | map hs he => exact h β1 _ _ _ hle ⟨hs, he⟩
  | _ => exact Sim.stuck

theorem sim_lookup {t : TypeId} (hz : elemOk P t = true) (hkt : keyTy P t = true) {x x' k k' : Value} (hx : VR β x x') (hk : VR β k k') (hkf : keyFit k = true) (ok : Bool) :
    Sim P B w0 β (Instr.lookup t x k ok) (Instr.lookup t x' k' ok) VR := by
  obtain ⟨kt, et, hu, hki⟩ := keyTy_spec hkt
  have hkk : k = k' := by
    obtain ⟨a, b, rfl⟩ := keyFit_int hkf
    cases hk; rfl
  subst hkk
  unfold Instr.lookup
  refine Sim.under fun d hd => ?_
  rw [hu] at hd
  simp only [Option.some.injEq] at hd
  subst hd
  dsimp only
  have tail : ∀ {β1 : Beta} {es es' : Array MapEntry}, β.le β1 → EAR β1 es es' → Sim P B w0 β1
      (do
        Instr.checkKey es.isEmpty 10000 kt k
        let (v, ok2) ← match ← Instr.findKey kt k es.toList with
          | some (_, v) => pure (v, true)
          | none => pure (← zeroValue et, false)
        pure (if ok then .tuple #[v, .bool ok2] else v))
      (do
        Instr.checkKey es'.isEmpty 10000 kt k
        let (v, ok2) ← match ← Instr.findKey kt k es'.toList with
          | some (_, v) => pure (v, true)
          | none => pure (← zeroValue et, false)
        pure (if ok then .tuple #[v, .bool ok2] else v)) VR := by
    intro β1 es es' hle he
    have hemp : es.isEmpty = es'.isEmpty := by simp [Array.isEmpty, he.1]
    rw [← hemp]
    refine Sim.bind (Sim.of_still (still_checkKey hki _ _ _ hkf) (D := fun _ x y => x = y) (fun _ _ => rfl)) fun β2 _ _ hle2 _ => ?_
    have fin : ∀ {β3 : Beta} {v v' : Value} (b : Bool), VR β3 v v' → VR β3 (if ok then .tuple #[v, .bool b] else v) (if ok then .tuple #[v', .bool b] else v') := by
      intro β3 v v' b hv
      cases ok with
      | true =>
        have := ((AR.empty β3).push hv).push (VR.bool b)
        exact .tuple this.1 this.2
      | false => exact hv
    refine Sim.bind (sim_findKey hki hkf (he.mono hle2)) fun β3 r r' hle3 hr => ?_
    obtain ⟨hr, _⟩ := hr
    cases r with
    | none =>
      cases r' with
      | some _ => exact hr.elim
      | none => exact Sim.bind (sim_zeroValue (elemOk_map hz hu)) fun β4 z z' hle4 hzz => Sim.pure fun β5 hle5 => fin false (hzz.mono hle5)
    | some p =>
      cases r' with
      | none => exact hr.elim
      | some p' =>
        obtain ⟨i, v⟩ := p
        obtain ⟨j, v'⟩ := p'
        exact Sim.pure fun β5 hle5 => fin true (hr.2.mono hle5)
  cases hx with
  | nilMap => exact tail (.refl _) ⟨rfl, fun i x x' e => by simp at e⟩
  | map hb => exact sim_getMap hb fun β1 es es' c hle he => tail hle he
  | _ => exact Sim.stuck

theorem sim_setObj {b : Nat} {bi : BI} (hb : β b = some bi) {o o' : Obj} (ho : OR β bi o o') (hw : wr o = true) (hc : ∀ c e fz, o ≠ .cells c e fz) :
    Sim P B w0 β (setObj b o) (setObj bi.r o') (fun _ _ _ => True) := by
  intro β1 σ w hle hR u σ' hu
  have hb1 := hle _ _ hb
  simp only [setObj, Sem.run] at hu ⊢
  cases hσ : σ.heap[b]? with
  | none => simp [hσ] at hu
  | some o1 =>
    rw [hσ] at hu
    have hlive : wr o1 = true ∧ σ' = Ideal.putObj σ b o := by
      cases o1 <;> simp at hu <;> exact ⟨rfl, hu.symm⟩
    obtain ⟨hw1, rfl⟩ := hlive
    obtain ⟨o2, ho2, hor2⟩ := hR.obj _ _ _ hσ hb1 (live_of_wr hw1)
    refine ⟨β1, (), Ideal.putObj w bi.r o', .refl _, ?_, hR.putObj hb1 hσ hw1 (ho.mono hle) hw (fun c e fz h => absurd h (hc c e fz)), trivial⟩
    rw [ho2]
    cases hor2 with
    | cells => simp at hu
    | _ => rfl

theorem sim_keyThatStays (k : Value) (hk : keyFit k = true) : Sim P B w0 β (Instr.keyThatStays k k) (Instr.keyThatStays k k) (fun _ x y => x = k ∧ y = k) := by
  obtain ⟨a, b, rfl⟩ := keyFit_int hk
  unfold Instr.keyThatStays
  rw [if_pos (by simp [Instr.sameBits])]
  exact Sim.pure fun _ _ => ⟨rfl, rfl⟩

theorem sim_mapUpdate {t : TypeId} (hkt : keyTy P t = true) {m m' k k' v v' : Value} (hm : VR β m m') (hk : VR β k k') (hkf : keyFit k = true) (hv : VR β v v') :
    Sim P B w0 β (Instr.mapUpdate t m k v) (Instr.mapUpdate t m' k' v') (fun _ _ _ => True) := by
  obtain ⟨kt, et, hu, hki⟩ := keyTy_spec hkt
  have hkk : k = k' := by
    obtain ⟨a, b, rfl⟩ := keyFit_int hkf
    cases hk; rfl
  subst hkk
  unfold Instr.mapUpdate
  refine Sim.under fun d hd => ?_
  rw [hu] at hd
  simp only [Option.some.injEq] at hd
  subst hd
  dsimp only
  cases hm with
  | nilMap => exact Sim.never (never_runtimePanic _)
  | map hb =>
    dsimp only
    refine sim_getMap hb fun β1 es es' c hle he => ?_
    refine Sim.bind (Sim.of_still (still_checkKey hki _ _ _ hkf) (D := fun _ x y => x = y) (fun _ _ => rfl)) fun β2 _ _ hle2 _ => ?_
    refine Sim.bind (sim_findKey hki hkf (he.mono hle2)) fun β3 r r' hle3 hr => ?_
    obtain ⟨hr, hkeys⟩ := hr
    have hle03 := (hle.trans hle2).trans hle3
    cases r with
    | none =>
      cases r' with
      | some _ => exact hr.elim
      | none =>
        refine sim_setObj (hle03 _ _ hb) ?_ rfl (fun _ _ _ h => by cases h)
        have := ((he.mono hle2).mono hle3).push (v := { key := k, val := v, born := c }) (v' := { key := k, val := v', born := c }) ⟨⟨rfl, hkf⟩, hv.mono hle03, rfl⟩
        exact .map this.1 this.2
    | some p =>
      cases r' with
      | none => exact hr.elim
      | some p' =>
        obtain ⟨i, x⟩ := p
        obtain ⟨j, x'⟩ := p'
        obtain ⟨rfl, hx⟩ := hr
        obtain ⟨e, e', g1, g2, g3, g4⟩ := hkeys i x rfl
        dsimp only
        rw [g1, g2]
        simp only [Option.map_some, Option.getD_some]
        rw [g3, g4]
        refine Sim.bind (sim_keyThatStays k hkf) fun β4 y y' hle4 hy => ?_
        rw [hy.1, hy.2]
        refine sim_setObj ((hle03.trans hle4) _ _ hb) ?_ rfl (fun _ _ _ h => by cases h)
        have := (((he.mono hle2).mono hle3).mono hle4).modify i (f := fun e => { e with key := k, val := v }) (f' := fun e => { e with key := k, val := v' })
          (fun x x' hx => ⟨⟨rfl, hkf⟩, (hv.mono hle03).mono hle4, hx.born⟩)
        exact .map this.1 this.2
  | _ => exact Sim.stuck

theorem sim_delete {at_ : Array TypeId} {t ty : TypeId} (ht : at_[0]? = some t) (hkt : keyTy P t = true) {args args' : Array Value} {k : Value} (hk : args[1]? = some k) (hkf : keyFit k = true) (ha : AR β args args') :
    Sim P B w0 β (Builtin.delete_ at_ ty args) (Builtin.delete_ at_ ty args') VR := by
  obtain ⟨kt, et, hu, hki⟩ := keyTy_spec hkt
  obtain ⟨k', hk', hkr⟩ := ha.get hk
  have hkk : k = k' := by
    obtain ⟨a, b, rfl⟩ := keyFit_int hkf
    cases hkr; rfl
  subst hkk
  unfold Builtin.delete_
  rw [ht, hk, hk']
  cases hm0 : args[0]? with
  | none => exact Sim.stuck
  | some m =>
    obtain ⟨m', hm', hm⟩ := ha.get hm0
    rw [hm']
    dsimp only
    refine Sim.under fun d hd => ?_
    rw [hu] at hd
    simp only [Option.some.injEq] at hd
    subst hd
    dsimp only
    cases hm with
    | nilMap => exact Sim.bind (Sim.of_still (still_checkKey hki _ _ _ hkf) (D := fun _ x y => x = y) (fun _ _ => rfl)) fun β2 _ _ hle2 _ => Sim.pure fun β3 _ => undefVR β3
    | map hb =>
      refine sim_getMap hb fun β1 es es' c hle he => ?_
      have hemp : es.isEmpty = es'.isEmpty := by simp [Array.isEmpty, he.1]
      rw [← hemp]
      refine Sim.bind (Sim.of_still (still_checkKey hki _ _ _ hkf) (D := fun _ x y => x = y) (fun _ _ => rfl)) fun β2 _ _ hle2 _ => ?_
      refine Sim.bind (sim_findKey hki hkf (he.mono hle2)) fun β3 r r' hle3 hr => ?_
      obtain ⟨hr, _⟩ := hr
      have hle03 := (hle.trans hle2).trans hle3
      have he3 := (he.mono hle2).mono hle3
      cases r with
      | none =>
        cases r' with
        | some _ => exact hr.elim
        | none => exact Sim.bind (sim_setObj (hle03 _ _ hb) (.map he3.1 he3.2) rfl (fun _ _ _ h => by cases h)) fun β4 _ _ _ _ => Sim.pure fun β5 _ => undefVR β5
      | some p =>
        cases r' with
        | none => exact hr.elim
        | some p' =>
          obtain ⟨i, x⟩ := p
          obtain ⟨j, x'⟩ := p'
          obtain ⟨rfl, hx⟩ := hr
          have := he3.erase i
          exact Sim.bind (sim_setObj (hle03 _ _ hb) (.map this.1 this.2) rfl (fun _ _ _ h => by cases h)) fun β4 _ _ _ _ => Sim.pure fun β5 _ => undefVR β5
    | _ => exact Sim.stuck

theorem sim_len {at_ : Array TypeId} {ty : TypeId} {args args' : Array Value} (ha : AR β args args') : Sim P B w0 β (Builtin.len_ at_ ty args) (Builtin.len_ at_ ty args') VR := by
  unfold Builtin.len_
  cases ht : at_[0]? with
  | none => exact Sim.stuck
  | some t =>
    cases hx : args[0]? with
    | none => exact Sim.stuck
    | some x =>
      obtain ⟨x', hx', hxr⟩ := ha.get hx
      rw [hx']
      dsimp only
      refine Sim.under fun d hd => ?_
      cases d with
      | string => cases hxr <;> first | exact Sim.stuck | exact Sim.pure fun _ _ => .int _ _
      | array n e => exact Sim.pure fun _ _ => .int _ _
      | pointer e =>
        refine Sim.under fun d2 hd2 => ?_
        cases d2 <;> first | exact Sim.stuck | exact Sim.pure fun _ _ => .int _ _
      | slice e => cases hxr <;> first | exact Sim.stuck | exact Sim.pure fun _ _ => .int _ _
      | map k e =>
        cases hxr with
        | nilMap => exact Sim.pure fun _ _ => .int _ _
        | map hb =>
          refine sim_getMap hb fun β1 es es' c hle he => ?_
          rw [he.1]
          exact Sim.pure fun _ _ => .int _ _
        | _ => exact Sim.stuck
      | chan c e =>
        cases hxr with
        | @tok b bi _ e hv =>
          intro β1 σ w hle hR u σ' hu
          exfalso
          simp only [Sem.run_bind, getObj, Sem.run] at hu
          cases ho : σ.heap[b]? with
          | none => simp [ho, Result.andThen] at hu
          | some o =>
            rw [ho] at hu
            cases o with
            | chan =>
              obtain ⟨o', _, hor⟩ := hR.obj _ _ _ ho (hle _ _ e) rfl
              cases hor
            | _ => simp [Result.andThen, Go.stuck, Sem.run] at hu
        | _ => exact Sim.stuck
      | _ => exact Sim.stuck

theorem sim_makeMap (t : TypeId) : Sim P B w0 β (Instr.makeMap t none) (Instr.makeMap t none) VR := by
  intro β1 σ w hle hR u σ' hu
  have hu' : Result.ok (Value.map (some σ.heap.size)) (σ.alloc (.map #[] 0)) = .ok u σ' := hu
  simp only [Result.ok.injEq] at hu'
  obtain ⟨rfl, rfl⟩ := hu'
  refine ⟨_, .map (some w.heap.size), w.alloc (.map #[] 0), Beta.le_put (bi := ⟨w.heap.size, 0, 0, 0, 0⟩) hR.fresh, rfl,
    hR.alloc (.map rfl fun i x x' e => by simp at e) (fun c e fz h => by cases h) rfl, ?_⟩
  exact .map (bi := ⟨w.heap.size, 0, 0, 0, 0⟩) (by unfold Beta.put; rw [if_pos rfl])
end
end Go.Ideal
