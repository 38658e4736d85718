/-
  Regions that draw their order: what is pending.
-/
import Derived.Test.YtplcocifndpplaaIy
namespace Go.Ideal
open Go

/-- An operation that the ideal run has gone by and the real one has not: where it stood, what it came to. -/
structure Item where
  i : Nat
  o : Oper
  A : Act
  v : Value

section
variable {P : Program} {B : Nat} {w0 : Base} {ops : Array Oper}

/-- Activations that are alike but for some slots. -/
structure ActX (D : List Tmp) (β : Beta) (a a' : Act) : Prop where
  size : a.tmps.size = a'.tmps.size
  tmps : ∀ t, t ∉ D → ∀ v v', a.tmps[t]? = some v → a'.tmps[t]? = some v' → VR β v v'
  defers : DR β a.defers a'.defers

theorem ActX.mono {D : List Tmp} {β β' : Beta} (h : β.le β') {a a' : Act} (ha : ActX D β a a') : ActX D β' a a' := ⟨ha.size, fun t ht v v' e e' => (ha.tmps t ht v v' e e').mono h, ha.defers.mono h⟩
theorem ActX.slots {D : List Tmp} {β : Beta} {a a' : Act} (h : ActX D β a a') {l : List Tmp} (hl : ∀ t ∈ l, t ∉ D) : Slots β l a a' := ⟨h.size, fun t ht v v' e e' => h.tmps t (hl t ht) v v' e e'⟩
theorem ActX.whole {β : Beta} {a a' : Act} (h : ActX [] β a a') : ActR β a a' := ⟨⟨h.size, fun t v v' e e' => h.tmps t (by simp) v v' e e'⟩, h.defers⟩
theorem ActX.of {β : Beta} {a a' : Act} (h : ActR β a a') : ActX [] β a a' := ⟨h.tmps.1, fun t _ v v' e e' => h.tmps.2 t v v' e e', h.defers⟩
theorem put_defers' (a : Act) (d : Option Tmp) (v : Value) : (a.put d v).defers = a.defers := by cases d <;> rfl

/-- Were the pending ones run now, in the plan's order, the two activations were alike, but for the slots of what came ahead of its time. -/
def RunP (D : List Tmp) (ops : Array Oper) : List Item → Beta → Act → Act → Prop
  | [], β, aR, aI => ActX D β aI aR
  | it :: ps, β, aR, aI => Slots β (it.o.looksAt ops) it.A aR ∧ ∀ β2 v', β.le β2 → VR β2 it.v v' → RunP D ops ps β2 (aR.put it.o.dst v') aI

def Has (β : Beta) (ps : List Item) : Prop := ∀ it ∈ ps, ∃ v', VR β it.v v'
theorem Has.mono {β β' : Beta} (h : β.le β') {ps : List Item} (hp : Has β ps) : Has β' ps := fun it hi => let ⟨v', hv⟩ := hp it hi; ⟨v', hv.mono h⟩

theorem RunP.mono {D : List Tmp} {β β' : Beta} (h : β.le β') : ∀ {ps : List Item} {aR aI : Act}, RunP D ops ps β aR aI → RunP D ops ps β' aR aI
  | [], _, _, hp => ActX.mono h hp
  | _ :: _, _, _, hp => ⟨hp.1.mono h, fun β2 v' h2 hv => hp.2 β2 v' (h.trans h2) hv⟩

/-- Some activation stands for the real one run to the end. -/
theorem RunP.virtual {D : List Tmp} {β : Beta} : ∀ {ps : List Item} {aR aI : Act}, Has β ps → RunP D ops ps β aR aI → ∃ aV, ActX D β aI aV
  | [], aR, _, _, hp => ⟨aR, hp⟩
  | it :: ps, aR, aI, hh, hp => by
    obtain ⟨v', hv⟩ := hh it (by simp)
    exact RunP.virtual (fun x hx => hh x (by simp [hx])) (hp.2 β v' (.refl _) hv)

theorem put_get_ne (a : Act) {d : Option Tmp} {t : Tmp} (v : Value) (h : d ≠ some t) : (a.put d v).tmps[t]? = a.tmps[t]? := by
  cases d with
  | none => rfl
  | some d =>
    have hne : d ≠ t := fun e => h (e ▸ rfl)
    simp [Act.put, Array.getElem?_setIfInBounds_ne hne]

theorem put_size (a : Act) (d : Option Tmp) (v : Value) : (a.put d v).tmps.size = a.tmps.size := by
  cases d <;> simp [Act.put]

theorem Slots.of_put {β : Beta} {l : List Tmp} {a a' : Act} {d : Option Tmp} {v : Value} (hd : ∀ x, d = some x → x ∉ l) (h : Slots β l a (a'.put d v)) : Slots β l a a' :=
  ⟨by rw [h.1, put_size], fun t ht u u' e e' => h.2 t ht u u' e (by rw [put_get_ne _ _ (fun hh => hd t hh ht)]; exact e')⟩

theorem Slots.to_put {β : Beta} {l : List Tmp} {a a' : Act} {d : Option Tmp} {v : Value} (hd : ∀ x, d = some x → x ∉ l) (h : Slots β l a a') : Slots β l a (a'.put d v) :=
  ⟨by rw [put_size, h.1], fun t ht u u' e e' => h.2 t ht u u' e (by rw [put_get_ne _ _ (fun hh => hd t hh ht)] at e'; exact e')⟩

theorem ActX.put {D : List Tmp} {β : Beta} {a a' : Act} (h : ActX D β a a') (d : Option Tmp) {v v' : Value} (hv : VR β v v') : ActX D β (a.put d v) (a'.put d v') := by
  cases d with
  | none => exact h
  | some d =>
    refine ⟨by rw [put_size, put_size, h.size], fun t ht u u' e e' => ?_, h.defers⟩
    simp only [Act.put, Array.getElem?_setIfInBounds] at e e'
    rw [h.size] at e
    split at e
    · split at e
      · rename_i h1 h2
        rw [if_pos h1, if_pos h2] at e'
        simp only [Option.some.injEq] at e e'
        subst e; subst e'; exact hv
      · cases e
    · rename_i h1
      rw [if_neg h1] at e'
      exact h.tmps t ht u u' e e'

/-- Slots that nothing pending writes. -/
theorem RunP.slots {D : List Tmp} {β : Beta} {l : List Tmp} (hD : ∀ t ∈ l, t ∉ D) : ∀ {ps : List Item} {aR aI : Act}, Has β ps → RunP D ops ps β aR aI → (∀ it ∈ ps, ∀ x, it.o.dst = some x → x ∉ l) → Slots β l aI aR
  | [], _, _, _, hp, _ => ActX.slots hp hD
  | it :: ps, aR, aI, hh, hp, hd => by
    obtain ⟨v', hv⟩ := hh it (by simp)
    exact Slots.of_put (hd it (by simp)) (RunP.slots hD (fun x hx => hh x (by simp [hx])) (hp.2 β v' (.refl _) hv) (fun x hx => hd x (by simp [hx])))

theorem RunP.size {D : List Tmp} {β : Beta} : ∀ {ps : List Item} {aR aI : Act}, Has β ps → RunP D ops ps β aR aI → aI.tmps.size = aR.tmps.size ∧ ∀ it ∈ ps, it.A.tmps.size = aR.tmps.size
  | [], _, _, _, hp => ⟨ActX.size hp, fun it hi => by cases hi⟩
  | it :: ps, aR, aI, hh, hp => by
    obtain ⟨v', hv⟩ := hh it (by simp)
    have h := RunP.size (fun x hx => hh x (by simp [hx])) (hp.2 β v' (.refl _) hv)
    rw [put_size] at h
    refine ⟨h.1, fun x hx => ?_⟩
    rcases List.mem_cons.1 hx with rfl | hx
    · exact hp.1.1
    · exact h.2 x hx

/-- One more pends. -/
theorem RunP.push {D : List Tmp} {i : Nat} {o : Oper} {v : Value} (hD : ∀ t ∈ o.looksAt ops, t ∉ D) : ∀ {ps : List Item} {β : Beta} {aR aI : Act}, RunP D ops ps β aR aI → RunP D ops (ps ++ [⟨i, o, aI, v⟩]) β aR (aI.put o.dst v)
  | [], β, aR, aI, hp => ⟨ActX.slots hp hD, fun β2 v' hle hv => (ActX.mono hle hp).put _ hv⟩
  | it :: ps, β, aR, aI, hp => ⟨hp.1, fun β2 v' hle hv => RunP.push hD (hp.2 β2 v' hle hv)⟩

/-- One that pends is run. -/
theorem RunP.take {D : List Tmp} {it : Item} {ps2 : List Item} : ∀ {ps1 : List Item} {β : Beta} {aR aI : Act}, Has β (ps1 ++ it :: ps2) → (∀ p ∈ ps1, p.o.apart ops it.o = true) → RunP D ops (ps1 ++ it :: ps2) β aR aI →
    Slots β (it.o.looksAt ops) it.A aR ∧ ∀ β2 v', β.le β2 → VR β2 it.v v' → RunP D ops (ps1 ++ ps2) β2 (aR.put it.o.dst v') aI
  | [], β, aR, aI, _, _, hp => ⟨hp.1, fun β2 v' hle hv => hp.2 β2 v' hle hv⟩
  | p :: ps1, β, aR, aI, hh, ha, hp => by
    obtain ⟨h1, h2, h3⟩ := Oper.apart_spec (ha p (by simp))
    have hh' : Has β (ps1 ++ it :: ps2) := fun x hx => hh x (List.mem_cons_of_mem _ hx)
    have ha' : ∀ q ∈ ps1, q.o.apart ops it.o = true := fun q hq => ha q (by simp [hq])
    obtain ⟨vp, hvp⟩ := hh p (by simp)
    refine ⟨Slots.of_put h1 (RunP.take hh' ha' (hp.2 β vp (.refl _) hvp)).1, fun β2 v' hle hv => ⟨(hp.1.mono hle).to_put h3, fun β3 up hle3 hup => ?_⟩⟩
    have := (RunP.take (hh'.mono (hle.trans hle3)) ha' (hp.2 β3 up (hle.trans hle3) hup)).2 β3 v' (.refl _) (hv.mono hle3)
    rw [Act.put_comm _ _ _ (fun d hd hd' => h2 d hd' hd)]
    exact this

/-- One that acts is run. -/
theorem RunP.act {D : List Tmp} {d : Option Tmp} {v v' : Value} : ∀ {ps : List Item} {β : Beta} {aR aI : Act}, (∀ p ∈ ps, (∀ x, d = some x → x ∉ p.o.looksAt ops) ∧ ∀ x, d = some x → p.o.dst ≠ some x) → VR β v v' → RunP D ops ps β aR aI →
    RunP D ops ps β (aR.put d v') (aI.put d v)
  | [], β, aR, aI, _, hv, hp => ActX.put hp d hv
  | p :: ps, β, aR, aI, ha, hv, hp => by
    obtain ⟨h1, h2⟩ := ha p (by simp)
    refine ⟨hp.1.to_put h1, fun β2 up hle hup => ?_⟩
    rw [Act.put_comm _ _ _ h2]
    exact RunP.act (fun q hq => ha q (by simp [hq])) (hv.mono hle) (hp.2 β2 up hle hup)

/-- One that came ahead of its time: fewer slots are told apart. -/
theorem RunP.fewer {D D' : List Tmp} {d : Option Tmp} {v v' : Value} (hD : ∀ t, t ∈ D → t ∈ D' ∨ d = some t) : ∀ {ps : List Item} {β : Beta} {aR aI : Act}, (∀ x, d = some x → x < aR.tmps.size → aR.tmps[x]? = some v') →
    (∀ p ∈ ps, ∀ x, d = some x → p.o.dst ≠ some x) → VR β v v' → RunP D ops ps β aR aI → RunP D' ops ps β aR (aI.put d v)
  | [], β, aR, aI, hs, _, hv, hp => by
    have hp : ActX D β aI aR := hp
    refine ⟨by rw [put_size]; exact hp.size, fun t ht u u' e e' => ?_, by rw [put_defers']; exact hp.defers⟩
    by_cases hd : d = some t
    · subst hd
      have hlt : t < aR.tmps.size := (Array.getElem?_eq_some_iff.1 e').1
      rw [hs t rfl hlt] at e'
      simp only [Act.put, Array.getElem?_setIfInBounds, if_true] at e
      rw [if_pos (by rw [hp.size]; exact hlt)] at e
      simp only [Option.some.injEq] at e e'
      subst e; subst e'; exact hv
    · rw [put_get_ne _ _ hd] at e
      exact hp.tmps t (fun hm => (hD t hm).elim ht hd) u u' e e'
  | p :: ps, β, aR, aI, hs, ha, hv, hp => ⟨hp.1, fun β2 up hle hup => RunP.fewer hD (fun x hx hlt => by
      rw [put_get_ne _ _ (ha p (by simp) x hx)]; exact hs x hx (by rw [put_size] at hlt; exact hlt)) (fun q hq => ha q (by simp [hq])) (hv.mono hle) (hp.2 β2 up hle hup)⟩

/-- One more came ahead of its time. -/
theorem RunP.more {D D' : List Tmp} {d : Option Tmp} {v' : Value} (hD : ∀ t, t ∈ D → t ∈ D') (hd : ∀ t, d = some t → t ∈ D') : ∀ {ps : List Item} {β : Beta} {aR aI : Act},
    (∀ p ∈ ps, (∀ x, d = some x → x ∉ p.o.looksAt ops) ∧ ∀ x, d = some x → p.o.dst ≠ some x) → RunP D ops ps β aR aI → RunP D' ops ps β (aR.put d v') aI
  | [], β, aR, aI, _, hp => by
    have hp : ActX D β aI aR := hp
    refine ⟨by rw [put_size]; exact hp.size, fun t ht u u' e e' => ?_, by rw [put_defers']; exact hp.defers⟩
    rw [put_get_ne _ _ (fun hh => ht (hd t hh))] at e'
    exact hp.tmps t (fun hm => ht (hD t hm)) u u' e e'
  | p :: ps, β, aR, aI, ha, hp => by
    obtain ⟨h1, h2⟩ := ha p (by simp)
    refine ⟨hp.1.to_put h1, fun β2 up hle hup => ?_⟩
    rw [Act.put_comm _ _ _ h2]
    exact RunP.more hD hd (fun q hq => ha q (by simp [hq])) (hp.2 β2 up hle hup)

/-- What it came to it comes to again. -/
def Val (P : Program) (ops : Array Oper) (σ : World) (it : Item) : Prop :=
  (Region.wanted it.o (yielded ops it.A.tmps) = true ∧ ((reads it.o.op = true ∧ istep P it.A.eval it.o σ = .ret (.value it.v, σ)) ∨ (reads it.o.op = false ∧ ∃ σ0, istep P it.A.eval it.o σ0 = .ret (.value it.v, σ0)))) ∨
  (Region.wanted it.o (yielded ops it.A.tmps) = false ∧ it.v = undef)

structure ItemOK (P : Program) (ops : Array Oper) (done : List Nat) (σ : World) (β : Beta) (aI : Act) (it : Item) : Prop where
  op : ops[it.i]? = some it.o
  still : acts it.o.op = false
  val : Val P ops σ it
  keeps : ∀ t, (∀ j ∈ done.takeWhile (· != it.i), (ops.getD j default).dst ≠ some t) → (it.A.put it.o.dst it.v).tmps[t]? = aI.tmps[t]?
  has : ∃ v', VR β it.v v'

/-- An operation that the real run has done and the ideal one has not: where it stands, what the real one handed back and where it lies. -/
structure AItem where
  j : Nat
  o : Oper
  A : Act
  v : Value
  r : Nat

structure AOK (P : Program) (B : Nat) (w0 : Base) (ops : Array Oper) (done : List Nat) (L : Array Bool) (β : Beta) (aI aR : Act) (x : AItem) : Prop where
  op : ops[x.j]? = some x.o
  late : lateOk ops (waitsFor ops) x.j x.o = true
  fresh : x.j ∉ done
  on : L.getD x.j false = true
  look : ∀ t ∈ x.o.looksAt ops, x.A.tmps[t]? = aI.tmps[t]?
  slot : ∀ d, x.o.dst = some d → d < aR.tmps.size → aR.tmps[d]? = some x.v
  waits : ∀ q, ((waitsFor ops).getD x.j 0).testBit q = true → L.getD q false = true
  res : (Region.wanted x.o (yielded ops x.A.tmps) = false ∧ x.v = undef) ∨
    (Region.wanted x.o (yielded ops x.A.tmps) = true ∧ w0.S x.r ∧ B ≤ x.r ∧ ∃ cs cs' e sh, freshObj P x.o.op x.A.eval = some (cs, e, sh) ∧ lateFit P x.o.op = true ∧ x.v = sh x.r ∧ w0.o x.r = some (.cells cs' e) ∧ AR β cs cs')

def slotsOf (as : List AItem) : List Tmp := as.filterMap (·.o.dst)

structure Inv (P : Program) (B : Nat) (w0 : Base) (ops : Array Oper) (done : List Nat) (L : Array Bool) (ps : List Item) (as : List AItem) (β : Beta) (σ w : World) (aI aR : Act) : Prop where
  rel : R P B w0 β σ w
  size : L.size = ops.size
  item : ∀ it ∈ ps, ItemOK P ops done σ β aI it
  run : RunP (slotsOf as) ops ps β aR aI
  pair : ps.Pairwise fun p q => ((waitsFor ops).getD q.i 0).testBit p.i = true ∨ p.o.apart ops q.o = true
  nodup : (ps.map (·.i)).Nodup
  off : ∀ it ∈ ps, L.getD it.i false = false
  mem : ∀ i, (i ∈ done ∨ ∃ x ∈ as, x.j = i) ↔ (L.getD i false = true ∨ ∃ it ∈ ps, it.i = i)
  down : ∀ i o, L.getD i false = true → ops[i]? = some o → ∀ e ∈ o.after, Region.binds .any e = true → L.getD e.on false = true
  ahead : ∀ x ∈ as, AOK P B w0 ops done L β aI aR x
  once : as.Pairwise fun x y => x.j ≠ y.j ∧ ∀ r, Region.wanted x.o (yielded ops x.A.tmps) = true → Region.wanted y.o (yielded ops y.A.tmps) = true → x.r = r → y.r ≠ r
  apartA : as.Pairwise fun x y => ∀ d, x.o.dst = some d → y.o.dst ≠ some d

/-! ### What a plan that may be gone by promises -/
structure Step (ops : Array Oper) (i : Nat) (re : List Nat) (rest : Plan) (done acted : List Nat) (o : Oper) : Prop where
  op : ops[i]? = some o
  fresh : i ∉ done
  after : ∀ e ∈ o.after, Region.binds .any e = true → e.on < i ∧ e.on ∈ done
  line : (∀ j ∈ acted, ((waitsFor ops).getD i 0).testBit j = true) ∨ lateOk ops (waitsFor ops) i o = true
  apart : ∀ r ∈ done, ((waitsFor ops).getD i 0).testBit r = true ∨ (ops.getD r default).apart ops o = true
  again : acts o.op = true → ∀ r ∈ done, ((waitsFor ops).getD i 0).testBit r = true ∨ reads (ops.getD r default).op = false ∨
    (r ∈ re ∧ (∀ d, (ops.getD r default).dst = some d → d ∉ (ops.getD r default).looksAt ops) ∧
      ∀ j ∈ i :: done.takeWhile (· != r), ∀ d, (ops.getD j default).dst = some d → (ops.getD r default).dst ≠ some d ∧ d ∉ (ops.getD r default).looksAt ops)
  rest : planOk.go ops (waitsFor ops) rest (i :: done) (if acts o.op then i :: acted else acted) = true

theorem planOk_step {i : Nat} {re : List Nat} {rest : Plan} {done acted : List Nat} (h : planOk.go ops (waitsFor ops) ((i, re) :: rest) done acted = true) :
    ∃ o, Step ops i re rest done acted o := by
  unfold planOk.go at h
  cases ho : ops[i]? with
  | none => rw [ho] at h; cases h
  | some o =>
    rw [ho] at h
    simp only [Bool.and_eq_true] at h
    obtain ⟨⟨⟨⟨⟨h1, h2⟩, h3⟩, h4⟩, h5⟩, h6⟩ := h
    refine ⟨o, ho, by simpa using h1, fun e he hb => ?_, ?_, fun r hr => ?_, fun ha r hr => ?_, h6⟩
    · rw [Array.all_eq_true_iff_forall_mem] at h2
      simpa [hb] using h2 e he
    · simp only [Bool.or_eq_true] at h3
      exact h3.imp (fun h3 j hj => List.all_eq_true.1 h3 j hj) id
    · simpa [Bool.or_eq_true] using List.all_eq_true.1 h4 r hr
    · rw [ha] at h5
      simp only [Bool.not_true, Bool.false_or] at h5
      have := List.all_eq_true.1 h5 r hr
      simp only [Bool.or_eq_true, Bool.and_eq_true, Bool.not_eq_true'] at this
      rcases this with (h | h) | ⟨⟨g1, g2⟩, g3⟩
      · exact .inl h
      · exact .inr (.inl h)
      · refine .inr (.inr ⟨by simpa using g1, fun d hd => by rw [hd] at g2; simpa using g2, fun j hj d hd => ?_⟩)
        have := List.all_eq_true.1 g3 j hj
        rw [hd] at this
        simp only [Option.all_some, Bool.not_eq_true', List.contains_eq_mem, List.mem_append, decide_eq_false_iff_not, not_or] at this
        refine ⟨fun e => this.1 ?_, this.2⟩
        rw [e]; simp

theorem planOk_mem : ∀ {p : Plan} {done acted : List Nat}, planOk.go ops (waitsFor ops) p done acted = true → ∀ j, j < ops.size → j ∉ done → j ∈ p.map (·.1)
  | [], done, acted, h, j, hj, hd => by
    unfold planOk.go at h
    have := List.all_eq_true.1 h j (by simpa using hj)
    simp at this
    exact absurd this hd
  | (i, re) :: p, done, acted, h, j, hj, hd => by
    obtain ⟨o, hs⟩ := planOk_step h
    by_cases e : j = i
    · simp [e]
    · simp only [List.map_cons, List.mem_cons]
      exact .inr (planOk_mem hs.rest j hj (by simp [e, hd]))

theorem planOk_waits : ∀ {p : Plan} {done acted : List Nat}, planOk.go ops (waitsFor ops) p done acted = true → ∀ h ∈ acted, ∀ j ∈ p.map (·.1), ((waitsFor ops).getD j 0).testBit h = true ∨ lateOk ops (waitsFor ops) j (ops.getD j default) = true
  | [], _, _, _, _, _, j, hj => by simp at hj
  | (i, re) :: p, done, acted, hp, h, hh, j, hj => by
    obtain ⟨o, hs⟩ := planOk_step hp
    simp only [List.map_cons, List.mem_cons] at hj
    rcases hj with rfl | hj
    · rcases hs.line with g | g
      · exact .inl (g h hh)
      · refine .inr ?_
        rw [Array.getD_eq_getD_getElem?, hs.op]; exact g
    · exact planOk_waits hs.rest h (by split <;> simp [hh]) j hj

/-- What comes later in the plan waits for what came, or is apart from it. -/
theorem planOk_apart : ∀ {p : Plan} {done acted : List Nat}, planOk.go ops (waitsFor ops) p done acted = true → ∀ h ∈ done, ∀ j ∈ p.map (·.1), ((waitsFor ops).getD j 0).testBit h = true ∨ (ops.getD h default).apart ops (ops.getD j default) = true
  | [], _, _, _, _, _, j, hj => by simp at hj
  | (i, re) :: p, done, acted, hp, h, hh, j, hj => by
    obtain ⟨o, hs⟩ := planOk_step hp
    simp only [List.map_cons, List.mem_cons] at hj
    rcases hj with rfl | hj
    · rcases hs.apart h hh with g | g
      · exact .inl g
      · refine .inr ?_
        rw [Array.getD_eq_getD_getElem? (xs := ops) (i := j), hs.op]; exact g
    · exact planOk_apart hs.rest h (by simp [hh]) j hj

/-- Two of a plan: one waits for the other, or they are apart. -/
theorem planOk_two : ∀ {p : Plan} {done acted : List Nat}, planOk.go ops (waitsFor ops) p done acted = true → ∀ h ∈ p.map (·.1), ∀ j ∈ p.map (·.1), h ≠ j →
    ((waitsFor ops).getD j 0).testBit h = true ∨ ((waitsFor ops).getD h 0).testBit j = true ∨ (ops.getD h default).apart ops (ops.getD j default) = true ∨ (ops.getD j default).apart ops (ops.getD h default) = true
  | [], _, _, _, _, hh, _, _, _ => by simp at hh
  | (i, re) :: p, done, acted, hp, h, hh, j, hj, hne => by
    obtain ⟨o, hs⟩ := planOk_step hp
    simp only [List.map_cons, List.mem_cons] at hh hj
    rcases hh with rfl | hh <;> rcases hj with rfl | hj
    · exact absurd rfl hne
    · exact (planOk_apart hs.rest h (by simp) j hj).imp id fun g => .inr (.inl g)
    · exact .inr ((planOk_apart hs.rest j (by simp) h hh).imp id .inr)
    · exact planOk_two hs.rest h hh j hj hne

theorem planOk_back : ∀ {p : Plan} {done acted : List Nat}, planOk.go ops (waitsFor ops) p done acted = true → ∀ j ∈ p.map (·.1), ∀ o, ops[j]? = some o → ∀ e ∈ o.after, Region.binds .any e = true → e.on < j
  | [], _, _, _, j, hj => by simp at hj
  | (i, re) :: p, done, acted, hp, j, hj => by
    obtain ⟨o, hs⟩ := planOk_step hp
    simp only [List.map_cons, List.mem_cons] at hj
    rcases hj with rfl | hj
    · intro o' ho' e he hb
      rw [hs.op] at ho'
      simp only [Option.some.injEq] at ho'
      subst ho'
      exact (hs.after e he hb).1
    · exact planOk_back hs.rest j hj
end
end Go.Ideal
