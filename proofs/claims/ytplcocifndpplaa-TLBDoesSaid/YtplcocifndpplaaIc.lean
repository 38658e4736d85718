/-
  More of the relation: objects put anew, blocks outgrown; programs of one operation side by side.
-/
import Derived.Test.YtplcocifndpplaaIb
namespace Go.Ideal
open Go
section
variable {P : Program} {B : Nat} {w0 : Base} {β : Beta} {σ w : World}

def putObj (w : World) (b : Nat) (o : Obj) : World := { w with heap := w.heap.setIfInBounds b o }

theorem putObj_heap (w : World) (b : Nat) (o : Obj) (k : Nat) (hb : b < w.heap.size) : (putObj w b o).heap[k]? = if k = b then some o else w.heap[k]? := by
  simp only [putObj, Array.getElem?_setIfInBounds]
  by_cases hk : k = b
  · subst hk; simp [hb]
  · rw [if_neg (fun e => hk e.symm), if_neg hk]

/-- An object put anew in both worlds. -/
theorem R.putObj (h : R P B w0 β σ w) {b : Nat} {bi : BI} {o1 o o' : Obj} (hb : β b = some bi) (h1 : σ.heap[b]? = some o1) (hw1 : wr o1 = true)
    (hor : OR β bi o o') (hwo : wr o = true) (he : ∀ c e fz, o = .cells c e fz → ∀ i, P.info? e = some i → i.size = bi.es) :
    R P B w0 β (Ideal.putObj σ b o) (Ideal.putObj w bi.r o') := by
  have hbs := h.dom _ _ hb
  have hbr := h.lt h1 hb (live_of_wr hw1)
  have hB := h.new _ _ _ h1 hb hw1
  have hF := h.free _ _ _ h1 hb (live_of_wr hw1)
  have hσ := fun k => putObj_heap σ b o k hbs
  have hw := fun k => putObj_heap w bi.r o' k hbr
  have hsz : (Ideal.putObj w bi.r o').heap.size = w.heap.size := by simp [Ideal.putObj]
  have hszσ : (Ideal.putObj σ b o).heap.size = σ.heap.size := by simp [Ideal.putObj]
  refine { below := ?_, held := (fun k hk => h.holds hk (by rw [hw, if_neg]; rintro rfl; exact hF hk)), free := (fun k ok bk hk hbk hl => by
             rw [hσ] at hk
             by_cases hkb : k = b
             · subst hkb; rw [hb] at hbk; simp only [Option.some.injEq] at hbk; subst hbk; exact hF
             · rw [if_neg hkb] at hk; exact h.free _ _ _ hk hbk hl), size := by rw [hsz]; exact h.size, dom := fun k bk hk => by rw [hszσ]; exact h.dom k bk hk,
           cov := fun k hk => h.cov k (by rw [hszσ] at hk; exact hk), obj := ?_, dd := ?_, esz := ?_, new := ?_, inj := ?_ }
  · refine h.below.trans ⟨rfl, rfl, rfl, by rw [hsz]; exact Nat.le_refl _, fun k hk => ?_⟩
    rw [hw, if_neg (by omega)]
  · intro k ok bk hk hbk hl
    rw [hσ] at hk
    by_cases hkb : k = b
    · subst hkb
      rw [if_pos rfl] at hk
      rw [hb] at hbk
      simp only [Option.some.injEq] at hk hbk
      subst hbk; subst hk
      exact ⟨o', by rw [hw, if_pos rfl], hor⟩
    · rw [if_neg hkb] at hk
      obtain ⟨o2, ho2, hor2⟩ := h.obj _ _ _ hk hbk hl
      refine ⟨o2, ?_, hor2⟩
      rw [hw, if_neg (fun hr => hkb (h.inj b k _ _ _ _ h1 hk hb hbk hw1 hl hr.symm).symm)]
      exact ho2
  · intro k o3 hk hl
    rw [hσ] at hk
    by_cases hkb : k = b
    · rw [if_pos hkb] at hk
      simp only [Option.some.injEq] at hk
      subst hk
      rw [live_of_wr hwo] at hl
      cases hl
    · rw [if_neg hkb] at hk
      exact h.dd _ _ hk hl
  · intro k c2 e2 fz2 bk hk hl hbk
    rw [hσ] at hk
    by_cases hkb : k = b
    · subst hkb
      rw [if_pos rfl] at hk
      rw [hb] at hbk
      simp only [Option.some.injEq] at hk hbk
      subst hbk
      exact he _ _ _ hk
    · rw [if_neg hkb] at hk
      exact h.esz _ _ _ _ _ hk hl hbk
  · intro k ok bk hk hbk hl
    rw [hσ] at hk
    by_cases hkb : k = b
    · subst hkb
      exact h.new _ _ _ h1 hbk hw1
    · rw [if_neg hkb] at hk
      exact h.new _ _ _ hk hbk hl
  · intro k1 k2 p1 p2 b1 b2 g1 g2 e1 e2 hwp hlp hr
    rw [hσ] at g1 g2
    have q1 : ∃ o, σ.heap[k1]? = some o ∧ wr o = true := by
      by_cases hk : k1 = b
      · subst hk; exact ⟨_, h1, hw1⟩
      · rw [if_neg hk] at g1; exact ⟨_, g1, hwp⟩
    have q2 : ∃ o, σ.heap[k2]? = some o ∧ live o = true := by
      by_cases hk : k2 = b
      · subst hk; exact ⟨_, h1, live_of_wr hw1⟩
      · rw [if_neg hk] at g2; exact ⟨_, g2, hlp⟩
    obtain ⟨_, s1, t1⟩ := q1
    obtain ⟨_, s2, t2⟩ := q2
    exact h.inj _ _ _ _ _ _ s1 s2 e1 e2 t1 t2 hr

/-- A block dies in the ideal world alone. -/
theorem R.kill (h : R P B w0 β σ w) {b : Nat} (hb : b < σ.heap.size) : R P B w0 β (Ideal.kill σ b) w := by
  have hσ := fun k => putObj_heap σ b dead k hb
  have hszσ : (Ideal.kill σ b).heap.size = σ.heap.size := by simp [Ideal.kill]
  change ∀ k, (Ideal.kill σ b).heap[k]? = _ at hσ
  have hd : ∀ k o, (Ideal.kill σ b).heap[k]? = some o → live o = true → k ≠ b ∧ σ.heap[k]? = some o := fun k o hk hl => by
    rw [hσ] at hk
    by_cases hkb : k = b
    · rw [if_pos hkb] at hk
      simp only [Option.some.injEq] at hk
      subst hk
      cases hl
    · rw [if_neg hkb] at hk; exact ⟨hkb, hk⟩
  refine { below := h.below, held := h.held, free := (fun k o bk hk hbk hl => h.free _ _ _ (hd _ _ hk hl).2 hbk hl), size := h.size, dom := fun k bk hk => by rw [hszσ]; exact h.dom k bk hk, cov := fun k hk => h.cov k (by rw [hszσ] at hk; exact hk),
           obj := fun k o bk hk hbk hl => h.obj _ _ _ (hd _ _ hk hl).2 hbk hl, dd := ?_, esz := fun k c e fz bk hk hl hbk => h.esz _ _ _ _ _ (hd _ _ hk hl).2 hl hbk,
           new := fun k o bk hk hbk hw => h.new _ _ _ (hd _ _ hk (live_of_wr hw)).2 hbk hw,
           inj := fun k1 k2 o1 o2 b1 b2 h1 h2 e1 e2 hw hl hr => h.inj _ _ _ _ _ _ (hd _ _ h1 (live_of_wr hw)).2 (hd _ _ h2 hl).2 e1 e2 hw hl hr }
  intro k o hk hl
  rw [hσ] at hk
  by_cases hkb : k = b
  · rw [if_pos hkb] at hk
    simpa using hk.symm
  · rw [if_neg hkb] at hk
    exact h.dd _ _ hk hl

/-- A slice grew in place: the ideal world has a new block for it and the old one dies; the real row is the old one's. -/
theorem R.regrow (h : R P B w0 β σ w) {b : Nat} {bi : BI} {c : Array Value} {e : TypeId} (hb : β b = some bi) (h1 : σ.heap[b]? = some (.cells c e (0, 0)))
    {cs c2 : Array Value} {d2 : Nat} {w' : World} (hos : w'.os = w.os) (htp : w'.tape = w.tape) (hout : w'.output = w.output) (hsz : w'.heap.size = w.heap.size)
    (hold : ∀ k, k ≠ bi.r → w'.heap[k]? = w.heap[k]?) (hrow : w'.heap[bi.r]? = some (.cells c2 e (0, 0))) (hc2 : c2.size = bi.tot) (hd2 : d2 + cs.size ≤ bi.tot)
    (hcs : ∀ (i : Nat) (v : Value), cs[i]? = some v → ∃ v', c2[d2 + i]? = some v' ∧ VR β v v') :
    R P B w0 (β.put σ.heap.size ⟨bi.r, d2, cs.size, bi.es, bi.tot⟩) (Ideal.kill (σ.alloc (.cells cs e)) b) w' := by
  have hle := Beta.le_put (bi := ⟨bi.r, d2, cs.size, bi.es, bi.tot⟩) h.fresh
  have hbs := h.dom _ _ hb
  have hB := h.new _ _ _ h1 hb rfl
  have hF := h.free _ _ _ h1 hb rfl
  have holdβ : ∀ k bk, k ≠ σ.heap.size → (β.put σ.heap.size ⟨bi.r, d2, cs.size, bi.es, bi.tot⟩) k = some bk → β k = some bk := fun k bk hk e => by
    unfold Beta.put at e; rwa [if_neg hk] at e
  have hnew : ∀ bk, (β.put σ.heap.size ⟨bi.r, d2, cs.size, bi.es, bi.tot⟩) σ.heap.size = some bk → bk = ⟨bi.r, d2, cs.size, bi.es, bi.tot⟩ := fun bk e => by
    unfold Beta.put at e; rw [if_pos rfl] at e; simpa using e.symm
  have hszσ : (Ideal.kill (σ.alloc (.cells cs e)) b).heap.size = σ.heap.size + 1 := by simp [Ideal.kill]
  have hσ := fun k => putObj_heap (σ.alloc (.cells cs e)) b dead k (by simp; omega)
  change ∀ k, (Ideal.kill (σ.alloc (.cells cs e)) b).heap[k]? = _ at hσ
  have hd : ∀ k o, (Ideal.kill (σ.alloc (.cells cs e)) b).heap[k]? = some o → live o = true → k ≠ b ∧ ((k = σ.heap.size ∧ o = .cells cs e) ∨ (k ≠ σ.heap.size ∧ σ.heap[k]? = some o)) := fun k o hk hl => by
    rw [hσ] at hk
    by_cases hkb : k = b
    · rw [if_pos hkb] at hk
      simp only [Option.some.injEq] at hk
      subst hk
      cases hl
    · rw [if_neg hkb, alloc_heap] at hk
      by_cases hks : k = σ.heap.size
      · rw [if_pos hks] at hk
        simp only [Option.some.injEq] at hk
        exact ⟨hkb, .inl ⟨hks, hk.symm⟩⟩
      · rw [if_neg hks] at hk
        exact ⟨hkb, .inr ⟨hks, hk⟩⟩
  refine { below := h.below.trans ⟨hos, htp, hout, by omega, fun k hk => hold k (by omega)⟩, held := (fun k hk => h.holds hk (hold k (by rintro rfl; exact hF hk))), free := (fun k o bk hk hbk hl => by
             obtain ⟨hkb, ⟨rfl, rfl⟩ | ⟨hks, hko⟩⟩ := hd _ _ hk hl
             · have := hnew _ hbk; subst this; exact hF
             · exact h.free _ _ _ hko (holdβ _ _ hks hbk) hl), size := by rw [hsz]; exact h.size, dom := ?_, cov := ?_, obj := ?_, dd := ?_, esz := ?_, new := ?_, inj := ?_ }
  · intro k bk hk
    rw [hszσ]
    by_cases ek : k = σ.heap.size
    · subst ek
      have := hnew _ hk
      subst this
      omega
    · have := h.dom k bk (holdβ _ _ ek hk)
      omega
  · intro k hk
    rw [hszσ] at hk
    by_cases ek : k = σ.heap.size
    · subst ek; exact ⟨_, by unfold Beta.put; rw [if_pos rfl]⟩
    · obtain ⟨bk, hbk⟩ := h.cov k (by omega)
      exact ⟨bk, hle _ _ hbk⟩
  · intro k o bk hk hbk hl
    obtain ⟨hkb, ⟨rfl, rfl⟩ | ⟨hks, hko⟩⟩ := hd _ _ hk hl
    · have := hnew _ hbk
      subst this
      exact ⟨_, hrow, .cells rfl hc2 hd2 (fun i v hv => let ⟨v', h1, h2⟩ := hcs i v hv; ⟨v', h1, h2.mono hle⟩) (.inl ⟨rfl, rfl⟩)⟩
    · have hbk' := holdβ _ _ hks hbk
      obtain ⟨o2, ho2, hor2⟩ := h.obj _ _ _ hko hbk' hl
      refine ⟨o2, ?_, hor2.mono hle⟩
      rw [hold _ (fun hr => hkb (h.inj b k _ _ _ _ h1 hko hb hbk' rfl hl hr.symm).symm)]
      exact ho2
  · intro k o3 hk hl
    rw [hσ] at hk
    by_cases hkb : k = b
    · rw [if_pos hkb] at hk
      simpa using hk.symm
    · rw [if_neg hkb, alloc_heap] at hk
      by_cases hks : k = σ.heap.size
      · rw [if_pos hks] at hk
        simp only [Option.some.injEq] at hk
        subst hk
        cases hl
      · rw [if_neg hks] at hk
        exact h.dd _ _ hk hl
  · intro k c3 e3 fz3 bk hk hl hbk
    obtain ⟨hkb, ⟨rfl, ho⟩ | ⟨hks, hko⟩⟩ := hd _ _ hk hl
    · have := hnew _ hbk
      subst this
      simp only [Obj.cells.injEq] at ho
      obtain ⟨_, rfl, _⟩ := ho
      have := h.esz _ _ _ _ _ h1 rfl hb
      exact this
    · exact h.esz _ _ _ _ _ hko hl (holdβ _ _ hks hbk)
  · intro k o bk hk hbk hw
    obtain ⟨hkb, ⟨rfl, rfl⟩ | ⟨hks, hko⟩⟩ := hd _ _ hk (live_of_wr hw)
    · have := hnew _ hbk
      subst this
      exact hB
    · exact h.new _ _ _ hko (holdβ _ _ hks hbk) hw
  · intro k1 k2 o1 o2 b1 b2 g1 g2 e1 e2 hw hl hr
    obtain ⟨hkb1, hc1⟩ := hd _ _ g1 (live_of_wr hw)
    obtain ⟨hkb2, hc2'⟩ := hd _ _ g2 hl
    rcases hc1 with ⟨hk1, ho1⟩ | ⟨hk1, ho1⟩ <;> rcases hc2' with ⟨hk2, ho2⟩ | ⟨hk2, ho2⟩
    · rw [hk1, hk2]
    · exfalso
      have hb2 := holdβ _ _ hk2 e2
      subst hk1
      have := hnew _ e1
      subst this
      exact hkb2 (h.inj b k2 _ _ _ _ h1 ho2 hb hb2 rfl hl hr).symm
    · exfalso
      have hb1 := holdβ _ _ hk1 e1
      subst hk2
      have := hnew _ e2
      subst this
      exact hkb1 (h.inj k1 b _ _ _ _ ho1 h1 hb1 hb hw rfl hr)
    · exact h.inj _ _ _ _ _ _ ho1 ho2 (holdβ _ _ hk1 e1) (holdβ _ _ hk2 e2) hw hl hr
end

/-! ### Programs side by side -/
/-- What the one comes to in the ideal world the other comes to in the real one. -/
def Sim {α α' : Type} (P : Program) (B : Nat) (w0 : Base) (β : Beta) (s : Sem α) (s' : Sem α') (A : Beta → α → α' → Prop) : Prop :=
  ∀ β1 σ w, β.le β1 → R P B w0 β1 σ w → ∀ v σ', s.run P σ = .ok v σ' →
    ∃ β2 v' w', β1.le β2 ∧ s'.run P w = .ok v' w' ∧ R P B w0 β2 σ' w' ∧ A β2 v v'

section
variable {P : Program} {B : Nat} {w0 : Base} {β : Beta} {α α' γ γ' : Type} {A : Beta → α → α' → Prop} {C : Beta → γ → γ' → Prop}

theorem Sim.pure {v : α} {v' : α'} (h : ∀ β1, β.le β1 → A β1 v v') : Sim P B w0 β (Pure.pure v) (Pure.pure v') A := by
  intro β1 σ w hle hR u σ' hu
  simp only [Sem.run_pure, Result.ok.injEq] at hu
  obtain ⟨rfl, rfl⟩ := hu
  exact ⟨β1, v', w, .refl _, by simp, hR, h _ hle⟩

theorem Sim.bind {s : Sem α} {s' : Sem α'} {k : α → Sem γ} {k' : α' → Sem γ'} (h : Sim P B w0 β s s' A)
    (hk : ∀ β1 v v', β.le β1 → A β1 v v' → Sim P B w0 β1 (k v) (k' v') C) : Sim P B w0 β (s >>= k) (s' >>= k') C := by
  intro β1 σ w hle hR u σ' hu
  rw [Sem.run_bind] at hu
  cases hs : s.run P σ with
  | halt x y => rw [hs] at hu; cases hu
  | ok v σ1 =>
    rw [hs] at hu
    obtain ⟨β2, v', w1, hle2, hs', hR1, hA⟩ := h β1 σ w hle hR v σ1 hs
    obtain ⟨β3, u', w2, hle3, hk', hR2, hC⟩ := hk β2 v v' (hle.trans hle2) hA β2 σ1 w1 (.refl _) hR1 u σ' hu
    exact ⟨β3, u', w2, hle2.trans hle3, by rw [Sem.run_bind, hs']; exact hk', hR2, hC⟩

theorem Sim.halt {x : Halt} {s' : Sem α'} : Sim P B w0 β (.halt x : Sem α) s' A := by
  intro β1 σ w hle hR u σ' hu
  simp [Sem.run] at hu

theorem Sim.stuck {x : String} {s' : Sem α'} : Sim P B w0 β (Go.stuck x : Sem α) s' A := Sim.halt

theorem Sim.unsupported {x : Unsupported} {s' : Sem α'} : Sim P B w0 β (Go.unsupported x : Sem α) s' A := Sim.halt

theorem Sim.of_ne {s : Sem α} {s' : Sem α'} (h : ∀ σ v σ', s.run P σ ≠ .ok v σ') : Sim P B w0 β s s' A :=
  fun _ σ _ _ _ v σ' hu => absurd hu (h σ v σ')

theorem Sim.mono {s : Sem α} {s' : Sem α'} {A' : Beta → α → α' → Prop} (h : Sim P B w0 β s s' A) (hA : ∀ b v v', A b v v' → A' b v v') : Sim P B w0 β s s' A' :=
  fun β1 σ w hle hR v σ' hu => let ⟨β2, v', w', h1, h2, h3, h4⟩ := h β1 σ w hle hR v σ' hu; ⟨β2, v', w', h1, h2, h3, hA _ _ _ h4⟩

theorem Sim.le {s : Sem α} {s' : Sem α'} {β0 : Beta} (h : Sim P B w0 β0 s s' A) (hle : β0.le β) : Sim P B w0 β s s' A :=
  fun β1 σ w h1 hR v σ' hu => h β1 σ w (hle.trans h1) hR v σ' hu

/-- A program that looks at the program's tables alone. -/
def Still (s : Sem α) (P : Program) : Prop := ∀ σ w v σ', s.run P σ = .ok v σ' → σ' = σ ∧ s.run P w = .ok v w

theorem Sim.of_still {s : Sem α} (h : Still s P) {D : Beta → α → α → Prop} (hD : ∀ b v, D b v v) : Sim P B w0 β s s D := by
  intro β1 σ w hle hR u σ' hu
  obtain ⟨rfl, hw⟩ := h σ w u σ' hu
  exact ⟨β1, u, w, .refl _, hw, hR, hD _ _⟩

theorem still_pure (v : α) : Still (Pure.pure v) P := fun σ w u σ' hu => by
  simp only [Sem.run_pure, Result.ok.injEq] at hu
  obtain ⟨rfl, rfl⟩ := hu
  exact ⟨rfl, by simp⟩
theorem still_bind {s : Sem α} {k : α → Sem γ} (h : Still s P) (hk : ∀ v, Still (k v) P) : Still (s >>= k) P := fun σ w u σ' hu => by
  rw [Sem.run_bind] at hu
  cases hs : s.run P σ with
  | halt x y => rw [hs] at hu; cases hu
  | ok v σ1 =>
    rw [hs] at hu
    obtain ⟨rfl, hw⟩ := h σ w v σ1 hs
    obtain ⟨rfl, hw2⟩ := hk v σ1 w u σ' hu
    exact ⟨rfl, by rw [Sem.run_bind, hw]; exact hw2⟩
theorem still_halt (x : Halt) : Still (.halt x : Sem α) P := fun σ w u σ' hu => by simp [Sem.run] at hu
theorem still_program : Still program P := fun σ w u σ' hu => by
  simp only [program, Sem.run, Result.ok.injEq] at hu ⊢
  obtain ⟨rfl, rfl⟩ := hu
  exact ⟨rfl, rfl, trivial⟩
theorem still_underlying (t : TypeId) : Still (underlying t) P := by
  unfold underlying
  refine still_bind still_program fun p => ?_
  split
  · exact still_pure _
  · exact still_halt _
theorem still_typeInfo (t : TypeId) : Still (typeInfo t) P := by
  unfold typeInfo
  refine still_bind still_program fun p => ?_
  split
  · exact still_pure _
  · exact still_halt _
theorem still_sizeOf (t : TypeId) : Still (sizeOf t) P := still_bind (still_typeInfo t) fun _ => still_pure _
theorem still_isAgg (t : TypeId) : Still (isAgg t) P := by
  unfold isAgg
  refine still_bind (still_underlying t) fun p => ?_
  split <;> exact still_pure _
theorem still_zeroValue (t : TypeId) : Still (zeroValue t) P := by
  unfold zeroValue
  refine still_bind (still_typeInfo t) fun p => ?_
  split
  · exact still_pure _
  · exact still_halt _
end
end Go.Ideal
