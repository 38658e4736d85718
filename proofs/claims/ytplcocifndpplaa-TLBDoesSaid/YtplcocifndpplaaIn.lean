/-
  The operations side by side: append.
-/
import Derived.Test.YtplcocifndpplaaIo
import Derived.Laws.CopyRow
namespace Go.Ideal
open Go
section
variable {P : Program} {B : Nat} {w0 : Base} {β : Beta}

theorem R.drew {σ w : World} (h : R P B w0 β σ w) : R P B w0 β σ w.drew :=
  { below := h.below.drew, held := h.held, free := h.free, size := h.size, dom := h.dom, cov := h.cov, obj := h.obj, dd := h.dd, esz := h.esz, new := h.new, inj := h.inj }

theorem loadCellsFrom_spec {a : Addr} : ∀ (n i : Nat) (acc : Array Value) (σ σ' : World) (c : Array Value), (loadCellsFrom a i n acc).run P σ = .ok c σ' → σ' = σ ∧ c.size = acc.size + n := by
  intro n
  induction n with
  | zero =>
    intro i acc σ σ' c h
    simp only [loadCellsFrom, Sem.run_pure, Result.ok.injEq] at h
    exact ⟨h.2.symm, by rw [← h.1]; rfl⟩
  | succ n ih =>
    intro i acc σ σ' c h
    simp only [loadCellsFrom] at h
    rw [Sem.run_bind] at h
    cases hl : (load (a.add i)).run P σ with
    | halt x y => rw [hl] at h; cases h
    | ok v σ1 =>
      rw [hl] at h
      have : σ1 = σ := by
        simp only [load, Sem.run] at hl
        split at hl
        · simp only [Result.ok.injEq] at hl; exact hl.2.symm
        · split at hl
          · simp only [Result.ok.injEq] at hl; exact hl.2.symm
          · cases hl
      subst this
      obtain ⟨h1, h2⟩ := ih _ _ _ _ _ h
      exact ⟨h1, by rw [h2]; simp; omega⟩

theorem firstCells_spec {size n : Nat} {a : Option Addr} {l c : Nat} {σ σ' : World} {cs : Array Value} (h : (Builtin.firstCells size n (.slice a l c)).run P σ = .ok cs σ') :
    σ' = σ ∧ (a.isSome = true → cs.size = n * size) ∧ (a = none → cs = #[]) := by
  cases a with
  | none =>
    simp only [Builtin.firstCells, Sem.run_pure, Result.ok.injEq] at h
    exact ⟨h.2.symm, (fun h => by cases h), fun _ => h.1.symm⟩
  | some a =>
    obtain ⟨h1, h2⟩ := loadCellsFrom_spec _ _ _ _ _ _ h
    exact ⟨h1, (fun _ => by simpa using h2), (fun h => by cases h)⟩

theorem VR.one1 {v v' : Value} (h : VR β v v') (h1 : one1 v = true) : v'.oneCell' = true := by
  cases h with
  | tok e hv => obtain ⟨n, hn⟩ := tokVal_cases _; rw [hv, hn]; rfl
  | _ => first | rfl | simp [Ideal.one1] at h1

theorem AR.one1 {c c' : Array Value} (h : AR β c c') (h1 : c.toList.all Ideal.one1 = true) : ∀ v ∈ c'.toList, v.oneCell' = true := by
  intro v hv
  obtain ⟨i, hi, rfl⟩ := List.getElem_of_mem hv
  have hi' : i < c.size := by rw [h.1]; simpa using hi
  simp only [List.all_eq_true] at h1
  have := h.2 i c[i] c'[i] (by simp [hi']) (by simp at hi; simp [hi])
  rw [Array.getElem_toList]
  exact this.one1 (h1 _ (by simp))

theorem loadCellsFrom_acc {a : Addr} : ∀ (n i : Nat) (acc : Array Value) (σ σ' : World) (c : Array Value), (loadCellsFrom a i n acc).run P σ = .ok c σ' → ∀ k, k < acc.size → c[k]? = acc[k]? := by
  intro n
  induction n with
  | zero =>
    intro i acc σ σ' c h k hk
    simp only [loadCellsFrom, Sem.run_pure, Result.ok.injEq] at h
    rw [← h.1]
  | succ n ih =>
    intro i acc σ σ' c h k hk
    simp only [loadCellsFrom] at h
    rw [Sem.run_bind] at h
    cases hl : (load (a.add i)).run P σ with
    | halt x y => rw [hl] at h; cases h
    | ok v σ1 =>
      rw [hl] at h
      rw [ih _ _ _ _ _ h k (by simp; omega), Array.getElem?_push_lt hk]
      simp [hk]

/-- What is read cell by cell is what lies there (no far cells). -/
theorem loadCellsFrom_cell {b o : Nat} : ∀ (n i : Nat) (acc : Array Value) (σ σ' : World) (c : Array Value), (∀ k, k < n → ∃ v, σ.cell? ⟨b, o + (i + k), none⟩ = some v) → (loadCellsFrom ⟨b, o, none⟩ i n acc).run P σ = .ok c σ' →
    ∀ k, k < n → ∃ v, c[acc.size + k]? = some v ∧ σ.cell? ⟨b, o + (i + k), none⟩ = some v := by
  intro n
  induction n with
  | zero => intro i acc σ σ' c _ h k hk; omega
  | succ n ih =>
    intro i acc σ σ' c hall h k hk
    simp only [loadCellsFrom] at h
    rw [Sem.run_bind] at h
    obtain ⟨v, hv⟩ := hall 0 (by omega)
    have hl : (load ((⟨b, o, none⟩ : Addr).add i)).run P σ = .ok v σ := by
      rw [Addr.add_off]
      simp only [Nat.add_zero] at hv
      simp only [load, Sem.run, hv]
    rw [hl] at h
    simp only [Result.andThen] at h
    by_cases h0 : k = 0
    · subst h0
      refine ⟨v, ?_, hv⟩
      rw [loadCellsFrom_acc _ _ _ _ _ _ h _ (by simp)]
      simp
    · obtain ⟨u, hu1, hu2⟩ := ih (i + 1) (acc.push v) σ σ' c (fun j hj => by have := hall (j + 1) (by omega); rwa [show i + (j + 1) = i + 1 + j from by omega] at this) h (k - 1) (by omega)
      refine ⟨u, ?_, ?_⟩
      · rw [Array.size_push] at hu1
        rwa [show acc.size + 1 + (k - 1) = acc.size + k from by omega] at hu1
      · rwa [show i + 1 + (k - 1) = i + k from by omega] at hu2

/-- append where there is room. -/
theorem run_append_in {at_ : Array TypeId} {sT xT elem xe : TypeId} {ty : TypeId} {i : TypeInfo} {base xb : Option Addr} {sLen sCap n xc : Nat} {args : Array Value} {new : Array Value} {w w2 : World}
    (h0 : at_[0]? = some sT) (h1 : at_[1]? = some xT) (ha0 : args[0]? = some (.slice base sLen sCap)) (ha1 : args[1]? = some (.slice xb n xc))
    (hs : P.underlying sT = some (.slice elem)) (hx : P.underlying xT = some (.slice xe)) (hi : P.info? elem = some i) (hroom : sLen + n ≤ sCap)
    (hnew : (Builtin.firstCells i.size n (.slice xb n xc)).run P w = .ok new w)
    (hst : match base with | some a => (storeCells (a.add (sLen * i.size)) new.toList).run P w = .ok () w2 | none => w2 = w) :
    (Builtin.append_ at_ ty args).run P w = .ok (.slice base (sLen + n) sCap) w2 := by
  unfold Builtin.append_
  rw [h0, ha0, ha1]
  simp only [Sem.run_bind, run_underlying' hs, Result.andThen, run_sizeOf' hi, h1, run_underlying' hx, Sem.run_pure, Builtin.lenOf, Bool.false_eq_true, if_false]
  rw [if_pos hroom]
  simp only [Bool.not_false, if_true, Sem.run_bind, hnew, Result.andThen]
  cases base with
  | none => simp only at hst; subst hst; simp only [Sem.run_pure]
  | some a => simp only at hst ⊢; rw [Sem.run_bind, hst]; simp only [Result.andThen, Sem.run_pure]

/-- append where a new row is made. -/
theorem run_append_out {at_ : Array TypeId} {sT xT elem xe : TypeId} {ty : TypeId} {i : TypeInfo} {z : Value} {base xb : Option Addr} {sLen sCap n xc : Nat} {args : Array Value} {old new : Array Value} {w : World}
    (h0 : at_[0]? = some sT) (h1 : at_[1]? = some xT) (ha0 : args[0]? = some (.slice base sLen sCap)) (ha1 : args[1]? = some (.slice xb n xc))
    (hs : P.underlying sT = some (.slice elem)) (hx : P.underlying xT = some (.slice xe)) (hi : P.info? elem = some i) (hz : i.zero = some z) (hroom : ¬ sLen + n ≤ sCap)
    (hb0 : 0 < i.bytes) (hb : (sLen + n) * i.bytes ≤ 70368744177664)
    (hold : (Builtin.firstCells i.size sLen (.slice base sLen sCap)).run P w.drew = .ok old w.drew)
    (hnew : (Builtin.firstCells i.size n (.slice xb n xc)).run P w.drew = .ok new w.drew) :
    ∃ nc, sLen + n ≤ nc ∧ (Builtin.append_ at_ ty args).run P w = .ok (.slice (some ⟨w.heap.size, 0, none⟩) (sLen + n) nc) (w.drew.alloc (.cells (old ++ new ++ Builtin.zeroCells z.cells (nc - (sLen + n))) elem)) := by
  obtain ⟨t, ht⟩ : ∃ t, t = w.tape w.drawn (.appendCap (sLen + n) sCap elem) := ⟨_, rfl⟩
  refine ⟨sLen + n + t % (2 ^ 63 - (sLen + n)), by omega, ?_⟩
  have hle : sLen + n ≤ 70368744177664 := Nat.le_trans (Nat.le_mul_of_pos_right _ hb0) hb
  have hgrow : ¬ (Builtin.nextslicecap (sLen + n) sCap * i.bytes > 2 ^ 48) := by
    have := growslice_fits (need := sLen + n) (old := sCap) (bytes := i.bytes) (by omega) (by omega)
    omega
  unfold Builtin.append_
  rw [h0, ha0, ha1]
  simp only [Sem.run_bind, run_underlying' hs, Result.andThen, run_sizeOf' hi, h1, run_underlying' hx, Sem.run_pure, Builtin.lenOf, Bool.false_eq_true, if_false]
  rw [if_neg hroom]
  have hti : ∀ w : World, (typeInfo elem).run P w = .ok i w := fun w => by simp [typeInfo, program, Sem.run, hi, Result.andThen]
  have hzr : ∀ w : World, (zeroValue elem).run P w = .ok z w := fun w => by simp [zeroValue, typeInfo, program, Sem.run, hi, hz, Result.andThen]
  have hch : (choose (Question.appendCap (sLen + n) sCap elem)).run P w = .ok (sLen + n + t % (2 ^ 63 - (sLen + n))) w.drew := by
    simp only [choose, Sem.run, Question.forced, Bool.false_eq_true, if_false, Question.cut, ht]
    rfl
  have har : ∀ (m : Nat) (w : World), (askRoom m).run P w = .ok () w := fun m w => by
    unfold askRoom
    split <;> rfl
  simp only [Sem.run_bind, hti, Result.andThen]
  rw [if_neg (by rintro ⟨_, h | h⟩; exact h; omega)]
  simp only [Sem.run_bind, hti, Result.andThen]
  rw [if_neg hgrow]
  simp only [Sem.run_bind, hch, hti, har, hold, Result.andThen, Bool.not_false, if_true, hnew, hzr, Sem.run_pure]
  rfl

theorem AR.shift {c c' : Array Value} (h : AR β c c') {rest : Array Value} (i : Nat) (v : Value) (hv : c[i]? = some v) : ∃ v', (c' ++ rest)[0 + i]? = some v' ∧ VR β v v' := by
  obtain ⟨v', h1, h2⟩ := h.get hv
  have hi : i < c'.size := (Array.getElem?_eq_some_iff.1 h1).1
  exact ⟨v', by rw [Nat.zero_add, Array.getElem?_append_left hi]; exact h1, h2⟩

/-- Where the ideal slice gets a block of its own and no other dies: the real slice's end is known, and it is too near. -/
theorem tsim_grow_closed {at_ : Array TypeId} {sT xT elem xe : TypeId} {ty : TypeId} {i : TypeInfo} {args' : Array Value} {base xb : Option Addr} {sLen sCap n xc : Nat} {s' x' : Value} {σ w : World}
    (h0 : at_[0]? = some sT) (h1 : at_[1]? = some xT) (hs : P.underlying sT = some (.slice elem)) (hx : P.underlying xT = some (.slice xe)) (hi : P.info? elem = some i)
    (ha0 : args'[0]? = some s') (ha1 : args'[1]? = some x') (hsr : VR β (.slice base sLen sCap) s') (hxr : VR β (.slice xb n xc) x') (hz : zeroFits i = true)
    (hsz : 0 < i.size) (hb0 : 0 < i.bytes) (hb : (sLen + n) * i.bytes ≤ 70368744177664) (hR : R P B w0 β σ w)
    {new : Array Value} (hnew : (Builtin.firstCells i.size n (.slice xb n xc)).run P σ = .ok new σ)
    {old : Array Value} (hold : (Builtin.firstCells i.size sLen (.slice base sLen sCap)).run P σ = .ok old σ)
    (hsizes : (old ++ new).size = (sLen + n) * i.size)
    (hroom : ∀ b l c, s' = .slice b l c → ¬ sLen + n ≤ c) :
    ∃ β2 v' w', β.le β2 ∧ (Builtin.append_ at_ ty args').run P w = .ok v' w' ∧ R P B w0 β2 (σ.alloc (.cells (old ++ new) elem)) w' ∧
      VR β2 (.slice (some ⟨σ.heap.size, 0, none⟩) (sLen + n) OPEN) v' := by
  obtain ⟨z, hz1, hz2⟩ : ∃ z, i.zero = some z ∧ z.cells.size = i.size := by
    unfold zeroFits at hz
    split at hz
    · exact ⟨_, ‹_›, by simpa using hz⟩
    · cases hz
  have hRd := hR.drew
  obtain ⟨_, old', hold', ho⟩ := rsim_firstCells hsr (size := i.size) (n := sLen) (fun a l c e => by simp only [Value.slice.injEq] at e; omega) β σ w.drew (.refl _) hRd old σ hold
  obtain ⟨_, new', hnew', hn⟩ := rsim_firstCells hxr (size := i.size) (n := n) (fun a l c e => by simp only [Value.slice.injEq] at e; omega) β σ w.drew (.refl _) hRd new σ hnew
  obtain ⟨base', sCap', rfl⟩ : ∃ b c, s' = .slice b sLen c := by cases hsr <;> exact ⟨_, _, rfl⟩
  obtain ⟨xb', xc', rfl⟩ : ∃ b c, x' = .slice b n c := by cases hxr <;> exact ⟨_, _, rfl⟩
  obtain ⟨nc, hnc, hrun⟩ := run_append_out (ty := ty) h0 h1 ha0 ha1 hs hx hi hz1 (hroom _ _ _ rfl) hb0 hb hold' hnew'
  have hon := ho.append hn
  obtain ⟨rest, hrest⟩ : ∃ rest, rest = Builtin.zeroCells z.cells (nc - (sLen + n)) := ⟨_, rfl⟩
  have hrs : rest.size = (nc - (sLen + n)) * i.size := by rw [hrest, ← hz2]; simp [Builtin.zeroCells]
  have htot : (old' ++ new' ++ rest).size = nc * i.size := by
    rw [Array.size_append, ← hon.1, hsizes, hrs, ← Nat.add_mul]
    congr 1
    omega
  obtain ⟨bi, hbi⟩ : ∃ bi : BI, bi = ⟨w.heap.size, 0, (old ++ new).size, i.size, (old' ++ new' ++ rest).size⟩ := ⟨_, rfl⟩
  have hfresh := hRd.fresh
  have hle := Beta.le_put (bi := bi) hfresh
  have hput : (β.put σ.heap.size bi) σ.heap.size = some bi := by unfold Beta.put; rw [if_pos rfl]
  refine ⟨β.put σ.heap.size bi, _, _, hle, hrun, ?_, ?_⟩
  · rw [← hrest]
    have hOR : OR (β.put σ.heap.size bi) bi (.cells (old ++ new) elem) (.cells (old' ++ new' ++ rest) elem) := by
      refine .cells (by rw [hbi]) (by rw [hbi]) ?_ ?_ (.inl ⟨rfl, rfl⟩)
      · rw [hbi]
        simp only
        rw [htot, hsizes, Nat.zero_add]
        exact Nat.mul_le_mul_right _ hnc
      · intro k v hv
        rw [hbi]
        obtain ⟨v', e1, e2⟩ := hon.shift (rest := rest) k v hv
        exact ⟨v', e1, e2.mono (hbi ▸ hle)⟩
    have := hRd.alloc (o := .cells (old ++ new) elem) (o' := .cells (old' ++ new' ++ rest) elem) (d := 0) (n := (old ++ new).size) (es := i.size) (tot := (old' ++ new' ++ rest).size)
      (by rw [hbi] at hOR; exact hOR) (fun c e fz he j hj => by
        simp only [Obj.cells.injEq] at he
        obtain ⟨_, rfl, _⟩ := he
        rw [hi] at hj
        simp only [Option.some.injEq] at hj
        rw [hj]) rfl
    rw [hbi]
    exact this
  · subst hbi
    refine VR.slice (o := 0) (o' := 0) hput (.inr (.inl ⟨rfl, hsz, .inl ⟨by simp, ?_, hnc, ?_⟩⟩))
    · simp only
      rw [hsizes, Nat.zero_add]
      exact Nat.mul_le_mul_right _ hnc
    · simp only
      rw [htot, Nat.zero_add]
      exact Nat.le_refl _

/-- Where the real slice grows in its own row: the ideal one moves, and the old block dies. -/
theorem tsim_grow_place {at_ : Array TypeId} {sT xT elem xe : TypeId} {ty : TypeId} {i : TypeInfo} {args' : Array Value} {b o o' sLen cap' n xc : Nat} {xb : Option Addr} {x' : Value} {bi : BI} {c : Array Value} {σ w : World}
    (h0 : at_[0]? = some sT) (h1 : at_[1]? = some xT) (hs : P.underlying sT = some (.slice elem)) (hx : P.underlying xT = some (.slice xe)) (hi : P.info? elem = some i)
    (hbi : β b = some bi) (hc : σ.heap[b]? = some (.cells c elem (0, 0))) (ho' : o' = o + bi.d) (hcap : o' + cap' * bi.es ≤ bi.tot) (hes : 0 < bi.es)
    (ha0 : args'[0]? = some (.slice (some ⟨bi.r, o', none⟩) sLen cap')) (ha1 : args'[1]? = some x') (hxr : VR β (.slice xb n xc) x') (hroom : sLen + n ≤ cap') (hR : R P B w0 β σ w)
    {new : Array Value} (hnew : (Builtin.firstCells i.size n (.slice xb n xc)).run P σ = .ok new σ) (hone : new.toList.all one1 = true) (hns : new.size = n * i.size)
    {old : Array Value} (hold : (Builtin.firstCells i.size sLen (.slice (some ⟨b, o, none⟩) sLen OPEN)).run P σ = .ok old σ) (hos : old.size = sLen * i.size) :
    ∃ β2 v' w', β.le β2 ∧ (Builtin.append_ at_ ty args').run P w = .ok v' w' ∧ R P B w0 β2 (kill (σ.alloc (.cells (old ++ new) elem)) b) w' ∧
      VR β2 (.slice (some ⟨σ.heap.size, 0, none⟩) (sLen + n) OPEN) v' := by
  have hies : i.size = bi.es := hR.esz _ _ _ _ _ hc rfl hbi i hi
  obtain ⟨_, new', hnew', hn⟩ := rsim_firstCells hxr (size := i.size) (n := n) (fun a l c e => by simp only [Value.slice.injEq] at e; omega) β σ w (.refl _) hR new σ hnew
  obtain ⟨xb', xc', rfl⟩ : ∃ b c, x' = .slice b n c := by cases hxr <;> exact ⟨_, _, rfl⟩
  obtain ⟨_, old', hold', ho⟩ := rsim_loadCells (P := P) (B := B) (w0 := w0) (β := β) ⟨b, o, bi, hbi, rfl, rfl⟩ (sLen * i.size) β σ w (.refl _) hR old σ hold
  obtain ⟨ob, hob, hor⟩ := hR.obj _ _ _ hc hbi rfl
  cases hor with
  | @cells _ c' _ _ fz' hcn hct hcd hcc hfz =>
    have hfz' : fz' = (0, 0) := by
      rcases hfz with h | h
      · exact h.2
      · exact absurd h.2.1 (Nat.lt_irrefl _)
    subst hfz'
    have hnew's : new'.toList.length = n * bi.es := by rw [← hies, Array.length_toList, ← hn.1]; exact hns
    have hfit : o' + sLen * bi.es + 0 + new'.toList.length ≤ c'.size := by
      have : sLen * bi.es + n * bi.es ≤ cap' * bi.es := by rw [← Nat.add_mul]; exact Nat.mul_le_mul_right _ hroom
      omega
    have hst := run_storeCells_at (P := P) bi.r (o' + sLen * bi.es) elem new'.toList 0 c' w hob hfit (hn.one1 hone)
    obtain ⟨c2, hc2⟩ : ∃ c2, c2 = (c'.toList.take (o' + sLen * bi.es + 0) ++ new'.toList ++ c'.toList.drop (o' + sLen * bi.es + 0 + new'.toList.length)).toArray := ⟨_, rfl⟩
    rw [← hc2] at hst
    have hrun := run_append_in (ty := ty) (w := w) (w2 := w.setRow bi.r c2) h0 h1 ha0 ha1 hs hx hi hroom hnew' (by simp only [Addr.add_off, hies]; exact hst)
    have hc2s : c2.size = bi.tot := by
      rw [hc2]
      simp only [List.size_toArray, List.length_append, List.length_take, List.length_drop, Array.length_toList]
      rw [Array.length_toList] at hnew's hfit
      omega
    have hle := Beta.le_put (bi := ⟨bi.r, o', (old ++ new).size, bi.es, bi.tot⟩) hR.fresh
    have hsz : (old ++ new).size = (sLen + n) * bi.es := by rw [Array.size_append, hos, hns, hies, Nat.add_mul]
    have hmul : (sLen + n) * bi.es ≤ cap' * bi.es := Nat.mul_le_mul_right _ hroom
    refine ⟨_, _, _, hle, hrun, ?_, ?_⟩
    · refine hR.regrow hbi hc rfl rfl rfl (by simp) (fun k hk => setRow_other w bi.r k c2 hk) (setRow_heap w bi.r c' c2 elem (0, 0) hob) hc2s (by rw [hsz]; omega) ?_
      intro k v hv
      rw [Array.getElem?_append] at hv
      have hol : old'.size = sLen * bi.es := by rw [← ho.1, hos, hies]
      split at hv
      · rename_i hk
        obtain ⟨v', e1, e2⟩ := ho.get hv
        refine ⟨v', ?_, e2⟩
        have hkl : k < sLen * bi.es := by rw [← hies, ← hos]; exact hk
        have hcell : c'[o' + k]? = some v' := by
          have hin : ∀ j, j < sLen * i.size → ∃ v, w.cell? ⟨bi.r, (o + bi.d) + (0 + j), none⟩ = some v := fun j hj => by
            have hlt : o + bi.d + (0 + j) < c'.size := by rw [hies] at hj; omega
            exact ⟨c'[o + bi.d + (0 + j)], cell?_eq_some.2 ⟨_, _, _, hob, by simp [hlt]⟩⟩
          obtain ⟨u, hu1, hu2⟩ := loadCellsFrom_cell (sLen * i.size) 0 #[] w w old' hin hold' k (by rw [hies]; exact hkl)
          simp only [List.size_toArray, List.length_nil, Nat.zero_add] at hu1 hu2
          rw [hu1] at e1
          simp only [Option.some.injEq] at e1
          subst e1
          obtain ⟨c3, e3, fz3, g1, g2⟩ := cell?_eq_some.1 hu2
          rw [hob] at g1
          simp only [Option.some.injEq, Obj.cells.injEq] at g1
          obtain ⟨rfl, _⟩ := g1
          rw [ho']
          exact g2
        rw [hc2]
        simp only [List.getElem?_toArray]
        rw [List.append_assoc, List.getElem?_append_left (by simp only [List.length_take, Array.length_toList]; omega), List.getElem?_take_of_lt (by omega)]
        simpa using hcell
      · rename_i hk
        rw [hos, hies] at hk hv
        obtain ⟨v', e1, e2⟩ := hn.get hv
        refine ⟨v', ?_, e2⟩
        have hl : (c'.toList.take (o' + sLen * bi.es + 0)).length = o' + sLen * bi.es := by
          rw [Array.length_toList] at hnew's hfit
          simp only [List.length_take, Array.length_toList]; omega
        rw [hc2]
        simp only [List.getElem?_toArray]
        rw [List.append_assoc, List.getElem?_append_right (by omega), hl, List.getElem?_append_left (by
          have := (Array.getElem?_eq_some_iff.1 e1).1
          simp only [Array.length_toList]; omega)]
        rw [show o' + k - (o' + sLen * bi.es) = k - sLen * bi.es from by omega]
        simpa using e1
    · refine .slice (bi := ⟨bi.r, o', (old ++ new).size, bi.es, bi.tot⟩) (by unfold Beta.put; rw [if_pos rfl]) (.inr (.inl ⟨rfl, hes, .inl ⟨by simp, ?_, hroom, hcap⟩⟩))
      simp only
      rw [hsz]
      omega
end
end Go.Ideal
