/-
  The operations side by side: literals, places in slices, maps.
-/
import Derived.Test.YtplcocifndpplaaIe
namespace Go.Ideal
open Go

def PartR (β : Beta) : List (Nat × Value) → List (Nat × Value) → Prop
  | [], [] => True
  | (i, a) :: l, (j, b) :: m => i = j ∧ VR β a b ∧ PartR β l m
  | _, _ => False

theorem PartR.mono {β β' : Beta} (h : β.le β') : ∀ {l m : List (Nat × Value)}, PartR β l m → PartR β' l m
  | [], [], _ => trivial
  | (_, _) :: _, (_, _) :: _, hl => ⟨hl.1, hl.2.1.mono h, PartR.mono h hl.2.2⟩
  | [], (_, _) :: _, hl => hl.elim
  | (_, _) :: _, [], hl => hl.elim

theorem fold_set {β : Beta} (off : Nat) : ∀ (l m : List Value) (k : Nat) (cs cs' : Array Value), LR β l m → AR β cs cs' →
    AR β ((l.zipIdx k).foldl (fun cs (c, j) => cs.setIfInBounds (off + j) c) cs) ((m.zipIdx k).foldl (fun cs (c, j) => cs.setIfInBounds (off + j) c) cs')
  | [], [], _, _, _, _, h => h
  | a :: l, b :: m, k, cs, cs', hl, h => fold_set off l m (k + 1) _ _ hl.2 (h.set _ hl.1)
  | [], _ :: _, _, _, _, hl, _ => hl.elim
  | _ :: _, [], _, _, _, hl, _ => hl.elim

theorem fill_rel {β : Beta} (place : Nat → Option (Nat × Nat)) : ∀ (l m : List (Nat × Value)) (cs cs' : Array Value), PartR β l m → AR β cs cs' → ∀ c, Instr.fill place cs l = some c →
    ∃ c', Instr.fill place cs' m = some c' ∧ AR β c c'
  | [], [], cs, cs', _, h, c, e => by
    simp only [Instr.fill, Option.some.injEq] at e ⊢
    subst e; exact ⟨cs', rfl, h⟩
  | (i, a) :: l, (j, b) :: m, cs, cs', hl, h, c, e => by
    obtain ⟨rfl, hv, hl'⟩ := hl
    unfold Instr.fill at e ⊢
    have hcz := hv.cells
    cases hp : place i with
    | none => simp only [hp] at e; cases e
    | some q =>
      obtain ⟨off, size⟩ := q
      simp only [hp] at e ⊢
      rw [← hcz.1, ← h.1]
      split at e
      · cases e
      · rename_i hne
        rw [if_neg hne]
        have hf := fold_set off a.cells.toList b.cells.toList 0 cs cs' hcz.lr h
        refine fill_rel place l m _ _ hl' ?_ c e
        simp only [← Array.foldl_toList, Array.toList_zipIdx]
        exact hf
  | [], (_, _) :: _, _, _, hl, _, _, _ => hl.elim
  | (_, _) :: _, [], _, _, hl, _, _, _ => hl.elim

section
variable {P : Program} {B : Nat} {w0 : Base} {β : Beta}

theorem still_mapM {α γ : Type} {f : α → Sem γ} (hf : ∀ a, Still (f a) P) (l : Array α) : Still (l.mapM f) P := by
  rw [Array.mapM_eq_mapM_toList]
  refine still_bind ?_ fun _ => still_pure _
  induction l.toList with
  | nil => exact still_pure _
  | cons a l ih =>
    rw [List.mapM_cons]
    exact still_bind (hf a) fun _ => still_bind ih fun _ => still_pure _

theorem sim_build {t : TypeId} (hz : zeroOk P t = true) {parts parts' : Array (Nat × Value)} (hp : PartR β parts.toList parts'.toList) :
    Sim P B w0 β (Instr.build t parts) (Instr.build t parts') VR := by
  unfold Instr.build
  refine Sim.bind (sim_zeroValue hz) fun β1 z z' hle hzz => ?_
  refine Sim.still (still_underlying t) fun d => ?_
  split
  · refine Sim.still (still_mapM (fun f => still_bind (still_sizeOf _) fun _ => still_pure _) _) fun places => ?_
    have key := fill_rel (β := β1) (places[·]?) parts.toList parts'.toList z.cells z'.cells (hp.mono hle) hzz.cells
    split
    · rename_i cells hc
      obtain ⟨c', h1, h2⟩ := key _ hc
      rw [h1]
      exact Sim.pure fun β2 hle2 => let k := h2.mono hle2; .agg k.1 k.2
    · exact Sim.stuck
  · refine Sim.still (still_sizeOf _) fun size => ?_
    have key := fill_rel (β := β1) (fun i => some (i * size, size)) parts.toList parts'.toList z.cells z'.cells (hp.mono hle) hzz.cells
    split
    · rename_i cells hc
      obtain ⟨c', h1, h2⟩ := key _ hc
      rw [h1]
      exact Sim.pure fun β2 hle2 => let k := h2.mono hle2; .agg k.1 k.2
    · exact Sim.stuck
  · exact Sim.stuck

/-- A row of zero values. -/
theorem AR.row {c c' : Array Value} (h : AR β c c') (n : Nat) : AR β ((Array.range n).map (c[· % c.size]!)) ((Array.range n).map (c'[· % c'.size]!)) := by
  refine ⟨by simp, fun i v v' e e' => ?_⟩
  simp only [Array.getElem?_map, Option.map_eq_some_iff] at e e'
  obtain ⟨j, hj, rfl⟩ := e
  obtain ⟨j', hj', rfl⟩ := e'
  rw [hj] at hj'
  simp only [Option.some.injEq] at hj'
  subst hj'
  rw [← h.1]
  by_cases hc : c.size = 0
  · have h0 : c'.size = 0 := by rw [← h.1]; exact hc
    have e0 : c = #[] := Array.eq_empty_of_size_eq_zero hc
    have e1 : c' = #[] := Array.eq_empty_of_size_eq_zero h0
    subst e0; subst e1
    exact .bool false
  · have hlt : j % c.size < c.size := Nat.mod_lt _ (by omega)
    refine h.2 (j % c.size) _ _ ?_ ?_
    · rw [getElem!_pos c _ hlt]; simp [hlt]
    · rw [getElem!_pos c' _ (by rw [← h.1]; exact hlt)]
      rw [Array.getElem?_eq_getElem]

theorem elemOk_slice {t e : TypeId} (h : elemOk P t = true) (hu : P.underlying t = some (.slice e)) : zeroOk P e = true := by
  unfold elemOk at h; rw [hu] at h; exact h
theorem elemOk_map {t k e : TypeId} (h : elemOk P t = true) (hu : P.underlying t = some (.map k e)) : zeroOk P e = true := by
  unfold elemOk at h; rw [hu] at h; exact h

theorem Sim.under {α α' : Type} {t : TypeId} {k : TypeDesc → Sem α} {k' : TypeDesc → Sem α'} {A : Beta → α → α' → Prop}
    (h : ∀ d, P.underlying t = some d → Sim P B w0 β (k d) (k' d) A) : Sim P B w0 β (underlying t >>= k) (underlying t >>= k') A := by
  refine Sim.bind (A := fun _ x y => x = y ∧ P.underlying t = some x) ?_ fun β1 x y hle e => by obtain ⟨rfl, e⟩ := e; exact (h x e).le hle
  intro β1 σ w hle hR u σ' hu
  obtain ⟨rfl, hw⟩ := still_underlying t σ w u σ' hu
  refine ⟨β1, u, w, .refl _, hw, hR, rfl, ?_⟩
  cases hd : P.underlying t with
  | none => simp [underlying, program, Sem.run, hd, Result.andThen, Go.stuck] at hu
  | some d => rw [run_underlying' hd] at hu; simp only [Result.ok.injEq] at hu; rw [hu.1]

theorem sim_newSlice {c c' : Array Value} (e : TypeId) (len cap : Nat) (hlen : len ≤ cap) (hcap : cap < OPEN) (hc : AR β c c') :
    Sim P B w0 β (do pure (.slice (some (← newRow e c)) len cap)) (do pure (.slice (some (← newRow e c')) len cap)) VR :=
  Sim.bind (sim_newRow e hc) fun β1 a a' hle hp => Sim.pure fun β2 hle2 => by
    obtain ⟨b, o, bi, hb, rfl, rfl⟩ := hp
    exact .slice (hle2 _ _ hb) (.inl ⟨hcap, rfl, hlen, .inl rfl⟩)

theorem sim_buildSlice {t : TypeId} (hz : elemOk P t = true) {len : Nat} (hl : len < OPEN) {parts parts' : Array (Nat × Value)} (hp : PartR β parts.toList parts'.toList) :
    Sim P B w0 β (Instr.buildSlice t len parts) (Instr.buildSlice t len parts') VR := by
  unfold Instr.buildSlice
  refine Sim.under fun d hd => ?_
  split
  · rename_i elem
    refine Sim.still (still_sizeOf _) fun size => ?_
    dsimp only
    by_cases hbig : len * size > 2 ^ 24
    · rw [if_pos hbig, if_pos hbig]
      exact Sim.never (never_left (never_halt _))
    · rw [if_neg hbig, if_neg hbig]
      have tail : ∀ {β1 : Beta} {z z' : Array Value}, β.le β1 → AR β1 z z' → Sim P B w0 β1
          (match Instr.fill (fun i => some (i * size, size)) ((Array.range (len * size)).map (z[· % z.size]!)) parts.toList with
            | some cells => do pure (.slice (some (← newRow elem cells)) len len)
            | _ => Go.stuck "buildSlice: a part of the wrong size")
          (match Instr.fill (fun i => some (i * size, size)) ((Array.range (len * size)).map (z'[· % z'.size]!)) parts'.toList with
            | some cells => do pure (.slice (some (← newRow elem cells)) len len)
            | _ => Go.stuck "buildSlice: a part of the wrong size") VR := by
        intro β1 z z' hle hzz
        have key := fill_rel (β := β1) (fun i => some (i * size, size)) parts.toList parts'.toList _ _ (hp.mono hle) (hzz.row (len * size))
        split
        · rename_i cells hc
          obtain ⟨c', h1, h2⟩ := key _ hc
          rw [h1]
          exact sim_newSlice elem len len (Nat.le_refl _) hl h2
        · exact Sim.stuck
      by_cases h0 : len * size = 0
      · rw [if_pos h0, if_pos h0]
        exact Sim.bind (Sim.pure (A := AR) (v := #[]) (v' := #[]) fun β1 _ => AR.empty β1) fun β1 z z' hle hzz => tail hle hzz
      · rw [if_neg h0, if_neg h0]
        exact Sim.bind (sim_zeroValue (elemOk_slice hz hd)) fun β1 z z' hle hzz => Sim.bind (Sim.pure (A := AR) fun β2 hle2 => (hzz.mono hle2).cells) fun β2 y y' hle2 hyy => tail (hle.trans hle2) hyy
  · exact Sim.stuck
end
end Go.Ideal
