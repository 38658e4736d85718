/-
  The operations side by side.
-/
import Derived.Test.YtplcocifndpplaaIc
namespace Go.Ideal
open Go

def PR (β : Beta) (a a' : Addr) : Prop := ∃ b o bi, β b = some bi ∧ a = ⟨b, o, none⟩ ∧ a' = ⟨bi.r, o + bi.d, none⟩

theorem PR.mono {β β' : Beta} (h : β.le β') {a a' : Addr} (hp : PR β a a') : PR β' a a' :=
  let ⟨b, o, bi, e, h1, h2⟩ := hp; ⟨b, o, bi, h _ _ e, h1, h2⟩

theorem PR.add {β : Beta} {a a' : Addr} (h : PR β a a') (n : Nat) : PR β (a.add n) (a'.add n) := by
  obtain ⟨b, o, bi, e, rfl, rfl⟩ := h
  unfold Addr.add
  by_cases hn : n = 0
  · rw [if_pos hn, if_pos hn]; exact ⟨b, o, bi, e, rfl, rfl⟩
  · rw [if_neg hn, if_neg hn]; exact ⟨b, o + n, bi, e, rfl, by simp; omega⟩

theorem PR.vr {β : Beta} {a a' : Addr} (h : PR β a a') : VR β (.pointer (some a)) (.pointer (some a')) := by
  obtain ⟨b, o, bi, e, rfl, rfl⟩ := h
  exact .ptr e

def LR (β : Beta) : List Value → List Value → Prop
  | [], [] => True
  | a :: l, b :: m => VR β a b ∧ LR β l m
  | _, _ => False

theorem LR.mono {β β' : Beta} (h : β.le β') : ∀ {l m : List Value}, LR β l m → LR β' l m
  | [], [], _ => trivial
  | _ :: _, _ :: _, hl => ⟨hl.1.mono h, LR.mono h hl.2⟩
  | [], _ :: _, hl => hl.elim
  | _ :: _, [], hl => hl.elim

theorem LR.of_index {β : Beta} : ∀ {l m : List Value}, l.length = m.length → (∀ (i : Nat) (v v' : Value), l[i]? = some v → m[i]? = some v' → VR β v v') → LR β l m
  | [], [], _, _ => trivial
  | [], _ :: _, h, _ => by simp at h
  | _ :: _, [], h, _ => by simp at h
  | a :: l, b :: m, h, hi => ⟨hi 0 a b rfl rfl, LR.of_index (by simpa using h) fun i v v' e e' => hi (i + 1) v v' (by simpa using e) (by simpa using e')⟩

theorem LR.length {β : Beta} : ∀ {l m : List Value}, LR β l m → l.length = m.length
  | [], [], _ => rfl
  | _ :: _, _ :: _, h => by simp [LR.length h.2]
  | [], _ :: _, h => h.elim
  | _ :: _, [], h => h.elim

theorem LR.index {β : Beta} : ∀ {l m : List Value}, LR β l m → ∀ (i : Nat) (v v' : Value), l[i]? = some v → m[i]? = some v' → VR β v v'
  | [], [], _, i, v, v', h, _ => by simp at h
  | a :: l, b :: m, hl, 0, v, v', h, h' => by
    simp at h h'; subst h; subst h'; exact hl.1
  | a :: l, b :: m, hl, i + 1, v, v', h, h' => LR.index hl.2 i v v' (by simpa using h) (by simpa using h')
  | [], _ :: _, h, _, _, _, _, _ => h.elim
  | _ :: _, [], h, _, _, _, _, _ => h.elim

theorem AR.lr {β : Beta} {c c' : Array Value} (h : AR β c c') : LR β c.toList c'.toList :=
  LR.of_index (by simpa using h.1) fun i v v' e e' => h.2 i v v' (by simpa using e) (by simpa using e')

theorem LR.ar {β : Beta} {l m : List Value} (h : LR β l m) : AR β l.toArray m.toArray :=
  ⟨by simpa using h.length, fun i v v' e e' => h.index i v v' (by simpa using e) (by simpa using e')⟩

theorem VR.cells {β : Beta} {v v' : Value} (h : VR β v v') : AR β v.cells v'.cells := by
  have one : ∀ {x y : Value}, VR β x y → AR β #[x] #[y] := fun hv => by
    have := (AR.empty β).push hv
    simpa using this
  cases h with
  | agg hs hc => exact ⟨hs, hc⟩
  | tok e hv =>
    have h0 := one (.tok e hv)
    obtain ⟨n, hn⟩ := tokVal_cases _
    rw [hv, hn] at h0 ⊢; exact h0
  | bool b => exact one (.bool b)
  | int k n => exact one (.int k n)
  | float k n => exact one (.float k n)
  | complex k n m => exact one (.complex k n m)
  | string s => exact one (.string s)
  | nilPtr => exact one .nilPtr
  | ptr e => exact one (.ptr e)
  | nilSlice => exact one .nilSlice
  | slice e hs => exact one (.slice e hs)
  | nilMap => exact one .nilMap
  | map e => exact one (.map e)
  | nilFunc => exact one .nilFunc
  | func hf hs hc => exact one (.func hf hs hc)
  | nilIface => exact one .nilIface
  | iface t h => exact one (.iface t h)
  | tuple hs hc => exact one (.tuple hs hc)

section
variable {P : Program} {B : Nat} {w0 : Base} {β : Beta}

theorem R.noFar {σ w : World} (hR : R P B w0 β σ w) (b : Nat) (a : Addr) (u : TypeId) : σ.heap[b]? ≠ some (.view a u) := fun h => by
  have hb : b < σ.heap.size := (Array.getElem?_eq_some_iff.1 h).1
  obtain ⟨bi, hbi⟩ := hR.cov b hb
  obtain ⟨o', _, ho⟩ := hR.obj _ _ _ h hbi rfl
  cases ho

theorem farLoad_none {σ w : World} (hR : R P B w0 β σ w) (a : Addr) (m : Bool) : ∃ x, σ.farLoad P a m = .error x := by
  unfold World.farLoad
  split
  · rename_i h; exact absurd h (hR.noFar _ _ _)
  · exact ⟨_, rfl⟩

theorem farStore_none {σ w : World} (hR : R P B w0 β σ w) (a : Addr) (v : Value) (m : Bool) : ∃ x, σ.farStore P a v m = .error x := by
  unfold World.farStore
  split
  · rename_i h; exact absurd h (hR.noFar _ _ _)
  · exact ⟨_, rfl⟩

theorem sim_load {a a' : Addr} (h : PR β a a') : Sim P B w0 β (load a) (load a') VR := by
  intro β1 σ w hle hR u σ' hu
  obtain ⟨b, o, bi, e, rfl, rfl⟩ := h
  simp only [load, Sem.run] at hu ⊢
  cases hc : σ.cell? ⟨b, o, none⟩ with
  | none =>
    rw [hc] at hu
    obtain ⟨x, hx⟩ := farLoad_none hR ⟨b, o, none⟩ (Mode.plain == .atomic)
    simp only [hx] at hu
    cases hu
  | some v =>
    rw [hc] at hu
    simp only [Result.ok.injEq] at hu
    obtain ⟨rfl, rfl⟩ := hu
    obtain ⟨v', hv', hvr⟩ := hR.cell (hle _ _ e) hc
    exact ⟨β1, v', w, .refl _, by rw [hv'], hR, hvr⟩

theorem sim_store {a a' : Addr} {v v' : Value} (h : PR β a a') (hv : VR β v v') : Sim P B w0 β (store a v) (store a' v') (fun _ _ _ => True) := by
  intro β1 σ w hle hR u σ' hu
  obtain ⟨b, o, bi, e, rfl, rfl⟩ := h
  have hc : ∃ x, σ.cell? ⟨b, o, none⟩ = some x ∧ σ.frozen? ⟨b, o, none⟩ = false ∧ σ' = σ.setCell ⟨b, o, none⟩ v ∧ one1 v = true := by
    unfold store at hu
    cases hc : σ.cell? ⟨b, o, none⟩ with
    | none =>
      obtain ⟨x, hx⟩ := farStore_none hR ⟨b, o, none⟩ v (Mode.plain == .atomic)
      cases v <;> simp [Sem.run, hc, hx] at hu
    | some y =>
      cases hf : σ.frozen? ⟨b, o, none⟩ with
      | true => cases v <;> simp [Sem.run, hc, hf] at hu
      | false => cases v <;> simp [Sem.run, hc, hf] at hu <;> exact ⟨y, rfl, rfl, hu.symm, rfl⟩
  obtain ⟨x, hx, hf, rfl, h1⟩ := hc
  obtain ⟨⟨u', hu'⟩, hf', hR'⟩ := hR.store (hle _ _ e) hx hf (hv.mono hle)
  refine ⟨β1, (), _, .refl _, ?_, hR', trivial⟩
  have h1' : one1 v' = true := by
    cases hv with
    | tok e hv => obtain ⟨n, hn⟩ := tokVal_cases _; rw [hv, hn]; rfl
    | _ => first | rfl | cases h1
  unfold store
  cases v' <;> simp_all [Sem.run, one1]

theorem sim_loadCellsFrom {a a' : Addr} (h : PR β a a') : ∀ (n i : Nat) (acc acc' : Array Value), AR β acc acc' →
    Sim P B w0 β (loadCellsFrom a i n acc) (loadCellsFrom a' i n acc') AR := by
  intro n
  induction n generalizing β with
  | zero => exact fun i acc acc' hacc => Sim.pure fun β1 hle => hacc.mono hle
  | succ n ih => exact fun i acc acc' hacc => Sim.bind (sim_load (h.add i)) fun β1 v v' hle hv => ih (h.mono hle) _ _ _ ((hacc.mono hle).push hv)

theorem sim_loadCells {a a' : Addr} (h : PR β a a') (n : Nat) : Sim P B w0 β (loadCells a n) (loadCells a' n) AR :=
  sim_loadCellsFrom h n 0 _ _ (AR.empty β)

theorem sim_storeCells : ∀ (vs vs' : List Value) {a a' : Addr} (i : Nat), PR β a a' → LR β vs vs' → Sim P B w0 β (storeCells a vs i) (storeCells a' vs' i) (fun _ _ _ => True) := by
  intro vs
  induction vs generalizing β with
  | nil =>
    intro vs' a a' i h hl
    cases vs' with
    | nil => exact Sim.pure fun _ _ => trivial
    | cons x l => exact hl.elim
  | cons x l ih =>
    intro vs' a a' i h hl
    cases vs' with
    | nil => exact hl.elim
    | cons y m => exact Sim.bind (sim_store (h.add i) hl.1) fun β1 _ _ hle _ => ih m (i + 1) (h.mono hle) (LR.mono hle hl.2)

theorem sim_loadVar {a a' : Addr} (t : TypeId) (h : PR β a a') : Sim P B w0 β (loadVar t a) (loadVar t a') VR := by
  unfold loadVar
  refine Sim.bind (Sim.of_still (still_isAgg t) (D := fun _ x y => x = y) (fun _ _ => rfl)) fun β1 x y hle hxy => ?_
  subst hxy
  cases x with
  | false => exact sim_load (h.mono hle)
  | true =>
    simp only [if_true]
    refine Sim.bind (Sim.of_still (still_sizeOf t) (D := fun _ x y => x = y) (fun _ _ => rfl)) fun β2 n m hle2 hnm => ?_
    subst hnm
    refine Sim.bind (sim_loadCells ((h.mono hle).mono hle2) n) fun β3 c c' hle3 hc => ?_
    exact Sim.pure fun β4 hle4 => let k := hc.mono hle4; .agg k.1 k.2

theorem sim_storeVar {a a' : Addr} {v v' : Value} (t : TypeId) (h : PR β a a') (hv : VR β v v') : Sim P B w0 β (storeVar t a v) (storeVar t a' v') (fun _ _ _ => True) := by
  unfold storeVar
  refine Sim.bind (Sim.of_still (still_sizeOf t) (D := fun _ x y => x = y) (fun _ _ => rfl)) fun β1 n m hle hnm => ?_
  subst hnm
  have hc := (hv.mono hle).cells
  rw [← hc.1]
  split
  · exact Sim.stuck
  · exact sim_storeCells _ _ 0 (h.mono hle) hc.lr

theorem sim_newRow {c c' : Array Value} (e : TypeId) (hc : AR β c c') : Sim P B w0 β (newRow e c) (newRow e c') PR := by
  intro β1 σ w hle hR u σ' hu
  have hu' : Result.ok (⟨σ.heap.size, 0, none⟩ : Addr) (σ.alloc (.cells c e)) = .ok u σ' := hu
  simp only [Result.ok.injEq] at hu'
  obtain ⟨rfl, rfl⟩ := hu'
  have hc1 := hc.mono hle
  obtain ⟨bi, hbi⟩ : ∃ bi : BI, bi = ⟨w.heap.size, 0, c.size, ((P.info? e).map (·.size)).getD 0, c'.size⟩ := ⟨_, rfl⟩
  have hput : (β1.put σ.heap.size bi) σ.heap.size = some bi := by unfold Beta.put; rw [if_pos rfl]
  have hOR : OR (β1.put σ.heap.size bi) bi (.cells c e) (.cells c' e) := by
    refine .cells (by rw [hbi]) (by rw [hbi]) (by rw [hbi]; have := hc1.1; simp only; omega) ?_ (.inl ⟨rfl, rfl⟩)
    intro i v hv
    obtain ⟨v', h1, h2⟩ := hc1.get hv
    exact ⟨v', by rw [hbi]; simpa using h1, h2.mono (Beta.le_put hR.fresh)⟩
  subst hbi
  refine ⟨_, ⟨w.heap.size, 0, none⟩, w.alloc (.cells c' e), Beta.le_put hR.fresh, rfl, hR.alloc hOR ?_ rfl, ⟨σ.heap.size, 0, _, hput, rfl, rfl⟩⟩
  intro c2 e2 fz he i hi
  simp only [Obj.cells.injEq] at he
  obtain ⟨_, rfl, _⟩ := he
  simp [hi]

theorem sim_newVar {v v' : Value} (t : TypeId) (hv : VR β v v') : Sim P B w0 β (newVar t v) (newVar t v') PR := sim_newRow t hv.cells
end
end Go.Ideal
