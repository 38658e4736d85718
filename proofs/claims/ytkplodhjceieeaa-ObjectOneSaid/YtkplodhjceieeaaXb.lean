/-
  Objects: what they are, and how they lie.
-/
import Derived.Test.YtkplodhjceieeaaXa
import Derived.Test.YtkplodhjceieeaaJu
import Derived.Test.YtkplodhjceieeaaUk
namespace Go.Proofs.Ytkplodhjceieeaa
open Go Go.Ideal

/-! ### What they are -/
structure On where
  id : Int
  page : Int
  frame : Int
structure OS where
  held : List Int
  l : List On

def heldA (s : OS) (id : Int) : Int := if 0 ≤ id then (s.held[id.toNat]?).getD 0 else 0
def ownA (s : OS) (f : Int) : Option On := s.l.find? fun o => decide (o.frame = f)
def pageA (s : OS) (id p : Int) : Option On := s.l.find? fun o => decide (o.id = id ∧ o.page = p)

structure OS.ok (s : OS) (B : Nat) : Prop where
  fr : (s.l.map (·.frame)).Nodup
  pg : (s.l.map fun o => (o.id, o.page)).Nodup
  on : ∀ o ∈ s.l, 0 < heldA s o.id ∧ (0 ≤ o.page ∧ o.page < 4096) ∧ (0 ≤ o.frame ∧ o.frame < 1024)
  len : s.held.length ≤ B
  bd : ∀ h ∈ s.held, 0 ≤ h ∧ h ≤ B

theorem held_bd {s : OS} {B : Nat} (h : s.ok B) (id : Int) : 0 ≤ heldA s id ∧ heldA s id ≤ B := by
  unfold heldA
  split
  · cases hk : s.held[id.toNat]? with
    | none => simp
    | some x => exact h.bd x (List.mem_of_getElem? hk)
  · omega
theorem held_lt {s : OS} {id : Int} (h : 0 < heldA s id) : 0 ≤ id ∧ id.toNat < s.held.length := by
  unfold heldA at h
  split at h
  · rename_i h0
    refine ⟨h0, Decidable.byContradiction fun hh => ?_⟩
    rw [List.getElem?_eq_none (by omega)] at h
    simp at h
  · omega

def putH (s : OS) (id h : Int) : OS := { s with held := s.held.set id.toNat h }
theorem held_put {s : OS} {id : Int} (h : 0 < heldA s id) (x : Int) (j : Int) : heldA (putH s id x) j = if j = id then x else heldA s j := by
  obtain ⟨h0, h1⟩ := held_lt h
  unfold heldA putH
  simp only
  by_cases hj : 0 ≤ j
  · rw [if_pos hj, if_pos hj, List.getElem?_set]
    by_cases he : id.toNat = j.toNat
    · have : j = id := by omega
      rw [if_pos he, if_pos h1, if_pos this]; rfl
    · have : ¬ j = id := by omega
      rw [if_neg he, if_neg this]
  · rw [if_neg hj, if_neg (by omega), if_neg hj]
def makeA (s : OS) : OS := { s with held := s.held ++ [1] }
theorem held_make (s : OS) (j : Int) : heldA (makeA s) j = if j = s.held.length then 1 else heldA s j := by
  unfold heldA makeA
  simp only
  by_cases hj : 0 ≤ j
  · rw [if_pos hj, if_pos hj, List.getElem?_append]
    by_cases he : j.toNat < s.held.length
    · rw [if_pos he, if_neg (by omega)]
    · rw [if_neg he]
      by_cases h2 : j = s.held.length
      · have : j.toNat - s.held.length = 0 := by omega
        rw [if_pos h2, this]; rfl
      · obtain ⟨k, hk⟩ : ∃ k, j.toNat - s.held.length = k + 1 := ⟨j.toNat - s.held.length - 1, by omega⟩
        rw [if_neg h2, hk, List.getElem?_eq_none (l := s.held) (by omega)]; rfl
  · rw [if_neg hj, if_neg (by omega), if_neg hj]

theorem own_some {s : OS} {f : Int} {o : On} (h : ownA s f = some o) : o ∈ s.l ∧ o.frame = f := by
  have h1 := List.mem_of_find?_eq_some h
  have h2 := List.find?_some h
  exact ⟨h1, of_decide_eq_true h2⟩
theorem own_none {s : OS} {f : Int} : ownA s f = none ↔ ∀ o ∈ s.l, o.frame ≠ f := by
  unfold ownA
  rw [List.find?_eq_none]
  simp
theorem page_some {s : OS} {id p : Int} {o : On} (h : pageA s id p = some o) : o ∈ s.l ∧ o.id = id ∧ o.page = p := by
  have h1 := List.mem_of_find?_eq_some h
  have h2 := List.find?_some h
  exact ⟨h1, of_decide_eq_true h2⟩
theorem page_none {s : OS} {id p : Int} : pageA s id p = none ↔ ∀ o ∈ s.l, ¬ (o.id = id ∧ o.page = p) := by
  unfold pageA
  rw [List.find?_eq_none]
  simp
theorem own_of {s : OS} {B : Nat} (h : s.ok B) {o : On} (ho : o ∈ s.l) : ownA s o.frame = some o := by
  cases hk : ownA s o.frame with
  | none => exact absurd rfl (own_none.1 hk o ho)
  | some o' =>
    obtain ⟨h1, h2⟩ := own_some hk
    obtain ⟨i, hi, rfl⟩ := List.getElem_of_mem ho
    obtain ⟨j, hj, rfl⟩ := List.getElem_of_mem h1
    have : j = i := (List.getElem_inj (h₀ := by rw [List.length_map]; exact hj) (h₁ := by rw [List.length_map]; exact hi) h.fr).1 (by simpa using h2)
    subst this; rfl
theorem page_of {s : OS} {B : Nat} (h : s.ok B) {o : On} (ho : o ∈ s.l) : pageA s o.id o.page = some o := by
  cases hk : pageA s o.id o.page with
  | none => exact absurd ⟨rfl, rfl⟩ (page_none.1 hk o ho)
  | some o' =>
    obtain ⟨h1, h2, h3⟩ := page_some hk
    obtain ⟨i, hi, rfl⟩ := List.getElem_of_mem ho
    obtain ⟨j, hj, rfl⟩ := List.getElem_of_mem h1
    have : j = i := (List.getElem_inj (h₀ := by rw [List.length_map]; exact hj) (h₁ := by rw [List.length_map]; exact hi) h.pg).1 (by simp [h2, h3])
    subst this; rfl

def setL (s : OS) (id p f : Int) : OS := { s with l := s.l ++ [⟨id, p, f⟩] }
theorem own_set {s : OS} {id p f : Int} (hf : ownA s f = none) (g : Int) : ownA (setL s id p f) g = if g = f then some ⟨id, p, f⟩ else ownA s g := by
  unfold ownA setL at *
  rw [List.find?_append]
  by_cases hg : g = f
  · subst hg; rw [hf]; simp
  · rw [if_neg hg]
    cases List.find? (fun o : On => decide (o.frame = g)) s.l with
    | some o => rfl
    | none => simp; omega
theorem page_set {s : OS} {id p f : Int} (hp : pageA s id p = none) (i q : Int) : pageA (setL s id p f) i q = if i = id ∧ q = p then some ⟨id, p, f⟩ else pageA s i q := by
  unfold pageA setL at *
  rw [List.find?_append]
  by_cases hg : i = id ∧ q = p
  · obtain ⟨rfl, rfl⟩ := hg; rw [hp]; simp
  · rw [if_neg hg]
    cases List.find? (fun o : On => decide (o.id = i ∧ o.page = q)) s.l with
    | some o => rfl
    | none => simp; omega

theorem put_ok {s : OS} {B C : Nat} (h : s.ok B) {id x : Int} (hl : 0 < heldA s id) (h0 : 0 < x) (hx : x ≤ C) (hB : B ≤ C) : (putH s id x).ok C where
  fr := h.fr
  pg := h.pg
  on := fun o ho => by
    obtain ⟨h1, h2⟩ := h.on o ho
    refine ⟨?_, h2⟩
    rw [held_put hl]
    split <;> omega
  len := by unfold putH; rw [List.length_set]; exact Nat.le_trans h.len hB
  bd := fun y hy => by
    rcases List.mem_or_eq_of_mem_set hy with hy | rfl
    · have := h.bd y hy; omega
    · omega
theorem make_ok {s : OS} {B : Nat} (h : s.ok B) : (makeA s).ok (B + 1) where
  fr := h.fr
  pg := h.pg
  on := fun o ho => by
    obtain ⟨h1, h2⟩ := h.on o ho
    refine ⟨?_, h2⟩
    rw [held_make]
    split <;> omega
  len := by unfold makeA; rw [List.length_append]; have := h.len; simp; omega
  bd := fun y hy => by
    simp only [makeA, List.mem_append, List.mem_singleton] at hy
    rcases hy with hy | rfl
    · have := h.bd y hy; omega
    · omega
theorem set_ok {s : OS} {B : Nat} (h : s.ok B) {id p f : Int} (hl : 0 < heldA s id) (hp : 0 ≤ p ∧ p < 4096) (hf : 0 ≤ f ∧ f < 1024) (h1 : pageA s id p = none) (h2 : ownA s f = none) : (setL s id p f).ok B where
  fr := by
    simp only [setL, List.map_append, List.nodup_append]
    refine ⟨h.fr, by simp, fun a ha b hb => ?_⟩
    simp at hb; subst hb
    obtain ⟨o, ho, rfl⟩ := List.mem_map.1 ha
    exact own_none.1 h2 o ho
  pg := by
    simp only [setL, List.map_append, List.nodup_append]
    refine ⟨h.pg, by simp, fun a ha b hb => ?_⟩
    simp at hb; subst hb
    obtain ⟨o, ho, rfl⟩ := List.mem_map.1 ha
    intro e
    simp only [Prod.mk.injEq] at e
    exact page_none.1 h1 o ho e
  on := fun o ho => by
    simp only [setL, List.mem_append, List.mem_singleton] at ho
    rcases ho with ho | rfl
    · exact h.on o ho
    · exact ⟨hl, hp, hf⟩
  len := h.len
  bd := h.bd

/-! ### How they lie -/
structure ObjAt (w : World) (b l r : Nat) (pb pf : Int → Nat) (s : OS) : Prop where
  cell : cellsOf? w b = some (#[n64 s.held.length, .map (some l), .map (some r)], 81, (0, 0))
  ml : ∃ m, MapAt w l m ∧ ∀ id, getM m id = if 0 < heldA s id then some (pt (pb id)) else none
  mo : ∃ m, MapAt w r m ∧ ∀ f, getM m f = (ownA s f).map fun o => .agg #[n64 o.id, n64 o.page]
  obj : ∀ id, 0 < heldA s id → cellsOf? w (pb id) = some (#[n64 (heldA s id), .map (some (pf id))], 85, (0, 0))
  frs : ∀ id, 0 < heldA s id → ∃ m, MapAt w (pf id) m ∧ ∀ p, getM m p = (pageA s id p).map fun o => n64 o.frame
  inj : ∀ i j, 0 < heldA s i → 0 < heldA s j → pb i = pb j → i = j
  injf : ∀ i j, 0 < heldA s i → 0 < heldA s j → pf i = pf j → i = j
  ne : l ≠ r
  nef : ∀ i, 0 < heldA s i → pf i ≠ l ∧ pf i ≠ r

/-- What a look at one object's frames needs. -/
structure ObjR (w : World) (b l : Nat) (pb pf : Int → Nat) (s : OS) : Prop where
  cell : ∃ x y, cellsOf? w b = some (#[x, .map (some l), y], 81, (0, 0))
  ml : ∃ m, MapAt w l m ∧ ∀ id, getM m id = if 0 < heldA s id then some (pt (pb id)) else none
  obj : ∀ id, 0 < heldA s id → ∃ x, cellsOf? w (pb id) = some (#[x, .map (some (pf id))], 85, (0, 0))
  frs : ∀ id, 0 < heldA s id → ∃ m, MapAt w (pf id) m ∧ ∀ p, getM m p = (pageA s id p).map fun o => n64 o.frame
theorem ObjAt.r {w : World} {b l r : Nat} {pb pf : Int → Nat} {s : OS} (h : ObjAt w b l r pb pf s) : ObjR w b l pb pf s := ⟨⟨_, _, h.cell⟩, h.ml, fun id hl => ⟨_, h.obj id hl⟩, h.frs⟩

/-- All stays but blocks of objects, and maps. -/
def KeepT (w w' : World) : Prop := w.heap.size ≤ w'.heap.size ∧ ∀ j c e fz, cellsOf? w j = some (c, e, fz) → (fz = (0, 0) → e ≠ 81 ∧ e ≠ 85) → cellsOf? w' j = some (c, e, fz)
theorem KeepT.refl (w : World) : KeepT w w := ⟨Nat.le_refl _, fun _ _ _ _ h _ => h⟩
theorem KeepT.trans {a b c : World} (h : KeepT a b) (k : KeepT b c) : KeepT a c := ⟨Nat.le_trans h.1 k.1, fun j c e fz h1 h2 => k.2 j c e fz (h.2 j c e fz h1 h2) h2⟩
theorem KeepT.of {w w' : World} {F : Nat → Prop} (h : Keeps w w' F) (hF : ∀ j c e fz, F j → cellsOf? w j = some (c, e, fz) → fz = (0, 0) ∧ (e = 81 ∨ e = 85)) : KeepT w w' :=
  ⟨h.1, fun j c e fz h1 h2 => h.cells h1 fun hf => by
    obtain ⟨h3, h4⟩ := hF j c e fz hf h1
    have := h2 h3
    exact h4.elim this.1 this.2⟩
theorem KeepT.of0 {w w' : World} (h : Keeps w w' (fun _ => False)) : KeepT w w' := KeepT.of h fun _ _ _ _ h => h.elim

theorem ObjAt.keep {w w' : World} {b l r : Nat} {pb pf : Int → Nat} {s : OS} (h : ObjAt w b l r pb pf s) (hk : Keeps w w' (fun _ => False)) : ObjAt w' b l r pb pf s where
  cell := hk.cells h.cell (fun h => h)
  ml := by obtain ⟨m, h1, h2⟩ := h.ml; exact ⟨m, h1.keep hk (fun h => h), h2⟩
  mo := by obtain ⟨m, h1, h2⟩ := h.mo; exact ⟨m, h1.keep hk (fun h => h), h2⟩
  obj := fun id hl => hk.cells (h.obj id hl) (fun h => h)
  frs := fun id hl => by obtain ⟨m, h1, h2⟩ := h.frs id hl; exact ⟨m, h1.keep hk (fun h => h), h2⟩
  inj := h.inj
  injf := h.injf
  ne := h.ne
  nef := h.nef

/-! ### The program's calls -/
theorem nil23 {o1 o2 : Operand} {p : Option Addr} {w : World} : binS Try.prog .eql 23 o1 o2 (.pointer p) (.pointer none) w = .ret (.bool p.isNone, w) := nilEq (by kernel_rfl) (by kernel_rfl)
theorem nil82 {o1 o2 : Operand} {p : Option Addr} {w : World} : binS Try.prog .eql 82 o1 o2 (.pointer p) (.pointer none) w = .ret (.bool p.isNone, w) := nilEq (by kernel_rfl) (by kernel_rfl)

def findE (s : OS) (id : Int) : Int := if 0 < heldA s id then 0 else 6
def findP (s : OS) (pb : Int → Nat) (id : Int) : Value := if 0 < heldA s id then pt (pb id) else .pointer none

theorem run48 {K : Kont} {fuel : Nat} {w : World} {b l : Nat} {pb pf : Int → Nat} {s : OS} (hp : ObjR w b l pb pf s) (id : Int) : wpGFn Try.prog K fuel 48 g48 #[pt b, n64 id] w fun v w' => v = .tuple #[findP s pb id, n64 (findE s id)] ∧ w' = w := by
  rw [gfn_start]
  obtain ⟨m, hm, hget⟩ := hp.ml
  obtain ⟨x, y, hc⟩ := hp.cell
  have hl := lookup_map (w := w) (r := l) (m := m) (z := .pointer none) (i := id) (ok := false) hm.is
  rw [hget] at hl
  by_cases h : 0 < heldA s id
  · simp only [h, if_true] at hl
    simp -implicitDefEqProofs [g48, nil23, nil82, hc, hl, findP, findE, h]
  · simp only [h, if_false] at hl
    simp -implicitDefEqProofs [g48, nil23, nil82, hc, hl, findP, findE, h]

theorem run49 {K : Kont} {fuel : Nat} {w : World} (f : Int) : wpGFn Try.prog K fuel 49 g49 #[n64 f] w fun v w' => v = .bool (decide (0 ≤ f ∧ f < 1024)) ∧ w' = w := by
  rw [gfn_start]
  by_cases h : 0 ≤ f
  · by_cases h2 : f < 1024 <;> simp -implicitDefEqProofs [g49, h, h2]
  · simp -implicitDefEqProofs [g49, h]
end Go.Proofs.Ytkplodhjceieeaa
