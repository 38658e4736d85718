/-
  Objects: a call of both.
-/
import Derived.Test.YtkplodhjceieeaaZe
namespace Go.Proofs.Ytkplodhjceieeaa
open Go Go.Ideal

/-- What nobody writes, stays. -/
def KeepZ (w w' : World) : Prop := w.heap.size ≤ w'.heap.size ∧ ∀ j c e fz, cellsOf? w j = some (c, e, fz) → fz ≠ (0, 0) → cellsOf? w' j = some (c, e, fz)
theorem KeepZ.refl (w : World) : KeepZ w w := ⟨Nat.le_refl _, fun _ _ _ _ h _ => h⟩
theorem KeepZ.trans {a b c : World} (h : KeepZ a b) (k : KeepZ b c) : KeepZ a c := ⟨Nat.le_trans h.1 k.1, fun j c e fz h1 h2 => k.2 j c e fz (h.2 j c e fz h1 h2) h2⟩
theorem KeepT.z {w w' : World} (h : KeepT w w') : KeepZ w w' := ⟨h.1, fun j c e fz h1 h2 => h.2 j c e fz h1 (fun e => absurd e h2)⟩
theorem elems_keepZ {w w' : World} {v : Value} {es : Nat} {xs : List (Array Value)} (h : Elems w v es xs) (hes : 0 < es) (hf : Froz w v) (hk : KeepZ w w') : Elems w' v es xs := by
  obtain ⟨vb, vc, rfl, h2⟩ := h
  refine ⟨vb, vc, rfl, fun i hi => ?_⟩
  obtain ⟨b, o, c, e, fz, rfl, g2, g3, g4⟩ := h2 i hi
  exact ⟨b, o, c, e, fz, rfl, hk.2 _ _ _ _ g2 (hf b o _ _ c e fz rfl g2 (by omega)), g3, g4⟩

theorem row_keepT {α : Type} {E : En α} {w w' : World} {v : Value} {xs : List α} (h : RowE E w v xs) (h1 : E.te ≠ 81) (h2 : E.te ≠ 85) (hk : KeepT w w') : RowE E w' v xs := by
  rcases h with h | ⟨b, o, cap, c, rfl, hc, g⟩
  · exact .inl h
  · exact .inr ⟨b, o, cap, c, rfl, hk.2 _ _ _ _ hc (fun _ => ⟨h1, h2⟩), g⟩
theorem RefO.keepT {w w' : World} {x : Nat} {vh vl : Value} {s : OS} (h : RefO w x vh vl s) (hk : KeepT w w') : RefO w' x vh vl s :=
  ⟨hk.2 _ _ _ _ h.cell (fun _ => by decide), row_keepT h.held (by decide) (by decide) hk, row_keepT h.l (by decide) (by decide) hk⟩

theorem mvO_cells {w : World} {x : Nat} {vh vl : Value} {s : OS} (h : RefO w x vh vl s) {j : Nat} (hj : MvO x vh vl j) : ∃ c e, cellsOf? w j = some (c, e, (0, 0)) ∧ e ≠ 81 ∧ e ≠ 85 := by
  rcases hj with rfl | hj | hj
  · exact ⟨_, _, h.cell, by decide, by decide⟩
  · rcases h.held with ⟨rfl, _⟩ | ⟨b, o, cap, c, rfl, hc, _⟩
    · cases hj
    · simp at hj; subst hj; exact ⟨c, 3, hc, by decide, by decide⟩
  · rcases h.l with ⟨rfl, _⟩ | ⟨b, o, cap, c, rfl, hc, _⟩
    · cases hj
    · simp at hj; subst hj; exact ⟨c, 96, hc, by decide, by decide⟩
theorem mvO_z {w w' : World} {x : Nat} {vh vl : Value} {s : OS} (h : RefO w x vh vl s) (hk : Keeps w w' (MvO x vh vl)) : KeepZ w w' :=
  ⟨hk.1, fun j c e fz h1 h2 => hk.cells h1 fun hj => by
    obtain ⟨c', e', h3, _⟩ := mvO_cells h hj
    rw [h1] at h3
    simp only [Option.some.injEq, Prod.mk.injEq] at h3
    exact h2 h3.2.2⟩

theorem ObjAt.keepM {w w' : World} {b l r : Nat} {pb pf : Int → Nat} {s s2 : OS} {x : Nat} {vh vl : Value} (h : ObjAt w b l r pb pf s) (hr : RefO w x vh vl s2) (hk : Keeps w w' (MvO x vh vl)) : ObjAt w' b l r pb pf s := by
  have nm : ∀ {q : Nat} {m : MapL}, MapAt w q m → ¬ MvO x vh vl q := fun hm hj => by
    obtain ⟨c, e, h3, _⟩ := mvO_cells hr hj
    rw [hm.nocells] at h3; cases h3
  have nc : ∀ {j c e fz}, cellsOf? w j = some (c, e, fz) → e = 81 ∨ e = 85 → ¬ MvO x vh vl j := fun hc he hj => by
    obtain ⟨c', e', h3, h4, h5⟩ := mvO_cells hr hj
    rw [hc] at h3
    simp only [Option.some.injEq, Prod.mk.injEq] at h3
    rw [h3.2.1] at he
    exact he.elim h4 h5
  refine ⟨hk.cells h.cell (nc h.cell (.inl rfl)), ?_, ?_, fun id hl => hk.cells (h.obj id hl) (nc (h.obj id hl) (.inr rfl)), fun id hl => ?_, h.inj, h.injf, h.ne, h.nef⟩
  · obtain ⟨m, h1, h2⟩ := h.ml; exact ⟨m, h1.keep hk (nm h1), h2⟩
  · obtain ⟨m, h1, h2⟩ := h.mo; exact ⟨m, h1.keep hk (nm h1), h2⟩
  · obtain ⟨m, h1, h2⟩ := h.frs id hl; exact ⟨m, h1.keep hk (nm h1), h2⟩

structure Refs (K : Kont) : Prop where
  r : Ref3 K
  make : ∀ {w : World} {x : Nat} {vh vl : Value} {s : OS} {B : Nat}, RefO w x vh vl s → s.ok B → B ≤ 1000 → (K.enter 70 #[pt x] w).all fun z => z.1 = n64 s.held.length ∧ RefTo2 w z.2 x vh vl (makeA s)
  hold : ∀ {w : World} {x : Nat} {vh vl : Value} {s : OS} {B : Nat}, RefO w x vh vl s → s.ok B → B ≤ 1000 → ∀ id, (K.enter 71 #[pt x, n64 id] w).all fun z => z.1 = n64 (findE s id) ∧ RefTo2 w z.2 x vh vl (if 0 < heldA s id then putH s id (heldA s id + 1) else s)
  drop : ∀ {w : World} {x : Nat} {vh vl : Value} {s : OS} {B : Nat}, RefO w x vh vl s → s.ok B → B ≤ 1000 → ∀ id, (K.enter 72 #[pt x, n64 id] w).all fun z => ∃ vr, z.1 = .tuple #[vr, n64 (dropO s id).1.2] ∧ RowE (EInt 3) z.2 vr (dropO s id).1.1 ∧ RefTo2 w z.2 x vh vl (dropO s id).2
  set : ∀ {w : World} {x : Nat} {vh vl : Value} {s : OS} {B : Nat}, RefO w x vh vl s → s.ok B → ∀ id p f, (K.enter 73 #[pt x, n64 id, n64 p, n64 f] w).all fun z => z.1 = n64 (setO s id p f).1 ∧ RefTo2 w z.2 x vh vl (setO s id p f).2
  chg : ∀ {w : World} {x : Nat} {vh vl : Value} {s : OS} {B : Nat}, RefO w x vh vl s → s.ok B → ∀ a t, (K.enter 74 #[pt x, n64 a, n64 t] w).all fun z => z.1 = n64 (chgO s a t).1 ∧ RefTo2 w z.2 x vh vl (chgO s a t).2
  own : ∀ {w : World} {x : Nat} {vh vl : Value} {s : OS} {B : Nat}, RefO w x vh vl s → s.ok B → ∀ f, (K.enter 26 #[pt x, n64 f] w).all fun z => z.1 = ownT (ownA s f) ∧ z.2 = w
  len : ∀ {w : World} {x : Nat} {vh vl : Value} {s : OS} {B : Nat}, RefO w x vh vl s → s.ok B → B ≤ 1000 → (K.enter 23 #[pt x] w).all fun z => z.1 = n64 (lenA s) ∧ z.2 = w
  num : ∀ {w : World} {x y : Value} {l m : List Int}, SrcE (EInt 3) w x l → SrcE (EInt 3) w y m → l.length ≤ 2000 → (K.enter 28 #[x, y] w).all fun z => z.1 = .bool (decide (l = m)) ∧ z.2 = w
theorem refs (m : Nat) (hm : 4000 ≤ m) : Refs (KO (m + 3)) where
  r := ref3 (m + 1) (by omega)
  make := fun hp hs hB => enter_okH (m := m + 2) low70 (o0 (by decide) (by decide)) (run70 hp hs hB)
  hold := fun hp hs hB id => enter_okH (m := m + 2) low71 (o0 (by decide) (by decide)) (run71 (ref2 (m + 1) (by omega)) hp hs hB id)
  drop := fun hp hs hB id => enter_okH (m := m + 2) low72 (o0 (by decide) (by decide)) (run72 (ref3 m hm) (by omega) hp hs hB id)
  set := fun hp hs id p f => enter_okH (m := m + 2) low73 (o0 (by decide) (by decide)) (run73 (ref3 m hm) hp hs id p f)
  chg := fun hp hs a t => enter_okH (m := m + 2) low74 (o0 (by decide) (by decide)) (run74 (ref3 m hm) hp hs a t)
  own := fun hp hs f => enter_okH (m := m + 2) low26 (o0 (by decide) (by decide)) (run26 (ref2 (m + 1) (by omega)) hp hs f)
  len := fun hp hs hB => enter_okH (m := m + 2) low23 (o0 (by decide) (by decide)) (run23 (by omega) hp hs hB)
  num := fun hx hy hl => enter_okH (m := m + 2) low28 (o0 (by decide) (by decide)) (run28 (by omega) hx hy hl)

theorem set_casesO (s : OS) (id p f : Int) : ((setO s id p f).1 ≠ 0 ∧ (setO s id p f).2 = s) ∨ (setO s id p f = (0, setL s id p f) ∧ 0 < heldA s id ∧ (0 ≤ p ∧ p < 4096) ∧ (0 ≤ f ∧ f < 1024) ∧ pageA s id p = none ∧ ownA s f = none) := by
  unfold setO
  by_cases h1 : 0 < heldA s id
  · rw [if_neg (by simpa using h1)]
    by_cases h2 : (0 ≤ p ∧ p < 4096) ∧ (0 ≤ f ∧ f < 1024)
    · rw [if_neg (fun e => e h2)]
      by_cases h3 : pageA s id p ≠ none ∨ ownA s f ≠ none
      · rw [if_pos h3]; exact .inl ⟨by simp, rfl⟩
      · rw [if_neg h3]
        have h4 : pageA s id p = none := Classical.byContradiction fun e => h3 (.inl e)
        have h5 : ownA s f = none := Classical.byContradiction fun e => h3 (.inr e)
        exact .inr ⟨rfl, h1, h2.1, h2.2, h4, h5⟩
    · rw [if_pos h2]; exact .inl ⟨by simp, rfl⟩
  · rw [if_pos h1]; exact .inl ⟨by simp, rfl⟩

/-! ### A call of both -/
structure ActO where
  k : Int
  id : Int
  page : Int
  frame : Int
  to : Int
def ActO.cells (a : ActO) : Array Value := #[n64 a.k, n64 a.id, n64 a.page, n64 a.frame, n64 a.to]
noncomputable def stepO (s : OS) (a : ActO) : OS :=
  if a.k = 0 then makeA s else if a.k = 1 then (if 0 < heldA s a.id then putH s a.id (heldA s a.id + 1) else s) else if a.k = 2 then (dropO s a.id).2
  else if a.k = 3 ∨ a.k = 4 ∨ a.k = 5 then (setO s a.id a.page a.frame).2 else (chgO s a.frame a.to).2
theorem ok_mono {s : OS} {B C : Nat} (h : s.ok B) (hC : B ≤ C) : s.ok C := ⟨h.fr, h.pg, h.on, Nat.le_trans h.len hC, fun x hx => by have := h.bd x hx; omega⟩
theorem stepO_ok {s : OS} {B : Nat} (h : s.ok B) (a : ActO) : (stepO s a).ok (B + 1) := by
  unfold stepO
  split
  · exact make_ok h
  · split
    · split
      · rename_i hl
        have := held_bd h a.id
        exact put_ok h hl (by omega) (by omega) (by omega)
      · exact ok_mono h (by omega)
    · split
      · exact ok_mono (drop_ok h _) (by omega)
      · split
        · rcases set_casesO s a.id a.page a.frame with ⟨_, g⟩ | ⟨g, g2, g3, g4, g5, g6⟩
          · rw [g]; exact ok_mono h (by omega)
          · rw [g]; exact ok_mono (set_ok h g2 g3 g4 g5 g6) (by omega)
        · unfold chgO
          split
          · exact ok_mono h (by omega)
          · rename_i o ho
            split
            · exact ok_mono h (by omega)
            · rename_i hr
              split
              · exact ok_mono h (by omega)
              · rename_i hb
                exact ok_mono (move_ok h ho hb (Classical.not_not.1 hr)) (by omega)
end Go.Proofs.Ytkplodhjceieeaa
