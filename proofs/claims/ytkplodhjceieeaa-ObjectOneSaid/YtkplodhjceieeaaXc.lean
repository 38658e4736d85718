/-
  Objects: the program's calls.
-/
import Derived.Test.YtkplodhjceieeaaXb
namespace Go.Proofs.Ytkplodhjceieeaa
open Go Go.Ideal

structure Find (K : Kont) : Prop where
  find : ∀ {w : World} {b l : Nat} {pb pf : Int → Nat} {s : OS}, ObjR w b l pb pf s → ∀ id, (K.enter 48 #[pt b, n64 id] w).all fun x => x.1 = .tuple #[findP s pb id, n64 (findE s id)] ∧ x.2 = w
  frame : ∀ w f, (K.enter 49 #[n64 f] w).all fun x => x.1 = .bool (decide (0 ≤ f ∧ f < 1024)) ∧ x.2 = w
theorem find (m : Nat) : Find (KR (m + 1)) where
  find := fun hp id => enter_okH (m := m) low48 (by simp [sortH]) (run48 hp id)
  frame := fun w f => enter_okH (m := m) low49 (by simp [sortH]) (run49 f)

def ownT (o : Option On) : Value := match o with
  | some o => .tuple #[n64 o.id, n64 o.page, n64 0]
  | none => .tuple #[n64 0, n64 0, n64 6]

theorem run24 {K : Kont} {fuel : Nat} {w : World} {b l r : Nat} {pb pf : Int → Nat} {s : OS} (hp : ObjAt w b l r pb pf s) (f : Int) : wpGFn Try.prog K fuel 24 g24 #[pt b, n64 f] w fun v w' => v = ownT (ownA s f) ∧ Keeps w w' (fun _ => False) := by
  rw [gfn_start]
  obtain ⟨m, hm, hget⟩ := hp.mo
  have hl := lookup_map (w := w) (r := r) (m := m) (z := .agg #[.int .i64 0, .int .i64 0]) (i := f) (ok := true) hm.is
  rw [hget] at hl
  have kb : ∀ c : Array Value, Keeps w (World.set (World.push w (.cells #[.int .i64 0, .int .i64 0] 91)) w.heap.size (.cells c 91)) (fun _ => False) := fun c =>
    (Keeps.push w _ (fun _ => False)).trans (Keeps.set _ w.heap.size _ (F := fun j => j = w.heap.size) (fun _ => rfl)) (fun _ _ h => h) (fun j hj h => by omega)
  cases h : ownA s f with
  | some o =>
    simp only [h, Option.map_some, if_true] at hl
    simp -implicitDefEqProofs [g24, nil23, hp.cell, hl, ownT]
    exact kb _
  | none =>
    simp only [h, Option.map_none, if_true] at hl
    simp -implicitDefEqProofs [g24, nil23, hp.cell, hl, ownT]
    exact kb _

def pageT (s : OS) (id p : Int) : Value := if 0 < heldA s id then (match pageA s id p with
  | some o => .tuple #[n64 o.frame, n64 0]
  | none => .tuple #[n64 0, n64 6]) else .tuple #[n64 0, n64 6]

theorem run25 {K : Kont} {fuel : Nat} (hF : Find K) {w : World} {b l r : Nat} {pb pf : Int → Nat} {s : OS} (hp : ObjAt w b l r pb pf s) (id p : Int) : wpGFn Try.prog K fuel 25 g25 #[pt b, n64 id, n64 p] w fun v w' => v = pageT s id p ∧ w' = w := by
  rw [gfn_start]
  simp -implicitDefEqProofs [g25]
  refine valA_of (hF.find hp.r id) (fun u w1 hq => ?_)
  obtain ⟨hu, hw⟩ := hq
  simp only at hu hw
  subst hu hw
  by_cases h : 0 < heldA s id
  · obtain ⟨m, hm, hget⟩ := hp.frs id h
    have hl := lookup_map (w := w1) (r := pf id) (m := m) (z := n64 0) (i := p) (ok := true) hm.is
    rw [hget] at hl
    cases h2 : pageA s id p with
    | some o =>
      simp only [h2, Option.map_some, if_true] at hl
      simp -implicitDefEqProofs [findP, findE, h, hp.obj id h, hl, pageT, h2]
    | none =>
      simp only [h2, Option.map_none, if_true] at hl
      simp -implicitDefEqProofs [findP, findE, h, hp.obj id h, hl, pageT, h2]
  · simp -implicitDefEqProofs [findP, findE, h, pageT]

/-- What a changed count of holders leaves. -/
theorem ObjAt.put {w : World} {b l r : Nat} {pb pf : Int → Nat} {s : OS} (h : ObjAt w b l r pb pf s) {id x : Int} (hl : 0 < heldA s id) (hx : 0 < x) :
    ObjAt (World.set w (pb id) (.cells #[n64 x, .map (some (pf id))] 85)) b l r pb pf (putH s id x) ∧ KeepT w (World.set w (pb id) (.cells #[n64 x, .map (some (pf id))] 85)) := by
  have hk : Keeps w (World.set w (pb id) (.cells #[n64 x, .map (some (pf id))] 85)) (fun j => j = pb id) := Keeps.set _ _ _ (fun _ => rfl)
  have ho := h.obj id hl
  have hlt := cells_lt ho
  have hlive : ∀ j, 0 < heldA (putH s id x) j ↔ 0 < heldA s j := fun j => by
    rw [held_put hl]
    split
    · rename_i e; subst e; exact ⟨fun _ => hl, fun _ => hx⟩
    · rfl
  have nm : ∀ {q : Nat} {m : MapL}, MapAt w q m → ¬ q = pb id := fun hm e => by
    subst e; rw [hm.nocells] at ho; cases ho
  refine ⟨⟨?_, ?_, ?_, fun j hj => ?_, fun j hj => ?_, fun i j hi hj => h.inj i j ((hlive i).1 hi) ((hlive j).1 hj), fun i j hi hj => h.injf i j ((hlive i).1 hi) ((hlive j).1 hj), h.ne, fun i hi => h.nef i ((hlive i).1 hi)⟩, KeepT.of hk fun j c e fz hj hc => ?_⟩
  · have hc := hk.cells h.cell (fun e => by have := h.cell; rw [e, ho] at this; simp at this)
    rw [hc]; simp [putH]
  · obtain ⟨m, h1, h2⟩ := h.ml
    refine ⟨m, h1.keep hk (nm h1), fun j => ?_⟩
    rw [h2]
    by_cases hj : 0 < heldA s j
    · rw [if_pos hj, if_pos ((hlive j).2 hj)]
    · rw [if_neg hj, if_neg (fun e => hj ((hlive j).1 e))]
  · obtain ⟨m, h1, h2⟩ := h.mo
    exact ⟨m, h1.keep hk (nm h1), h2⟩
  · rw [held_put hl]
    by_cases he : j = id
    · subst he
      simp [hlt]
    · rw [if_neg he]
      have hj' := (hlive j).1 hj
      exact hk.cells (h.obj j hj') (fun e => he (h.inj j id hj' hl e))
  · obtain ⟨m, h1, h2⟩ := h.frs j ((hlive j).1 hj)
    exact ⟨m, h1.keep hk (nm h1), h2⟩
  · subst hj; rw [ho] at hc; simp at hc; exact ⟨hc.2.2.symm, .inr hc.2.1.symm⟩

theorem run18 {K : Kont} {fuel : Nat} (hF : Find K) {w : World} {b l r : Nat} {pb pf : Int → Nat} {s : OS} {B : Nat} (hp : ObjAt w b l r pb pf s) (hs : s.ok B) (hB : B < 1000000) (id : Int) :
    wpGFn Try.prog K fuel 18 g18 #[pt b, n64 id] w fun v w' => v = n64 (findE s id) ∧ ObjAt w' b l r pb pf (if 0 < heldA s id then putH s id (heldA s id + 1) else s) ∧ KeepT w w' := by
  rw [gfn_start]
  simp -implicitDefEqProofs [g18]
  refine valA_of (hF.find hp.r id) (fun u w1 hq => ?_)
  obtain ⟨hu, hw⟩ := hq
  simp only at hu hw
  subst hu hw
  have hbd := held_bd hs id
  have hw : IntKind.i64.wrap (heldA s id + 1) = heldA s id + 1 := by rw [IntKind.wrap_i64]; omega
  by_cases h : 0 < heldA s id
  · simp -implicitDefEqProofs [findP, findE, h, hp.obj id h, hw]
    exact hp.put h (by omega)
  · simp -implicitDefEqProofs [findP, findE, h]
    exact ⟨hp, KeepT.refl _⟩

/-- A new object's block, and its map's. -/
def upd (f : Int → Nat) (i : Int) (x : Nat) : Int → Nat := fun j => if j = i then x else f j

theorem run16 {K : Kont} {fuel : Nat} {w : World} {b l r : Nat} {pb pf : Int → Nat} {s : OS} {B : Nat} (hp : ObjAt w b l r pb pf s) (hs : s.ok B) (hB : B < 1000000) :
    wpGFn Try.prog K fuel 16 g16 #[pt b] w fun v w' => v = n64 s.held.length ∧ (∃ x y, ObjAt w' b l r (upd pb s.held.length x) (upd pf s.held.length y) (makeA s)) ∧ KeepT w w' := by
  rw [gfn_start]
  obtain ⟨m, hm, hget⟩ := hp.ml
  have hbl := cells_lt hp.cell
  have hb1 : ¬ b = w.heap.size := by omega
  have hb2 : ¬ b = w.heap.size + 1 := by omega
  have hlm := hm.lt
  have hlb : ¬ l = b := fun e => by subst e; have := hp.cell; rw [hm.nocells] at this; cases this
  generalize hW2 : World.push (World.push w (.map #[] 0)) (.cells #[n64 1, .map (some w.heap.size)] 85) = W2 at *
  have k2 : Keeps w W2 (fun _ => False) := by rw [← hW2]; exact (Keeps.push _ _ _).trans (Keeps.push _ _ _) (fun _ _ h => h) (fun _ _ h => h)
  have c2 : cellsOf? W2 (w.heap.size + 1) = some (#[n64 1, .map (some w.heap.size)], 85, (0, 0)) := by rw [← hW2]; simp
  have m2 : MapAt W2 w.heap.size [] := by rw [← hW2]; exact (MapAt.push w).keep (Keeps.push _ _ (fun _ => False)) (fun h => h)
  have z2 : W2.heap.size = w.heap.size + 2 := by rw [← hW2]; simp
  have hcb : cellsOf? W2 b = some (#[n64 s.held.length, .map (some l), .map (some r)], 81, (0, 0)) := k2.cells hp.cell (fun h => h)
  have hwr : IntKind.i64.wrap ((s.held.length : Int) + 1) = (s.held.length : Int) + 1 := by have := hs.len; rw [IntKind.wrap_i64]; omega
  have hwr2 : IntKind.i64.wrap (s.held.length : Int) = (s.held.length : Int) := by have := hs.len; rw [IntKind.wrap_i64]; omega
  have fin : ∀ es n, MapAt (World.set W2 l (.map es n)) l (putM m s.held.length (pt (w.heap.size + 1))) →
      (∃ x y, ObjAt (World.set (World.set W2 l (.map es n)) b (.cells #[n64 (s.held.length + 1), .map (some l), .map (some r)] 81)) b l r (upd pb s.held.length x) (upd pf s.held.length y) (makeA s)) ∧ KeepT w (World.set (World.set W2 l (.map es n)) b (.cells #[n64 (s.held.length + 1), .map (some l), .map (some r)] 81)) := by
    intro es n hm3
    have k3 : Keeps W2 (World.set W2 l (.map es n)) (fun j => j = l) := Keeps.set _ _ _ (fun _ => rfl)
    have k4 : Keeps (World.set W2 l (.map es n)) (World.set (World.set W2 l (.map es n)) b (.cells #[n64 (s.held.length + 1), .map (some l), .map (some r)] 81)) (fun j => j = b) := Keeps.set _ _ _ (fun _ => rfl)
    have k24 := k3.trans k4 (H := fun j => j = l ∨ j = b) (fun _ _ h => .inl h) (fun _ _ h => .inr h)
    have k := k2.trans k24 (H := fun j => j = l ∨ j = b) (fun _ _ h => h.elim) (fun _ _ h => h)
    have nl : ∀ {j c e fz}, cellsOf? w j = some (c, e, fz) → ¬ j = l := fun hc e => by subst e; rw [hm.nocells] at hc; cases hc
    have nb : ∀ {q : Nat} {m : MapL}, MapAt w q m → ¬ q = b := fun hq e => by subst e; have := hp.cell; rw [hq.nocells] at this; cases this
    have hlen : ¬ 0 < heldA s s.held.length := fun h => by have := held_lt h; omega
    have hlive : ∀ j, 0 < heldA (makeA s) j → j = s.held.length ∨ (j ≠ s.held.length ∧ 0 < heldA s j) := fun j hj => by
      rw [held_make] at hj
      split at hj
      · rename_i e; exact .inl e
      · rename_i e; exact .inr ⟨e, hj⟩
    have pbl : ∀ j, 0 < heldA s j → pb j < w.heap.size := fun j hj => cells_lt (hp.obj j hj)
    have pfl : ∀ j, 0 < heldA s j → pf j < w.heap.size := fun j hj => by obtain ⟨_, h, _⟩ := hp.frs j hj; exact h.lt
    have rlt : r < w.heap.size := by obtain ⟨_, h, _⟩ := hp.mo; exact h.lt
    have e0 : upd pb s.held.length (w.heap.size + 1) s.held.length = w.heap.size + 1 := by simp [upd]
    have e1 : upd pf s.held.length w.heap.size s.held.length = w.heap.size := by simp [upd]
    have f0 : ∀ j : Int, j ≠ s.held.length → upd pb s.held.length (w.heap.size + 1) j = pb j := fun j hj => by simp [upd, hj]
    have f1 : ∀ j : Int, j ≠ s.held.length → upd pf s.held.length w.heap.size j = pf j := fun j hj => by simp [upd, hj]
    refine ⟨⟨w.heap.size + 1, w.heap.size, ⟨?_, ?_, ?_, fun j hj => ?_, fun j hj => ?_, fun i j hi hj he => ?_, fun i j hi hj he => ?_, hp.ne, fun i hi => ?_⟩⟩, KeepT.of k fun j c e fz hj hc => ?_⟩
    · have : b < W2.heap.size := by omega
      simp [this, makeA]
    · refine ⟨_, hm3.keep k4 hlb, fun j => ?_⟩
      rw [getM_put, hget, held_make]
      by_cases hj : j = s.held.length
      · rw [if_pos hj, if_pos hj, if_pos (by decide), hj, e0]
      · rw [if_neg hj, if_neg hj, f0 j hj]
    · obtain ⟨mo, h1, h2⟩ := hp.mo
      exact ⟨mo, h1.keep k (fun h => h.elim (fun e => hp.ne e.symm) (fun e => nb h1 e)), h2⟩
    · rw [held_make]
      rcases hlive j hj with rfl | ⟨hne, hj'⟩
      · rw [if_pos rfl, e0, e1]
        exact k24.cells c2 (fun h => by omega)
      · rw [if_neg hne, f0 j hne, f1 j hne]
        have hc := hp.obj j hj'
        exact k.cells hc (fun h => h.elim (nl hc) (fun e => by rw [e, hp.cell] at hc; simp at hc))
    · rcases hlive j hj with rfl | ⟨hne, hj'⟩
      · rw [e1]
        refine ⟨[], m2.keep k24 (fun h => by omega), fun p => ?_⟩
        have : pageA (makeA s) s.held.length p = none := page_none.2 fun o ho h => by
          have := (hs.on o ho).1
          rw [h.1] at this
          exact hlen this
        rw [this]; rfl
      · rw [f1 j hne]
        obtain ⟨mf, h1, h2⟩ := hp.frs j hj'
        exact ⟨mf, h1.keep k (fun h => h.elim (hp.nef j hj').1 (nb h1)), h2⟩
    · rcases hlive i hi with rfl | ⟨hni, hi'⟩ <;> rcases hlive j hj with rfl | ⟨hnj, hj'⟩
      · rfl
      · rw [e0, f0 j hnj] at he; have := pbl j hj'; omega
      · rw [e0, f0 i hni] at he; have := pbl i hi'; omega
      · rw [f0 i hni, f0 j hnj] at he; exact hp.inj i j hi' hj' he
    · rcases hlive i hi with rfl | ⟨hni, hi'⟩ <;> rcases hlive j hj with rfl | ⟨hnj, hj'⟩
      · rfl
      · rw [e1, f1 j hnj] at he; have := pfl j hj'; omega
      · rw [e1, f1 i hni] at he; have := pfl i hi'; omega
      · rw [f1 i hni, f1 j hnj] at he; exact hp.injf i j hi' hj' he
    · rcases hlive i hi with rfl | ⟨hni, hi'⟩
      · rw [e1]; omega
      · rw [f1 i hni]; exact hp.nef i hi'
    · rcases hj with rfl | rfl
      · exact absurd rfl (nl hc)
      · rw [hp.cell] at hc; simp at hc; exact ⟨hc.2.2.symm, .inl hc.2.1.symm⟩
  simp -implicitDefEqProofs [g16, nil23, hp.cell, hb1, hb2, veq, fillS, Instr.fill, hW2, hcb]
  refine updateA (m := m) (hm.keep k2 (fun h => h)) (fun es n hm3 => ?_)
  have hc3 : cellsOf? (World.set W2 l (.map es n)) b = some (#[n64 s.held.length, .map (some l), .map (some r)], 81, (0, 0)) := (Keeps.set W2 l _ (F := fun j => j = l) (fun _ => rfl)).cells hcb (fun e => hlb e.symm)
  have hlt3 : b < W2.heap.size := by omega
  obtain ⟨x1, x2⟩ := fin es n hm3
  simp -implicitDefEqProofs [hc3, hlt3, hwr, hwr2]
  exact ⟨x1, x2⟩
end Go.Proofs.Ytkplodhjceieeaa
