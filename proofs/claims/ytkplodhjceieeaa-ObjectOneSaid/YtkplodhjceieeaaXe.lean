/-
  Objects: Change, Frames, Len, New.
-/
import Derived.Test.YtkplodhjceieeaaXd
namespace Go.Proofs.Ytkplodhjceieeaa
open Go Go.Ideal

structure Own (K : Kont) : Prop where
  f : Find K
  own : ∀ {w : World} {b l r : Nat} {pb pf : Int → Nat} {s : OS}, ObjAt w b l r pb pf s → ∀ f, (K.enter 24 #[pt b, n64 f] w).all fun x => x.1 = ownT (ownA s f) ∧ Keeps w x.2 (fun _ => False)
theorem own0 (m : Nat) : Own (KR (m + 1)) where
  f := find m
  own := fun hp f => enter_okH (m := m) low24 (by simp [sortH]) (run24 hp f)

theorem find_congr {α : Type} {p q : α → Bool} : ∀ {l : List α}, (∀ x ∈ l, p x = q x) → l.find? p = l.find? q
  | [], _ => rfl
  | a :: l, h => by
    rw [List.find?_cons, List.find?_cons, h a (by simp), find_congr (fun x hx => h x (by simp [hx]))]

def mv (a b : Int) (o : On) : On := if o.frame = a then { o with frame := b } else o
def moveL (s : OS) (a b : Int) : OS := { s with l := s.l.map (mv a b) }
def chgO (s : OS) (a b : Int) : Int × OS := match ownA s a with
  | none => (6, s)
  | some _ => if ¬ (0 ≤ b ∧ b < 1024) then (3, s) else match ownA s b with
    | some _ => (7, s)
    | none => (0, moveL s a b)

theorem mv_id (a b : Int) (o : On) : (mv a b o).id = o.id ∧ (mv a b o).page = o.page := by unfold mv; split <;> exact ⟨rfl, rfl⟩
theorem page_move (s : OS) (a b i q : Int) : pageA (moveL s a b) i q = (pageA s i q).map (mv a b) := by
  unfold pageA moveL
  rw [List.find?_map]
  congr 2
  funext o
  simp only [Function.comp_apply, (mv_id a b o).1, (mv_id a b o).2]
theorem own_move {s : OS} {B : Nat} (h : s.ok B) {a b : Int} {o : On} (ho : ownA s a = some o) (hb : ownA s b = none) (g : Int) : ownA (moveL s a b) g = if g = b then some { o with frame := b } else if g = a then none else ownA s g := by
  obtain ⟨h1, h2⟩ := own_some ho
  have hab : a ≠ b := fun e => by rw [e, hb] at ho; cases ho
  have hall := own_none.1 hb
  by_cases hg : g = b
  · rw [if_pos hg, hg]
    unfold ownA moveL
    rw [List.find?_map]
    have : List.find? ((fun o : On => decide (o.frame = b)) ∘ mv a b) s.l = List.find? (fun o : On => decide (o.frame = a)) s.l := by
      apply find_congr
      intro x hx
      have := hall x hx
      simp only [Function.comp_apply, mv]
      split
      · rename_i e; simp [e]
      · rename_i e; simp [e, this]
    rw [this]
    have ho' : List.find? (fun o : On => decide (o.frame = a)) s.l = some o := ho
    rw [ho']
    simp [mv, h2]
  · rw [if_neg hg]
    by_cases hga : g = a
    · rw [if_pos hga, hga]
      refine own_none.2 fun x hx => ?_
      obtain ⟨y, hy, rfl⟩ := List.mem_map.1 hx
      unfold mv
      split
      · exact fun e => hab e.symm
      · assumption
    · rw [if_neg hga]
      unfold ownA moveL
      rw [List.find?_map]
      have : List.find? ((fun o : On => decide (o.frame = g)) ∘ mv a b) s.l = List.find? (fun o : On => decide (o.frame = g)) s.l := by
        apply find_congr
        intro x hx
        simp only [Function.comp_apply, mv]
        split
        · rename_i e; simp only; rw [e]; simp [hga, hg]; constructor <;> exact fun e => by omega
        · rfl
      rw [this]
      cases hk : List.find? (fun o : On => decide (o.frame = g)) s.l with
      | none => rfl
      | some x =>
        have := own_some (s := s) (f := g) hk
        simp only [Option.map_some, mv, this.2, if_neg hga]

theorem move_ok {s : OS} {B : Nat} (h : s.ok B) {a b : Int} {o : On} (ho : ownA s a = some o) (hb : ownA s b = none) (hr : 0 ≤ b ∧ b < 1024) : (moveL s a b).ok B where
  fr := by
    have hall := own_none.1 hb
    have : ∀ l : List On, (l.map (·.frame)).Nodup → (∀ x ∈ l, x.frame ≠ b) → ((l.map (mv a b)).map (·.frame)).Nodup := by
      intro l
      induction l with
      | nil => intro _ _; simp
      | cons x l ih =>
        intro h1 h2
        simp only [List.map_cons, List.nodup_cons] at h1 ⊢
        refine ⟨fun hm => ?_, ih h1.2 (fun y hy => h2 y (by simp [hy]))⟩
        obtain ⟨y, hy, he⟩ := List.mem_map.1 hm
        obtain ⟨z, hz, rfl⟩ := List.mem_map.1 hy
        have hx2 := h2 x (by simp)
        have hz2 := h2 z (by simp [hz])
        have hxz : z.frame ≠ x.frame := fun e => h1.1 (List.mem_map.2 ⟨z, hz, e⟩)
        unfold mv at he
        by_cases e1 : z.frame = a <;> by_cases e2 : x.frame = a
        · exact hxz (by rw [e1, e2])
        · rw [if_pos e1, if_neg e2] at he; exact hx2 he.symm
        · rw [if_neg e1, if_pos e2] at he; exact hz2 he
        · rw [if_neg e1, if_neg e2] at he; exact hxz he
    exact this s.l h.fr hall
  pg := by
    have : (moveL s a b).l.map (fun o => (o.id, o.page)) = s.l.map (fun o => (o.id, o.page)) := by
      simp only [moveL, List.map_map]
      apply List.map_congr_left
      intro x _
      simp only [Function.comp_apply, (mv_id a b x).1, (mv_id a b x).2]
    rw [this]; exact h.pg
  on := fun x hx => by
    obtain ⟨y, hy, rfl⟩ := List.mem_map.1 hx
    obtain ⟨h1, h2, h3⟩ := h.on y hy
    rw [(mv_id a b y).1, (mv_id a b y).2]
    refine ⟨h1, h2, ?_⟩
    unfold mv
    split
    · exact hr
    · exact h3
  len := h.len
  bd := h.bd

/-- What the owners' map leaves, in between. -/
theorem run27 {K : Kont} {fuel : Nat} (hK : Own K) {w : World} {b l r : Nat} {pb pf : Int → Nat} {s : OS} {B : Nat} (hp : ObjAt w b l r pb pf s) (hs : s.ok B) (a t : Int) :
    wpGFn Try.prog K fuel 27 g27 #[pt b, n64 a, n64 t] w fun v w' => v = n64 (chgO s a t).1 ∧ ObjAt w' b l r pb pf (chgO s a t).2 ∧ KeepT w w' := by
  rw [gfn_start]
  simp -implicitDefEqProofs [g27]
  refine valA_of (hK.own hp a) (fun u w1 hq => ?_)
  obtain ⟨hu, hk1⟩ := hq
  simp only at hu hk1
  subst hu
  have hp1 := hp.keep hk1
  cases hoa : ownA s a with
  | none =>
    simp -implicitDefEqProofs [ownT, chgO, hoa]
    exact ⟨hp1, KeepT.of0 hk1⟩
  | some o =>
    simp -implicitDefEqProofs [ownT]
    refine valA_of (hK.f.frame w1 t) (fun u w2 hq => ?_)
    obtain ⟨hu, hw⟩ := hq
    simp only at hu hw
    subst hu hw
    by_cases hf : 0 ≤ t ∧ t < 1024
    · obtain ⟨h1, h2⟩ := own_some hoa
      have hl := (hs.on o h1).1
      obtain ⟨mf, hmf, hgf⟩ := hp1.frs o.id hl
      obtain ⟨mo, hmo, hgo⟩ := hp1.mo
      obtain ⟨ml, hml, hgl⟩ := hp1.ml
      have kb : ∀ c : Array Value, Keeps w2 (World.set (World.push w2 (.cells #[.int .i64 0, .int .i64 0] 91)) w2.heap.size (.cells c 91)) (fun _ => False) := fun c =>
        (Keeps.push w2 _ (fun _ => False)).trans (Keeps.set _ w2.heap.size _ (F := fun j => j = w2.heap.size) (fun _ => rfl)) (fun _ _ h => h) (fun j hj h => by omega)
      have hlo := lookup_map (w := w2) (r := r) (m := mo) (z := .agg #[.int .i64 0, .int .i64 0]) (i := t) (ok := true) hmo.is
      rw [hgo] at hlo
      cases hob : ownA s t with
      | some o2 =>
        simp only [hob, Option.map_some, if_true] at hlo
        simp -implicitDefEqProofs [hf, hp1.cell, hlo, chgO, hoa, hob]
        exact ⟨hp1.keep (kb _), (KeepT.of0 hk1).trans (KeepT.of0 (kb _))⟩
      | none =>
        simp only [hob, Option.map_none, if_true] at hlo
        have hn1 : ¬ pb o.id = w2.heap.size := by have := cells_lt (hp1.obj o.id hl); omega
        have hn2 : ¬ b = w2.heap.size := by have := cells_lt hp1.cell; omega
        obtain ⟨i3, hi3, hz3⟩ := infoInt
        obtain ⟨i9, hi9, hz9⟩ := info91
        have kw := kb #[.int .i64 0, .int .i64 0]
        simp -implicitDefEqProofs [hf, hp1.cell, hlo, hn1, hn2]
        generalize World.set (World.push w2 (.cells #[.int .i64 0, .int .i64 0] 91)) w2.heap.size (.cells #[.int .i64 0, .int .i64 0] 91) = wb at *
        have hpw := hp1.keep kw
        have hne := hp1.nef o.id hl
        have nr : ∀ {j c e fz}, cellsOf? wb j = some (c, e, fz) → ¬ j = r := fun hc e => by subst e; rw [(hmo.keep kw (fun h => h)).nocells] at hc; cases hc
        refine deleteA (m := mo) (hmo.keep kw (fun h => h)) (fun e0 n0 hm0 => ?_)
        have k0 : Keeps wb (World.set wb r (.map e0 n0)) (fun j => j = r) := Keeps.set _ _ _ (fun _ => rfl)
        generalize World.set wb r (.map e0 n0) = wx at *
        have hcb := k0.cells hpw.cell (nr hpw.cell)
        have hco := k0.cells (hpw.obj o.id hl) (nr (hpw.obj o.id hl))
        have hll := lookup_map (w := wx) (r := l) (m := ml) (z := .pointer none) (i := o.id) (ok := false) (((hml.keep kw (fun h => h)).keep k0 hp1.ne).is)
        rw [hgl] at hll
        simp only [hl, if_true] at hll
        simp -implicitDefEqProofs [hcb, hco, hll, fillS, Instr.fill]
        refine mapEntry_go (m := mf) (r := pf o.id) (i := o.page) und83 und3 hi3 hz3 rfl (by simp) (by simp) rfl rfl ((hmf.keep kw (fun h => h)).keep k0 hne.2) (fun e1 n1 st v he1 => ?_)
        simp -implicitDefEqProofs
        refine entryStore_go (m := mf) (r := pf o.id) (i := o.page) (st := st) (v := n64 t) (by simp) (by simp) (by simp) rfl rfl rfl he1 (fun e2 n2 hm2 => ?_)
        have k1 : Keeps wx (World.set (World.set wx (pf o.id) (.map e1 n1)) (pf o.id) (.map e2 n2)) (fun j => j = pf o.id) := (Keeps.set _ _ _ (F := fun j => j = pf o.id) (fun _ => rfl)).trans (Keeps.set _ _ _ (F := fun j => j = pf o.id) (fun _ => rfl)) (fun _ _ h => h) (fun _ _ h => h)
        generalize World.set (World.set wx (pf o.id) (.map e1 n1)) (pf o.id) (.map e2 n2) = wc at *
        simp -implicitDefEqProofs
        refine mapEntry_go (m := delM mo a) (r := r) (i := t) und79 und3 hi9 hz9 rfl (by simp) (by simp) rfl rfl (hm0.keep k1 (fun e => hne.2 e.symm)) (fun e3 n3 st3 v3 he3 => ?_)
        simp -implicitDefEqProofs
        refine entryStore_go (m := delM mo a) (r := r) (i := t) (st := st3) (v := .agg #[n64 o.id, n64 o.page]) (by simp) (by simp) (by simp) rfl rfl rfl he3 (fun e4 n4 hm4 => ?_)
        have k2 : Keeps wc (World.set (World.set wc r (.map e3 n3)) r (.map e4 n4)) (fun j => j = r) := (Keeps.set _ _ _ (F := fun j => j = r) (fun _ => rfl)).trans (Keeps.set _ _ _ (F := fun j => j = r) (fun _ => rfl)) (fun _ _ h => h) (fun _ _ h => h)
        generalize World.set (World.set wc r (.map e3 n3)) r (.map e4 n4) = wd at *
        have hco2 : chgO s a t = (0, moveL s a t) := by unfold chgO; simp only [hoa, hob]; rw [if_neg (by simp [hf])]
        have hpo := page_of hs h1
        have fin := hpw.two (s' := moveL s a t) hl rfl (k0.trans (k1.trans k2 (H := fun j => j = pf o.id ∨ j = r) (fun _ _ h => .inl h) (fun _ _ h => .inr h)) (H := fun j => j = pf o.id ∨ j = r) (fun _ _ h => .inr h) (fun _ _ h => h))
          ⟨_, hm2.keep k2 (fun e => hne.2 e), fun q => by
            rw [getM_put, hgf, page_move]
            by_cases hq : q = o.page
            · rw [if_pos hq, hq, hpo]; simp [mv, h2]
            · rw [if_neg hq]
              cases hx : pageA s o.id q with
              | none => rfl
              | some x =>
                have hx2 := page_some hx
                have : x.frame ≠ a := fun e => by
                  have h5 := own_of hs hx2.1
                  rw [e, hoa] at h5
                  simp only [Option.some.injEq] at h5
                  rw [h5] at hq
                  exact hq hx2.2.2.symm
                simp [mv, this]⟩
          ⟨_, hm4, fun g => by
            rw [getM_put, getM_del hmo.nodup, hgo, own_move hs hoa hob]
            by_cases hg : g = t
            · rw [if_pos hg, if_pos hg]; rfl
            · rw [if_neg hg, if_neg hg]
              by_cases hga : g = a
              · rw [if_pos hga, if_pos hga]; rfl
              · rw [if_neg hga, if_neg hga]⟩
          (fun j hj q => by
            rw [page_move]
            cases hx : pageA s j q with
            | none => rfl
            | some x =>
              have hx2 := page_some hx
              have : x.frame ≠ a := fun e => by
                have h5 := own_of hs hx2.1
                rw [e, hoa] at h5
                simp only [Option.some.injEq] at h5
                rw [h5] at hj
                exact hj hx2.2.1.symm
              simp [mv, this])
        simp -implicitDefEqProofs [hco2]
        exact ⟨fin.1, (KeepT.of0 hk1).trans ((KeepT.of0 kw).trans fin.2)⟩
    · simp -implicitDefEqProofs [hf, chgO, hoa]
      exact ⟨hp1, KeepT.of0 hk1⟩
end Go.Proofs.Ytkplodhjceieeaa
