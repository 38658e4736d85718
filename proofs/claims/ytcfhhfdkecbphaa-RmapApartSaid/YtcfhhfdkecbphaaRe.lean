/-
  Rmap's plain law: sorted lists of spots on frames.
-/
import Derived.Test.YtcfhhfdkecbphaaJs
namespace Go.Proofs.Ytcfhhfdkecbphaa
open Go Go.Ideal

abbrev Sp := Int × Int
abbrev On := Int × Int × Int

def ltS (a b : Sp) : Prop := a.1 < b.1 ∨ (a.1 = b.1 ∧ a.2 < b.2)
instance : DecidableRel ltS := fun a b => by unfold ltS; exact inferInstance
def ltO (a b : On) : Prop := a.1 < b.1 ∨ (a.1 = b.1 ∧ ltS a.2 b.2)
instance : DecidableRel ltO := fun a b => by unfold ltO; exact inferInstance

theorem ltS_irrefl (a : Sp) : ¬ ltS a a := by unfold ltS; omega
theorem ltS_trans {a b c : Sp} (h : ltS a b) (k : ltS b c) : ltS a c := by unfold ltS at *; omega
theorem ltS_tri (a b : Sp) : ltS a b ∨ a = b ∨ ltS b a := by
  obtain ⟨a1, a2⟩ := a; obtain ⟨b1, b2⟩ := b
  simp only [ltS, Prod.mk.injEq]; omega
theorem ltO_irrefl (a : On) : ¬ ltO a a := by unfold ltO ltS; omega
theorem ltO_trans {a b c : On} (h : ltO a b) (k : ltO b c) : ltO a c := by unfold ltO ltS at *; omega
theorem ltO_tri (a b : On) : ltO a b ∨ a = b ∨ ltO b a := by
  obtain ⟨a0, a1, a2⟩ := a; obtain ⟨b0, b1, b2⟩ := b
  simp only [ltO, ltS, Prod.mk.injEq]; omega

/-! ### One frame's spots -/
def insP (s : Sp) : List Sp → List Sp
  | [] => [s]
  | x :: l => if ltS x s then x :: insP s l else s :: x :: l
def pos (s : Sp) : List Sp → Nat
  | [] => 0
  | x :: l => if ltS x s then pos s l + 1 else 0
theorem pos_le (s : Sp) : ∀ l, pos s l ≤ l.length
  | [] => Nat.le_refl _
  | x :: l => by
    simp only [pos]; split
    · have := pos_le s l; simp; exact this
    · exact Nat.zero_le _
theorem insP_pos (s : Sp) : ∀ l, insP s l = l.take (pos s l) ++ s :: l.drop (pos s l)
  | [] => rfl
  | x :: l => by
    simp only [insP, pos]; split
    · rw [insP_pos s l]; rfl
    · rfl
theorem pos_lt {s : Sp} : ∀ {l : List Sp}, l.Pairwise ltS → ∀ j (h : j < l.length), (j < pos s l ↔ ltS l[j] s)
  | [], _, j, h => by simp at h
  | x :: l, hp, j, h => by
    rw [List.pairwise_cons] at hp
    simp only [pos]
    split
    · rename_i hx
      cases j with
      | zero => simp [hx]
      | succ j =>
        have := pos_lt hp.2 (s := s) j (by simpa using h)
        simp only [List.getElem_cons_succ]
        rw [← this]; omega
    · rename_i hx
      constructor
      · intro h; omega
      · intro hl
        cases j with
        | zero => exact absurd hl hx
        | succ j => exact absurd (ltS_trans (hp.1 _ (List.getElem_mem (by simpa using h))) hl) hx
theorem pos_mem {s : Sp} {l : List Sp} (hp : l.Pairwise ltS) : s ∈ l ↔ ∃ h : pos s l < l.length, l[pos s l] = s := by
  constructor
  · intro hs
    obtain ⟨j, hj, rfl⟩ := List.getElem_of_mem hs
    have h1 : ¬ j < pos l[j] l := fun h => ltS_irrefl _ ((pos_lt hp j hj).1 h)
    have h2 : pos l[j] l < l.length := by omega
    refine ⟨h2, ?_⟩
    by_cases he : pos l[j] l = j
    · simp only [he]
    · have h3 := List.pairwise_iff_getElem.1 hp (pos l[j] l) j h2 hj (by omega)
      exact absurd ((pos_lt hp _ h2).2 h3) (Nat.lt_irrefl _)
  · rintro ⟨h, e⟩
    exact List.mem_of_getElem e
theorem nodupS {l : List Sp} (hp : l.Pairwise ltS) : l.Nodup := hp.imp fun h e => by subst e; exact ltS_irrefl _ h
theorem del_pos {s : Sp} {l : List Sp} (hp : l.Pairwise ltS) (hs : s ∈ l) : l.filter (fun x => decide (x ≠ s)) = l.take (pos s l) ++ l.drop (pos s l + 1) := by
  obtain ⟨h, e⟩ := (pos_mem hp).1 hs
  have hd : l = l.take (pos s l) ++ s :: l.drop (pos s l + 1) := by
    have := List.drop_eq_getElem_cons h
    rw [e] at this
    rw [← this, List.take_append_drop]
  have hn := nodupS hp
  rw [hd] at hn
  have hn2 := List.nodup_append.1 hn
  have h1 : s ∉ l.take (pos s l) := fun hm => hn2.2.2 s hm s (by simp) rfl
  have h2 : s ∉ l.drop (pos s l + 1) := (List.nodup_cons.1 hn2.2.1).1
  conv => lhs; rw [hd]
  rw [List.filter_append, List.filter_cons_of_neg (by simp), List.filter_eq_self.2, List.filter_eq_self.2]
  · intro a ha; simp only [decide_eq_true_eq]; intro e; subst e; exact h2 ha
  · intro a ha; simp only [decide_eq_true_eq]; intro e; subst e; exact h1 ha
theorem insP_end {s : Sp} : ∀ {l : List Sp}, (∀ x ∈ l, ltS x s) → insP s l = l ++ [s]
  | [], _ => rfl
  | x :: l, h => by
    simp only [insP, if_pos (h x (by simp)), List.cons_append]
    rw [insP_end fun y hy => h y (by simp [hy])]
theorem insP_begin {s : Sp} : ∀ {l : List Sp}, (∀ x ∈ l, ltS s x) → insP s l = s :: l
  | [], _ => rfl
  | x :: l, h => by
    have : ¬ ltS x s := fun k => ltS_irrefl _ (ltS_trans k (h x (by simp)))
    simp only [insP, if_neg this]

/-! ### All spots -/
def insO (x : On) : List On → List On
  | [] => [x]
  | y :: l => if ltO x y then x :: y :: l else y :: insO x l
abbrev Srt (L : List On) : Prop := L.Pairwise ltO
def spots (L : List On) (f : Int) : List Sp := (L.filter fun o => decide (o.1 = f)).map (·.2)
def delO (x : On) (L : List On) : List On := L.filter fun o => decide (o ≠ x)

theorem insO_mem {x y : On} : ∀ {L : List On}, y ∈ insO x L ↔ y = x ∨ y ∈ L
  | [] => by simp [insO]
  | z :: L => by
    simp only [insO]; split
    · simp
    · simp only [List.mem_cons, insO_mem (L := L)]
      constructor
      · rintro (h | h | h) <;> simp [h]
      · rintro (h | h | h) <;> simp [h]
theorem insO_len {x : On} : ∀ {L : List On}, (insO x L).length = L.length + 1
  | [] => rfl
  | z :: L => by
    simp only [insO]; split
    · rfl
    · simp [insO_len (L := L)]
theorem insO_srt {x : On} : ∀ {L : List On}, Srt L → x ∉ L → Srt (insO x L)
  | [], _, _ => by simp [insO]
  | z :: L, h, hx => by
    have h0 := h
    replace h := List.pairwise_cons.1 h
    simp only [insO]; split
    · rename_i hl
      refine List.pairwise_cons.2 ⟨fun y hy => ?_, h0⟩
      rcases List.mem_cons.1 hy with rfl | hy
      · exact hl
      · exact ltO_trans hl (h.1 y hy)
    · rename_i hl
      refine List.pairwise_cons.2 ⟨fun y hy => ?_, insO_srt h.2 fun hm => hx (by simp [hm])⟩
      rcases insO_mem.1 hy with rfl | hy
      · rcases ltO_tri z y with h1 | h1 | h1
        · exact h1
        · subst h1; exact absurd (List.mem_cons_self) hx
        · exact absurd h1 hl
      · exact h.1 y hy
theorem delO_srt {x : On} {L : List On} (h : Srt L) : Srt (delO x L) := h.filter _
theorem nodupO {L : List On} (hp : Srt L) : L.Nodup := hp.imp fun h e => by subst e; exact ltO_irrefl _ h
theorem delO_len {x : On} {L : List On} (h : Srt L) (hx : x ∈ L) : (delO x L).length + 1 = L.length := by
  have hn := nodupO h
  clear h
  induction L with
  | nil => cases hx
  | cons y L ih =>
    rw [List.nodup_cons] at hn
    unfold delO
    by_cases he : y = x
    · subst he
      rw [List.filter_cons_of_neg (by simp), List.filter_eq_self.2]
      · rfl
      · intro a ha; simp only [decide_eq_true_eq]; intro e; subst e; exact hn.1 ha
    · have hm : x ∈ L := by
        rcases List.mem_cons.1 hx with h | h
        · exact absurd h.symm he
        · exact h
      rw [List.filter_cons_of_pos (by simpa using he)]
      have := ih hm hn.2
      simp only [delO] at this
      simp only [List.length_cons]; omega

theorem spots_mem {L : List On} {f : Int} {s : Sp} : s ∈ spots L f ↔ (f, s) ∈ L := by
  unfold spots
  rw [List.mem_map]
  constructor
  · rintro ⟨o, ho, rfl⟩
    have := List.mem_filter.1 ho
    have e : o.1 = f := by simpa using this.2
    subst e; exact this.1
  · intro h
    exact ⟨(f, s), List.mem_filter.2 ⟨h, by simp⟩, rfl⟩
theorem spots_srt {L : List On} (h : Srt L) (f : Int) : (spots L f).Pairwise ltS := by
  unfold spots
  rw [List.pairwise_map]
  have h1 := h.filter (fun o => decide (o.1 = f))
  refine List.Pairwise.imp_of_mem (fun {a b} ha hb hl => ?_) h1
  have e1 : a.1 = f := by simpa using (List.mem_filter.1 ha).2
  have e2 : b.1 = f := by simpa using (List.mem_filter.1 hb).2
  unfold ltO at hl
  rcases hl with h | h
  · omega
  · exact h.2
theorem spots_nil (f : Int) : spots [] f = [] := rfl
theorem spots_cons (o : On) (L : List On) (f : Int) : spots (o :: L) f = if o.1 = f then o.2 :: spots L f else spots L f := by
  unfold spots
  by_cases h : o.1 = f
  · rw [if_pos h, List.filter_cons_of_pos (by simpa using h)]; rfl
  · rw [if_neg h, List.filter_cons_of_neg (by simpa using h)]
theorem spots_ins {f : Int} {s : Sp} : ∀ {L : List On}, Srt L → (f, s) ∉ L → ∀ g, spots (insO (f, s) L) g = if g = f then insP s (spots L f) else spots L g
  | [], _, _, g => by
    simp only [insO, spots_cons, spots_nil, insP]
    by_cases h : g = f
    · subst h; simp
    · rw [if_neg (fun e => h e.symm), if_neg h]
  | y :: L, hp, hn, g => by
    have hp0 := hp
    replace hp := List.pairwise_cons.1 hp
    simp only [insO]
    split
    · rename_i hl
      have hb : insP s (spots (y :: L) f) = s :: spots (y :: L) f := insP_begin fun x hx => by
        have hm := spots_mem.1 hx
        have : ltO (f, s) (f, x) := by
          rcases List.mem_cons.1 hm with h | h
          · rw [h]; exact hl
          · exact ltO_trans hl (hp.1 _ h)
        unfold ltO at this
        rcases this with h | h
        · simp at h
        · exact h.2
      rw [spots_cons (f, s)]
      by_cases h : g = f
      · subst h; rw [if_pos rfl, if_pos rfl, hb]
      · rw [if_neg (fun e => h e.symm), if_neg h]
    · rename_i hl
      have ih := spots_ins hp.2 (fun h => hn (by simp [h])) (L := L) (f := f) (s := s)
      rw [spots_cons y, ih g, spots_cons y, spots_cons y]
      by_cases h : g = f
      · subst h
        rw [if_pos rfl, if_pos rfl]
        by_cases h2 : y.1 = g
        · rw [if_pos h2, if_pos h2]
          have : ltS y.2 s := by
            rcases ltO_tri (g, s) y with h3 | h3 | h3
            · exact absurd h3 hl
            · exact absurd (by simp [h3]) hn
            · unfold ltO at h3
              rcases h3 with h3 | h3
              · simp only at h3; omega
              · exact h3.2
          simp only [insP, if_pos this]
        · rw [if_neg h2, if_neg h2]
      · rw [if_neg h, if_neg h]
theorem spots_del {f : Int} {s : Sp} (L : List On) (g : Int) : spots (delO (f, s) L) g = if g = f then (spots L f).filter (fun x => decide (x ≠ s)) else spots L g := by
  induction L with
  | nil => simp [delO, spots]
  | cons y L ih =>
    obtain ⟨y1, y2⟩ := y
    have hd : delO (f, s) ((y1, y2) :: L) = if (y1, y2) = (f, s) then delO (f, s) L else (y1, y2) :: delO (f, s) L := by
      unfold delO
      by_cases h : (y1, y2) = (f, s)
      · rw [if_pos h, List.filter_cons_of_neg (by simpa using h)]
      · rw [if_neg h, List.filter_cons_of_pos (by rw [decide_eq_true_eq]; exact h)]
    rw [hd]
    by_cases h : (y1, y2) = (f, s)
    · rw [if_pos h, ih]
      obtain ⟨rfl, rfl⟩ := Prod.mk.inj h
      by_cases h2 : g = y1
      · subst h2; rw [if_pos rfl, if_pos rfl, spots_cons, if_pos rfl, List.filter_cons_of_neg (by simp)]
      · rw [if_neg h2, if_neg h2, spots_cons, if_neg (fun e => h2 e.symm)]
    · rw [if_neg h, spots_cons, ih]
      by_cases h2 : g = f
      · subst h2
        rw [if_pos rfl, if_pos rfl, spots_cons]
        by_cases h3 : y1 = g
        · subst h3
          rw [if_pos rfl, if_pos rfl, List.filter_cons_of_pos (by simp only [decide_eq_true_eq]; intro e; subst e; exact h rfl)]
        · simp only [if_neg h3]
      · rw [if_neg h2, if_neg h2, spots_cons]
theorem spots_len (L : List On) (f : Int) : (spots L f).length ≤ L.length := by
  unfold spots; rw [List.length_map]; exact List.length_filter_le _ _

/-! ### The calls -/
def badA (f : Int) (s : Sp) : Prop := f < 0 ∨ 1024 ≤ f ∨ s.1 < 0 ∨ s.2 < 0 ∨ 4096 ≤ s.2
instance (f : Int) (s : Sp) : Decidable (badA f s) := by unfold badA; exact inferInstance
def addA (L : List On) (f : Int) (s : Sp) : Int × List On := if badA f s then (3, L) else if (f, s) ∈ L then (7, L) else (0, insO (f, s) L)
def delA (L : List On) (f : Int) (s : Sp) : Int × List On := if (f, s) ∈ L then (0, delO (f, s) L) else (6, L)
def stepM (a b : Int) (L : List On) (s : Sp) : List On := insO (b, s) (delO (a, s) L)
def moveL (a b : Int) (L : List On) : List On := (spots L a).foldl (stepM a b) L
def moveA (L : List On) (a b : Int) : Int × List On := if b < 0 ∨ 1024 ≤ b then (3, L) else if spots L a = [] then (6, L) else if spots L b ≠ [] then (7, L) else (0, moveL a b L)

theorem move_go {a b : Int} (hab : a ≠ b) : ∀ (l : List Sp) (L : List On), Srt L → spots L a = l → (∀ x ∈ spots L b, ∀ y ∈ l, ltS x y) →
    Srt (l.foldl (stepM a b) L) ∧ (l.foldl (stepM a b) L).length = L.length ∧ spots (l.foldl (stepM a b) L) a = [] ∧ spots (l.foldl (stepM a b) L) b = spots L b ++ l ∧ (∀ g, g ≠ a → g ≠ b → spots (l.foldl (stepM a b) L) g = spots L g)
  | [], L, h, h1, _ => ⟨h, rfl, h1, by simp, fun _ _ _ => rfl⟩
  | s :: l, L, h, h1, h2 => by
    have hs : (a, s) ∈ L := spots_mem.1 (by rw [h1]; simp)
    have hd := delO_srt (x := (a, s)) h
    have hsrt := spots_srt h a
    rw [h1, List.pairwise_cons] at hsrt
    have hb : (b, s) ∉ delO (a, s) L := fun hm => by
      have : s ∈ spots L b := spots_mem.2 (List.mem_filter.1 hm).1
      exact ltS_irrefl _ (h2 s this s (by simp))
    have hi := insO_srt hd hb
    have hsp := fun g => spots_ins hd hb g
    have hsd := fun g => spots_del (f := a) (s := s) L g
    have ea : spots (stepM a b L s) a = l := by
      unfold stepM
      rw [hsp a, if_neg hab, hsd a, if_pos rfl, h1, List.filter_cons_of_neg (by simp), List.filter_eq_self.2]
      intro x hx; simp only [decide_eq_true_eq]; intro e; subst e; exact ltS_irrefl _ (hsrt.1 _ hx)
    have eb : spots (stepM a b L s) b = spots L b ++ [s] := by
      unfold stepM
      rw [hsp b, if_pos rfl, hsd b, if_neg (fun e => hab e.symm)]
      exact insP_end fun x hx => h2 x hx s (by simp)
    obtain ⟨k1, k2, k3, k4, k5⟩ := move_go hab l (stepM a b L s) hi ea (fun x hx y hy => by
      rw [eb] at hx
      rcases List.mem_append.1 hx with hx | hx
      · exact h2 x hx y (by simp [hy])
      · simp only [List.mem_singleton] at hx; subst hx; exact hsrt.1 y hy)
    have hl := delO_len h hs
    refine ⟨k1, ?_, k3, by rw [List.foldl_cons, k4, eb, List.append_assoc]; rfl, fun g ga gb => ?_⟩
    · rw [List.foldl_cons, k2]; unfold stepM; rw [insO_len]; omega
    · rw [List.foldl_cons, k5 g ga gb]; unfold stepM; rw [hsp g, if_neg gb, hsd g, if_neg ga]
theorem move_spots {L : List On} {a b : Int} (h : Srt L) (h1 : spots L a ≠ []) (h2 : spots L b = []) :
    a ≠ b ∧ Srt (moveL a b L) ∧ (moveL a b L).length = L.length ∧ ∀ g, spots (moveL a b L) g = if g = b then spots L a else if g = a then [] else spots L g := by
  have hab : a ≠ b := fun e => by subst e; exact h1 h2
  obtain ⟨k1, k2, k3, k4, k5⟩ := move_go hab (spots L a) L h rfl (fun x hx => by rw [h2] at hx; cases hx)
  refine ⟨hab, k1, k2, fun g => ?_⟩
  by_cases e : g = b
  · subst e; rw [if_pos rfl]; exact k4.trans (by rw [h2]; rfl)
  · rw [if_neg e]
    by_cases e2 : g = a
    · subst e2; rw [if_pos rfl]; exact k3
    · rw [if_neg e2]; exact k5 g e2 e

/-- Good states: all in range, not too many. -/
structure Ok (L : List On) (n : Nat) : Prop where
  srt : Srt L
  rng : ∀ o ∈ L, ¬ badA o.1 o.2
  len : L.length ≤ n

theorem Ok.add {L : List On} {n : Nat} (h : Ok L n) (f : Int) (s : Sp) : Ok (addA L f s).2 (n + 1) := by
  have hl := h.len
  unfold addA
  split
  · exact ⟨h.srt, h.rng, by show L.length ≤ _; omega⟩
  · rename_i hb
    split
    · exact ⟨h.srt, h.rng, by show L.length ≤ _; omega⟩
    · rename_i hm
      refine ⟨insO_srt h.srt hm, fun o ho => ?_, by show (insO _ _).length ≤ _; rw [insO_len]; omega⟩
      rcases insO_mem.1 ho with rfl | ho
      · exact hb
      · exact h.rng o ho
theorem Ok.del {L : List On} {n : Nat} (h : Ok L n) (f : Int) (s : Sp) : Ok (delA L f s).2 (n + 1) := by
  have hl := h.len
  unfold delA
  split
  · exact ⟨delO_srt h.srt, fun o ho => h.rng o (List.mem_filter.1 ho).1, Nat.le_trans (List.length_filter_le _ _) (by omega)⟩
  · exact ⟨h.srt, h.rng, by show L.length ≤ _; omega⟩
theorem Ok.move {L : List On} {n : Nat} (h : Ok L n) (a b : Int) : Ok (moveA L a b).2 (n + 1) := by
  have hl := h.len
  unfold moveA
  split
  · exact ⟨h.srt, h.rng, by show L.length ≤ _; omega⟩
  · rename_i hb
    split
    · exact ⟨h.srt, h.rng, by show L.length ≤ _; omega⟩
    · rename_i h1
      split
      · exact ⟨h.srt, h.rng, by show L.length ≤ _; omega⟩
      · rename_i h2
        obtain ⟨k0, k1, k2, k3⟩ := move_spots h.srt h1 (Decidable.not_not.1 h2)
        refine ⟨k1, fun o ho => ?_, by show (moveL _ _ _).length ≤ _; omega⟩
        have hm : o.2 ∈ spots (moveL a b L) o.1 := spots_mem.2 ho
        rw [k3] at hm
        split at hm
        · rename_i e
          have := h.rng _ (spots_mem.1 hm)
          unfold badA at this ⊢
          simp only at this
          omega
        · split at hm
          · cases hm
          · exact h.rng _ (spots_mem.1 hm)

/-! ### Frames -/
def framesG : Option Int → List On → List Int
  | _, [] => []
  | p, x :: l => if p = some x.1 then framesG p l else x.1 :: framesG (some x.1) l
def frames (L : List On) : List Int := framesG none L
theorem framesG_mem : ∀ {L : List On} {p : Option Int} {g : Int}, g ∈ framesG p L → spots L g ≠ []
  | [], p, g, h => by simp [framesG] at h
  | x :: L, p, g, h => by
    unfold framesG at h
    rw [spots_cons]
    split at h
    · have := framesG_mem h
      split
      · simp
      · exact this
    · rcases List.mem_cons.1 h with rfl | h
      · simp
      · have := framesG_mem h
        split
        · simp
        · exact this
theorem framesG_all : ∀ {L : List On} {p : Option Int} {g : Int}, spots L g ≠ [] → p = some g ∨ g ∈ framesG p L
  | [], p, g, h => absurd rfl h
  | x :: L, p, g, h => by
    rw [spots_cons] at h
    unfold framesG
    by_cases e : x.1 = g
    · subst e
      split
      · rename_i h2; exact .inl h2
      · exact .inr (by simp)
    · rw [if_neg e] at h
      split
      · exact framesG_all h
      · rcases framesG_all (p := some x.1) h with h2 | h2
        · simp only [Option.some.injEq] at h2; exact absurd h2 e
        · exact .inr (by simp [h2])
theorem framesG_srt : ∀ {L : List On} {p : Option Int}, Srt L → (∀ q, p = some q → ∀ o ∈ L, q ≤ o.1) → (framesG p L).Pairwise (· < ·) ∧ ∀ q, p = some q → ∀ g ∈ framesG p L, q < g
  | [], p, _, _ => ⟨.nil, fun _ _ _ h => by cases h⟩
  | x :: L, p, h, hq => by
    replace h := List.pairwise_cons.1 h
    unfold framesG
    split
    · exact framesG_srt h.2 fun q e o ho => hq q e o (by simp [ho])
    · rename_i hp
      obtain ⟨h1, h2⟩ := framesG_srt (p := some x.1) h.2 (fun q e o ho => by
        simp only [Option.some.injEq] at e
        have := h.1 o ho
        unfold ltO at this
        omega)
      refine ⟨List.pairwise_cons.2 ⟨h2 x.1 rfl, h1⟩, fun q e g hg => ?_⟩
      have h3 : q < x.1 := by
        have := hq q e x (by simp)
        have : q ≠ x.1 := fun e2 => hp (by rw [e, e2])
        omega
      rcases List.mem_cons.1 hg with rfl | hg
      · exact h3
      · have := h2 x.1 rfl g hg; omega
theorem frames_mem {L : List On} {g : Int} : g ∈ frames L ↔ spots L g ≠ [] :=
  ⟨framesG_mem, fun h => (framesG_all (p := none) h).resolve_left (by simp)⟩
theorem frames_srt {L : List On} (h : Srt L) : (frames L).Pairwise (· < ·) := (framesG_srt h (fun _ e => by cases e)).1
theorem frames_nodup {L : List On} (h : Srt L) : (frames L).Nodup := (frames_srt h).imp fun h e => by subst e; exact absurd h (Int.lt_irrefl _)
theorem sorted_frames {l : List Int} {L : List On} (hL : Srt L) (hn : l.Nodup) (h : ∀ x, x ∈ l ↔ spots L x ≠ []) : sorted l = frames L := by
  have hp : (sorted l).Perm (frames L) := (List.mergeSort_perm _ _).trans ((List.perm_ext_iff_of_nodup hn (frames_nodup hL)).2 fun x => (h x).trans frames_mem.symm)
  refine hp.eq_of_pairwise (le := fun a b => a ≤ b) (fun a b _ _ h1 h2 => Int.le_antisymm h1 h2) ?_ ((frames_srt hL).imp (fun h => Int.le_of_lt h))
  have := List.pairwise_mergeSort (le := fun x y : Int => decide (x ≤ y)) (fun a b c h1 h2 => by simp at *; omega) (fun a b => by simp; omega) l
  exact this.imp (fun h => by simpa using h)
theorem frames_eq {L M : List On} (hL : Srt L) (hM : Srt M) (h : ∀ g, spots L g = spots M g) : frames L = frames M := by
  have hp : (frames L).Perm (frames M) := (List.perm_ext_iff_of_nodup (frames_nodup hL) (frames_nodup hM)).2 fun x => by rw [frames_mem, frames_mem, h x]
  exact hp.eq_of_pairwise (le := fun a b => a ≤ b) (fun a b _ _ h1 h2 => Int.le_antisymm h1 h2) ((frames_srt hL).imp fun h => Int.le_of_lt h) ((frames_srt hM).imp fun h => Int.le_of_lt h)
theorem frames_len (L : List On) : (frames L).length ≤ L.length := by
  have : ∀ (L : List On) (p : Option Int), (framesG p L).length ≤ L.length := fun L => by
    induction L with
    | nil => intro p; exact Nat.le_refl _
    | cons x L ih =>
      intro p; unfold framesG; split
      · have := ih p; simp; omega
      · have := ih (some x.1); simp; exact this
  exact this L none

theorem len_split (L : List On) (f : Int) : L.length = (spots L f).length + (L.filter fun o => decide (o.1 ≠ f)).length := by
  induction L with
  | nil => rfl
  | cons x L ih =>
    rw [spots_cons]
    by_cases h : x.1 = f
    · rw [if_pos h, List.filter_cons_of_neg (by simpa using h)]; simp only [List.length_cons]; omega
    · rw [if_neg h, List.filter_cons_of_pos (by simpa using h)]; simp only [List.length_cons]; omega
theorem sum_go : ∀ (F : List Int) (L : List On), F.Nodup → (∀ o ∈ L, o.1 ∈ F) → (F.map fun f => (spots L f).length).sum = L.length
  | [], L, _, h => by
    cases L with
    | nil => rfl
    | cons x L => exact absurd (h x (by simp)) (by simp)
  | f :: F, L, hn, h => by
    rw [List.nodup_cons] at hn
    have ih := sum_go F (L.filter fun o => decide (o.1 ≠ f)) hn.2 (fun o ho => by
      have := List.mem_filter.1 ho
      rcases List.mem_cons.1 (h o this.1) with e | e
      · exact absurd e (by simpa using this.2)
      · exact e)
    have he : (F.map fun g => (spots (L.filter fun o => decide (o.1 ≠ f)) g).length) = F.map fun g => (spots L g).length := by
      refine List.map_congr_left fun g hg => ?_
      have hgf : g ≠ f := fun e => by subst e; exact hn.1 hg
      unfold spots
      rw [List.filter_filter]
      congr 2
      refine List.filter_congr fun o _ => ?_
      by_cases e : o.1 = g
      · subst e; simp [hgf]
      · simp [e]
    rw [he] at ih
    rw [List.map_cons, List.sum_cons, ih, ← len_split]
theorem frames_sum {L : List On} (h : Srt L) : ((frames L).map fun f => (spots L f).length).sum = L.length :=
  sum_go _ _ (frames_nodup h) fun o ho => frames_mem.2 fun e => by
    have : o.2 ∈ spots L o.1 := spots_mem.2 ho
    rw [e] at this; cases this
end Go.Proofs.Ytcfhhfdkecbphaa
