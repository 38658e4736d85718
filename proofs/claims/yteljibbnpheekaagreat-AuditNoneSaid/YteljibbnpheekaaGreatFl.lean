/-
  The fast evaluator: lists by recursors.
-/
import Derived.Test.YteljibbnpheekaaGreatFn
namespace Go.Ideal
open Go
section
variable {α β : Type}
noncomputable def nthR (l : List α) : Nat → Option α := List.rec (motive := fun _ => Nat → Option α) (fun _ => none) (fun a _ h i => Nat.rec (motive := fun _ => Option α) (some a) (fun j _ => h j) i) l
theorem nthR_eq : ∀ (l : List α) (i : Nat), nthR l i = l[i]?
  | [], i => rfl
  | a :: l, 0 => rfl
  | a :: l, i + 1 => (show nthR l i = _ by rw [nthR_eq l i]; rfl)
noncomputable def dropR (n : Nat) : List α → List α := Nat.rec (motive := fun _ => List α → List α) (fun l => l) (fun _ h l => List.rec (motive := fun _ => List α) [] (fun _ t _ => h t) l) n
theorem dropR_eq : ∀ (n : Nat) (l : List α), dropR n l = l.drop n
  | 0, l => rfl
  | n + 1, [] => rfl
  | n + 1, a :: l => (show dropR n l = _ by rw [dropR_eq n l]; rfl)
noncomputable def takeR (n : Nat) : List α → List α := Nat.rec (motive := fun _ => List α → List α) (fun _ => []) (fun _ h l => List.rec (motive := fun _ => List α) [] (fun a t _ => a :: h t) l) n
theorem takeR_eq : ∀ (n : Nat) (l : List α), takeR n l = l.take n
  | 0, l => rfl
  | n + 1, [] => rfl
  | n + 1, a :: l => (show a :: takeR n l = _ by rw [takeR_eq n l]; rfl)
noncomputable def appR (l m : List α) : List α := List.rec (motive := fun _ => List α) m (fun a _ h => a :: h) l
theorem appR_eq : ∀ (l m : List α), appR l m = l ++ m
  | [], m => rfl
  | a :: l, m => (show a :: appR l m = _ by rw [appR_eq l m]; rfl)
noncomputable def lenR (l : List α) : Nat := List.rec (motive := fun _ => Nat) 0 (fun _ _ h => Nat.succ h) l
theorem lenR_eq : ∀ (l : List α), lenR l = l.length
  | [] => rfl
  | a :: l => (show Nat.succ (lenR l) = _ by rw [lenR_eq l]; rfl)
noncomputable def repR (n : Nat) (a : α) : List α := Nat.rec (motive := fun _ => List α) [] (fun _ h => a :: h) n
theorem repR_eq (a : α) : ∀ n, repR n a = List.replicate n a
  | 0 => rfl
  | n + 1 => (show a :: repR n a = _ by rw [repR_eq a n]; rfl)
noncomputable def layR (vs : List α) (off : Nat) (cs : List α) : Option (List α) :=
  List.rec (motive := fun _ => Nat → List α → Option (List α)) (fun _ cs => some cs) (fun v _ h off cs => Option.rec (motive := fun _ => Option (List α)) none (fun cs' => h (Nat.succ off) cs')
    (Nat.rec (motive := fun _ => List α → Option (List α)) (fun cs => List.rec (motive := fun _ => Option (List α)) none (fun _ t _ => some (v :: t)) cs) (fun _ k cs => List.rec (motive := fun _ => Option (List α)) none (fun a t _ => Option.rec (motive := fun _ => Option (List α)) none (fun t' => some (a :: t')) (k t)) cs) off cs)) vs off cs
noncomputable def setR (v : α) (off : Nat) : List α → Option (List α) :=
  Nat.rec (motive := fun _ => List α → Option (List α)) (fun cs => List.rec (motive := fun _ => Option (List α)) none (fun _ t _ => some (v :: t)) cs) (fun _ k cs => List.rec (motive := fun _ => Option (List α)) none (fun a t _ => Option.rec (motive := fun _ => Option (List α)) none (fun t' => some (a :: t')) (k t)) cs) off
theorem setR_eq (v : α) : ∀ (off : Nat) (cs cs' : List α), setR v off cs = some cs' → off < cs.length ∧ cs' = cs.set off v
  | 0, [], _, h => by cases h
  | 0, a :: l, _, h => by
    have h' := Option.some.inj h
    subst h'
    exact ⟨by simp, rfl⟩
  | n + 1, [], _, h => by cases h
  | n + 1, a :: l, cs', h => by
    have h1 : Option.rec (motive := fun _ => Option (List α)) none (fun t' => some (a :: t')) (setR v n l) = some cs' := h
    cases hs : setR v n l with
    | none => rw [hs] at h1; cases h1
    | some t =>
      rw [hs] at h1
      have h' := Option.some.inj h1
      obtain ⟨h2, rfl⟩ := setR_eq v n l t hs
      subst h'
      exact ⟨by simp; omega, rfl⟩
theorem layR_cons (v : α) (vs : List α) (off : Nat) (cs : List α) : layR (v :: vs) off cs = Option.rec (motive := fun _ => Option (List α)) none (fun cs' => layR vs (off + 1) cs') (setR v off cs) := rfl
theorem layR_eq : ∀ (vs : List α) (off : Nat) (cs cs' : List α), layR vs off cs = some cs' → (vs = [] ∨ off + vs.length ≤ cs.length) ∧ cs'.length = cs.length ∧ cs' = (vs.zipIdx off).foldl (fun cs p => cs.set p.2 p.1) cs
  | [], off, cs, cs', h => by
    have h' := Option.some.inj h
    subst h'
    exact ⟨.inl rfl, rfl, rfl⟩
  | v :: vs, off, cs, cs', h => by
    rw [layR_cons] at h
    cases hs : setR v off cs with
    | none => rw [hs] at h; cases h
    | some c1 =>
      rw [hs] at h
      obtain ⟨h1, rfl⟩ := setR_eq v off cs c1 hs
      obtain ⟨h2, h3, h4⟩ := layR_eq vs (off + 1) _ cs' h
      rw [List.length_set] at h2 h3
      refine ⟨.inr ?_, h3, ?_⟩
      · rcases h2 with rfl | h2
        · simp; omega
        · simp; omega
      · rw [h4, List.zipIdx_cons, List.foldl_cons]
end
noncomputable def fillR (place : Nat → Option (Nat × Nat)) (parts : List (Nat × Value)) (cs : List Value) : Option (List Value) :=
  List.rec (motive := fun _ => List Value → Option (List Value)) (fun cs => some cs) (fun p _ h cs => Option.rec (motive := fun _ => Option (List Value)) none (fun q => Bool.rec (motive := fun _ => Option (List Value)) none
    (Bool.rec (motive := fun _ => Option (List Value)) none (Option.rec (motive := fun _ => Option (List Value)) none (fun cs' => h cs') (layR p.2.cells.toList q.1 cs)) (Nat.ble 1 q.2)) (Nat.beq (lenR p.2.cells.toList) q.2)) (place p.1)) parts cs
theorem foldl_set (vs : List Value) (off : Nat) : ∀ (k : Nat) (c : Array Value), ((vs.zipIdx k).foldl (fun cs (p : Value × Nat) => cs.setIfInBounds (off + p.2) p.1) c).toList = (vs.zipIdx (off + k)).foldl (fun cs p => cs.set p.2 p.1) c.toList := by
  induction vs with
  | nil => intro k c; rfl
  | cons v vs ih =>
    intro k c
    rw [List.zipIdx_cons, List.zipIdx_cons, List.foldl_cons, List.foldl_cons, ih (k + 1)]
    rw [Array.toList_setIfInBounds]
    rfl
theorem fillR_eq (place : Nat → Option (Nat × Nat)) : ∀ (parts : List (Nat × Value)) (cs : Array Value) (cs' : List Value), fillR place parts cs.toList = some cs' → ∃ c', Instr.fill place cs parts = some c' ∧ c'.toList = cs'
  | [], cs, cs', h => by
    have h' := Option.some.inj h
    subst h'
    exact ⟨cs, rfl, rfl⟩
  | (i, v) :: parts, cs, cs', h => by
    have h1 : (Option.rec (motive := fun _ => Option (List Value)) none (fun q => Bool.rec (motive := fun _ => Option (List Value)) none
      (Bool.rec (motive := fun _ => Option (List Value)) none (Option.rec (motive := fun _ => Option (List Value)) none (fun cs' => fillR place parts cs') (layR v.cells.toList q.1 cs.toList)) (Nat.ble 1 q.2)) (Nat.beq (lenR v.cells.toList) q.2)) (place i)) = some cs' := h
    cases hp : place i with
    | none => rw [hp] at h1; cases h1
    | some q =>
      obtain ⟨off, size⟩ := q
      rw [hp] at h1
      cases hb : Nat.beq (lenR v.cells.toList) size with
      | false => simp only [hb] at h1; cases h1
      | true =>
        simp only [hb] at h1
        have hsz : v.cells.size = size := by
          have := Nat.eq_of_beq_eq_true hb
          rw [lenR_eq, Array.length_toList] at this
          exact this
        cases h1b : Nat.ble 1 size with
        | false => simp only [h1b] at h1; cases h1
        | true =>
          simp only [h1b] at h1
          have hz : ¬ v.cells.toList = [] := fun e => by
            have := Nat.le_of_ble_eq_true h1b
            rw [← hsz, ← Array.length_toList, e] at this
            simp at this
          cases hl : layR v.cells.toList off cs.toList with
          | none => rw [hl] at h1; cases h1
          | some c1 =>
            rw [hl] at h1
            obtain ⟨h2, h3, h4⟩ := layR_eq _ _ _ _ hl
            have e : c1 = (v.cells.zipIdx.foldl (fun cs (c, j) => cs.setIfInBounds (off + j) c) cs).toList := by
              rw [h4, ← Array.foldl_toList, Array.toList_zipIdx]
              exact (foldl_set v.cells.toList off 0 cs).symm
            simp only [e] at h1
            obtain ⟨c', g1, g2⟩ := fillR_eq place parts _ cs' h1
            refine ⟨c', ?_, g2⟩
            unfold Instr.fill
            rw [hp]
            simp only
            rw [if_neg ?_]
            · exact g1
            · have := h2.resolve_left hz
              simp only [Array.length_toList] at this
              simp [hsz]
              omega
end Go.Ideal
