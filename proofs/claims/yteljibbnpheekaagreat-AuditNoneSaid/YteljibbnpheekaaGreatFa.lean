/-
  The fast evaluator: trees, memory in trees, what it stands for.
-/
import Derived.Test.YteljibbnpheekaaGreatJs
import Derived.Test.YteljibbnpheekaaGreatFn
namespace Go.Ideal
open Go
inductive Tr (α : Type) where
  | lf
  | nd (l : Tr α) (v : Option α) (r : Tr α)
noncomputable def Tr.get {α : Type} (t : Tr α) : Nat → Option α :=
  Tr.rec (motive := fun _ => Nat → Option α) (fun _ => none) (fun _ v _ gl gr i => Bool.rec (Bool.rec (gr (Nat.div i 2)) (gl (Nat.div i 2)) (Nat.beq (Nat.mod i 2) 0)) v (Nat.beq i 0)) t
noncomputable def Tr.one {α : Type} (x : α) (d : Nat) : Nat → Tr α :=
  Nat.rec (motive := fun _ => Nat → Tr α) (fun _ => .lf) (fun _ h i => Bool.rec (Bool.rec (.nd .lf none (h (Nat.div i 2))) (.nd (h (Nat.div i 2)) none .lf) (Nat.beq (Nat.mod i 2) 0)) (.nd .lf (some x) .lf) (Nat.beq i 0)) d
noncomputable def Tr.set {α : Type} (t : Tr α) (i : Nat) (x : α) : Tr α :=
  Tr.rec (motive := fun _ => Nat → Tr α) (fun i => Tr.one x (Nat.succ i) i) (fun l v r gl gr i => Bool.rec (Bool.rec (.nd l v (gr (Nat.div i 2))) (.nd (gl (Nat.div i 2)) v r) (Nat.beq (Nat.mod i 2) 0)) (.nd l (some x) r) (Nat.beq i 0)) t i
section
variable {α : Type}
theorem Tr.get_lf (i : Nat) : (Tr.lf : Tr α).get i = none := rfl
theorem brec_if {β : Type} (a b : Nat) (x y : β) : (Bool.rec (motive := fun _ => β) y x (Nat.beq a b)) = if a = b then x else y := by
  by_cases h : a = b
  · subst h; rw [if_pos rfl, Nat.beq_refl]
  · rw [if_neg h]
    have : Nat.beq a b = false := by
      cases hb : Nat.beq a b with
      | false => rfl
      | true => exact absurd (Nat.eq_of_beq_eq_true hb) h
    rw [this]
theorem Tr.get_nd (l r : Tr α) (v : Option α) (i : Nat) : (Tr.nd l v r).get i = if i = 0 then v else if i % 2 = 0 then l.get (i / 2) else r.get (i / 2) := by
  have : (Tr.nd l v r).get i = Bool.rec (motive := fun _ => Option α) (Bool.rec (motive := fun _ => Option α) (r.get (Nat.div i 2)) (l.get (Nat.div i 2)) (Nat.beq (Nat.mod i 2) 0)) v (Nat.beq i 0) := rfl
  rw [this, brec_if, brec_if]; rfl
theorem Tr.one_succ (x : α) (d i : Nat) : Tr.one x (d + 1) i = if i = 0 then .nd .lf (some x) .lf else if i % 2 = 0 then .nd (Tr.one x d (i / 2)) none .lf else .nd .lf none (Tr.one x d (i / 2)) := by
  have : Tr.one x (d + 1) i = Bool.rec (motive := fun _ => Tr α) (Bool.rec (motive := fun _ => Tr α) (.nd .lf none (Tr.one x d (Nat.div i 2))) (.nd (Tr.one x d (Nat.div i 2)) none .lf) (Nat.beq (Nat.mod i 2) 0)) (.nd .lf (some x) .lf) (Nat.beq i 0) := rfl
  rw [this, brec_if, brec_if]; rfl
theorem Tr.set_nd (l r : Tr α) (v : Option α) (i : Nat) (x : α) : (Tr.nd l v r).set i x = if i = 0 then .nd l (some x) r else if i % 2 = 0 then .nd (l.set (i / 2) x) v r else .nd l v (r.set (i / 2) x) := by
  have : (Tr.nd l v r).set i x = Bool.rec (motive := fun _ => Tr α) (Bool.rec (motive := fun _ => Tr α) (.nd l v (r.set (Nat.div i 2) x)) (.nd (l.set (Nat.div i 2) x) v r) (Nat.beq (Nat.mod i 2) 0)) (.nd l (some x) r) (Nat.beq i 0) := rfl
  rw [this, brec_if, brec_if]; rfl
theorem Tr.set_lf (i : Nat) (x : α) : (Tr.lf : Tr α).set i x = Tr.one x (i + 1) i := rfl
theorem Tr.get_one (x : α) : ∀ d i j, i < d → (Tr.one x d i).get j = if j = i then some x else none
  | 0, i, _, h => by omega
  | d + 1, i, j, h => by
    rw [Tr.one_succ]
    by_cases h0 : i = 0
    · rw [if_pos h0, Tr.get_nd, Tr.get_lf, h0]
      by_cases hj : j = 0
      · rw [if_pos hj, if_pos hj]
      · rw [if_neg hj, if_neg hj]; split <;> rfl
    · rw [if_neg h0]
      have hd : i / 2 < d := by omega
      by_cases h2 : i % 2 = 0
      · rw [if_pos h2, Tr.get_nd, Tr.get_lf, Tr.get_one x d (i / 2) (j / 2) hd]
        by_cases hj : j = 0
        · rw [if_pos hj, if_neg (by omega)]
        · rw [if_neg hj]
          by_cases hj2 : j % 2 = 0
          · rw [if_pos hj2]
            by_cases e : j = i
            · rw [if_pos e, if_pos (by omega)]
            · rw [if_neg e, if_neg (by omega)]
          · rw [if_neg hj2, if_neg (by omega)]
      · rw [if_neg h2, Tr.get_nd, Tr.get_lf, Tr.get_one x d (i / 2) (j / 2) hd]
        by_cases hj : j = 0
        · rw [if_pos hj, if_neg (by omega)]
        · rw [if_neg hj]
          by_cases hj2 : j % 2 = 0
          · rw [if_pos hj2, if_neg (by omega)]
          · rw [if_neg hj2]
            by_cases e : j = i
            · rw [if_pos e, if_pos (by omega)]
            · rw [if_neg e, if_neg (by omega)]
theorem Tr.get_set (x : α) : ∀ (t : Tr α) (i j : Nat), (t.set i x).get j = if j = i then some x else t.get j
  | .lf, i, j => by rw [Tr.set_lf, Tr.get_one x (i + 1) i j (by omega), Tr.get_lf]
  | .nd l v r, i, j => by
    rw [Tr.set_nd]
    by_cases h0 : i = 0
    · rw [if_pos h0, Tr.get_nd, Tr.get_nd, h0]
      by_cases hj : j = 0
      · rw [if_pos hj, if_pos hj]
      · rw [if_neg hj, if_neg hj, if_neg hj]
    · rw [if_neg h0]
      by_cases h2 : i % 2 = 0
      · rw [if_pos h2, Tr.get_nd, Tr.get_nd, Tr.get_set x l (i / 2) (j / 2)]
        by_cases hj : j = 0
        · rw [if_pos hj, if_neg (by omega), if_pos hj]
        · rw [if_neg hj, if_neg hj]
          by_cases hj2 : j % 2 = 0
          · rw [if_pos hj2, if_pos hj2]
            by_cases e : j = i
            · rw [if_pos e, if_pos (by omega)]
            · rw [if_neg e, if_neg (by omega)]
          · rw [if_neg hj2, if_neg hj2, if_neg (by omega)]
      · rw [if_neg h2, Tr.get_nd, Tr.get_nd, Tr.get_set x r (i / 2) (j / 2)]
        by_cases hj : j = 0
        · rw [if_pos hj, if_neg (by omega), if_pos hj]
        · rw [if_neg hj, if_neg hj]
          by_cases hj2 : j % 2 = 0
          · rw [if_pos hj2, if_pos hj2, if_neg (by omega)]
          · rw [if_neg hj2, if_neg hj2]
            by_cases e : j = i
            · rw [if_pos e, if_pos (by omega)]
            · rw [if_neg e, if_neg (by omega)]
end
noncomputable def Tr.seg {α : Type} (d : α) (t : Tr α) (k : Nat) : Nat → List α :=
  Nat.rec (motive := fun _ => Nat → List α) (fun _ => []) (fun _ h o => Option.rec d (fun v => v) (t.get o) :: h (Nat.succ o)) k
noncomputable def Tr.put {α : Type} (l : List α) : Tr α → Nat → Tr α :=
  List.rec (motive := fun _ => Tr α → Nat → Tr α) (fun t _ => t) (fun v _ h t o => h (t.set o v) (Nat.succ o)) l
def CR (n : Nat) (t : Tr Value) (c : Array Value) : Prop := c.size = n ∧ ∀ i, i < n → c[i]? = t.get i
theorem Tr.seg_succ {α : Type} (d : α) (t : Tr α) (k o : Nat) : t.seg d (k + 1) o = (t.get o).getD d :: t.seg d k (o + 1) := by
  have : t.seg d (k + 1) o = Option.rec (motive := fun _ => α) d (fun v => v) (t.get o) :: t.seg d k (o + 1) := rfl
  rw [this]; cases t.get o <;> rfl
theorem Tr.put_cons {α : Type} (v : α) (l : List α) (t : Tr α) (o : Nat) : Tr.put (v :: l) t o = Tr.put l (t.set o v) (o + 1) := rfl
theorem Tr.put_nil {α : Type} (t : Tr α) (o : Nat) : Tr.put [] t o = t := rfl
theorem CR.seg {n : Nat} {t : Tr Value} {c : Array Value} (h : CR n t c) : ∀ k o, o + k ≤ n → (c.extract o (o + k)).toList = t.seg undef k o
  | 0, o, _ => by
    have : t.seg undef 0 o = [] := rfl
    rw [this]; simp
  | k + 1, o, hk => by
    rw [Tr.seg_succ, ← CR.seg h k (o + 1) (by omega)]
    have h1 := h.2 o (by omega)
    have hs := h.1
    have h2 : c[o]? = some c[o] := Array.getElem?_eq_getElem (by omega)
    rw [← h1, h2, Option.getD_some]
    apply List.ext_getElem?
    intro i
    rw [Array.getElem?_toList, Array.getElem?_extract]
    cases i with
    | zero => rw [if_pos (by omega), Nat.add_zero, h2]; rfl
    | succ i =>
      rw [List.getElem?_cons_succ, Array.getElem?_toList, Array.getElem?_extract]
      by_cases hi : i < k
      · rw [if_pos (by omega), if_pos (by omega)]; congr 1; omega
      · rw [if_neg (by omega), if_neg (by omega)]
theorem CR.put {n : Nat} : ∀ (l : List Value) {t : Tr Value} {c : Array Value} (o : Nat), CR n t c → o + l.length ≤ n → CR n (Tr.put l t o) (putCells c o l)
  | [], _, _, _, h, _ => h
  | v :: l, t, c, o, h, hl => by
    rw [Tr.put_cons]
    refine CR.put l (o + 1) (c := c.setIfInBounds o v) ⟨by simpa using h.1, fun i hi => ?_⟩ (by simp at hl; omega)
    rw [Tr.get_set, Array.getElem?_setIfInBounds]
    have hs := h.1
    by_cases e : o = i
    · subst e; rw [if_pos rfl, if_pos rfl, if_pos (by omega)]
    · rw [if_neg e, if_neg (fun h => e h.symm)]; exact h.2 i hi
theorem CR.of_list (l : List Value) : CR l.length (Tr.put l .lf 0) l.toArray := by
  have key : ∀ (l pre : List Value) (t : Tr Value), (∀ i, i < pre.length → t.get i = pre[i]?) → ∀ i, i < pre.length + l.length → (Tr.put l t pre.length).get i = (pre ++ l)[i]? := by
    intro l
    induction l with
    | nil => intro pre t h i hi; rw [List.append_nil]; exact h i (by simpa using hi)
    | cons v l ih =>
      intro pre t h i hi
      have := ih (pre ++ [v]) (t.set pre.length v) (fun j hj => by
        rw [Tr.get_set]
        by_cases e : j = pre.length
        · rw [if_pos e, e]; simp
        · rw [List.length_append] at hj
          have hj' : j < pre.length := by simp at hj; omega
          rw [if_neg e, h j hj', List.getElem?_append_left hj']) i (by simp at hi ⊢; omega)
      rw [List.length_append, List.append_assoc] at this
      exact this
  refine ⟨by simp, fun i hi => ?_⟩
  have := key l [] .lf (fun i hi => by simp at hi) i (by simpa using hi)
  simp only [List.length_nil, List.nil_append] at this
  rw [this]; simp
noncomputable def fget (ρ : Tr Value) : Env := fun i => Option.rec undef (fun v => v) (ρ.get i)
noncomputable def fput (ρ : Tr Value) (d : Option Nat) (v : Value) : Tr Value := match d with
  | none => ρ
  | some d => ρ.set d v
theorem fget_eq (ρ : Tr Value) (i : Nat) : fget ρ i = (ρ.get i).getD undef := by
  unfold fget; cases ρ.get i <;> rfl
theorem fget_set (ρ : Tr Value) (d : Nat) (v : Value) : fget (ρ.set d v) = (fget ρ).put (some d) v := by
  funext i
  rw [fget_eq, Tr.get_set]
  simp only [Env.put]
  by_cases h : i = d
  · rw [if_pos h, if_pos h]; rfl
  · rw [if_neg h, if_neg h, fget_eq]
theorem fget_put (ρ : Tr Value) (d : Option Nat) (v : Value) : fget (fput ρ d v) = (fget ρ).put d v := by
  cases d with
  | none => rfl
  | some d => exact fget_set ρ d v
inductive FO where
  | cells (n : Nat) (t : Tr Value) (e : TypeId) (fz : Nat × Nat)
  | other (o : Obj)
  | loop (st : LoopState) (pe : Option Code) (fn : FuncId) (n : Nat) (ρ : Tr Value) (ps : Array Tmp) (A B : Code) (df : Nat)
structure FW where
  n : Nat
  h : Tr FO
def SimO : FO → Obj → Prop
  | .cells n t e fz, o => ∃ c, o = .cells c e fz ∧ CR n t c
  | .other o', o => o = o' ∧ ∀ c e fz, o ≠ .cells c e fz
  | .loop st pe fn n ρ ps A B df, o => o = .loop { state := st, pending := pe, fn := fn, tmps := arr n (fget ρ), params := ps, assign := A, body := B, defers := df }
structure SimW (fw : FW) (w : World) : Prop where
  size : w.heap.size = fw.n
  at_ : ∀ b fo, fw.h.get b = some fo → ∃ o, w.heap[b]? = some o ∧ SimO fo o
noncomputable def FW.push (w : FW) (o : FO) : FW := ⟨Nat.succ w.n, w.h.set w.n o⟩
noncomputable def FW.set (w : FW) (b : Nat) (o : FO) : FW := ⟨w.n, w.h.set b o⟩
theorem SimW.get {fw : FW} {w : World} (h : SimW fw w) {b : Nat} {fo : FO} (hb : fw.h.get b = some fo) : ∃ o, w.heap[b]? = some o ∧ SimO fo o := h.at_ b fo hb
theorem SimW.lt {fw : FW} {w : World} (h : SimW fw w) {b : Nat} {fo : FO} (hb : fw.h.get b = some fo) : b < w.heap.size := by
  obtain ⟨o, h1, _⟩ := h.at_ b fo hb
  exact (Array.getElem?_eq_some_iff.1 h1).1
theorem SimW.cells {fw : FW} {w : World} (h : SimW fw w) {b n : Nat} {t : Tr Value} {e : TypeId} {fz : Nat × Nat} (hb : fw.h.get b = some (.cells n t e fz)) : ∃ c, cellsOf? w b = some (c, e, fz) ∧ CR n t c := by
  obtain ⟨o, h1, c, rfl, h2⟩ := h.get hb
  exact ⟨c, by unfold cellsOf?; rw [h1], h2⟩
theorem SimW.map {fw : FW} {w : World} (h : SimW fw w) {b k : Nat} {es : Array MapEntry} (hb : fw.h.get b = some (.other (.map es k))) : mapOf? w b = some (es, k) := by
  obtain ⟨o, h1, rfl, _⟩ := h.get hb
  unfold mapOf?; rw [h1]
theorem SimW.push {fw : FW} {w : World} (h : SimW fw w) {fo : FO} {o : Obj} (ho : SimO fo o) : SimW (fw.push fo) (World.push w o) where
  size := by simp [FW.push, h.size]
  at_ := fun b fo2 hb => by
    have hb' : (fw.h.set fw.n fo).get b = some fo2 := hb
    rw [Tr.get_set] at hb'
    by_cases e : b = fw.n
    · rw [if_pos e] at hb'
      simp only [Option.some.injEq] at hb'
      subst hb'
      exact ⟨o, by rw [at_push, if_pos (by rw [h.size]; exact e)], ho⟩
    · rw [if_neg e] at hb'
      obtain ⟨o2, h1, h2⟩ := h.at_ b fo2 hb'
      exact ⟨o2, by rw [at_push, if_neg (by rw [h.size]; exact e)]; exact h1, h2⟩
theorem SimW.set {fw : FW} {w : World} (h : SimW fw w) {b : Nat} {fo fo' : FO} {o : Obj} (hb : fw.h.get b = some fo') (ho : SimO fo o) : SimW (fw.set b fo) (World.set w b o) where
  size := by simp [FW.set, h.size]
  at_ := fun j fo2 hj => by
    have hj' : (fw.h.set b fo).get j = some fo2 := hj
    rw [Tr.get_set] at hj'
    by_cases e : j = b
    · rw [if_pos e] at hj'
      simp only [Option.some.injEq] at hj'
      subst hj'
      exact ⟨o, by rw [at_set, if_pos ⟨e, h.lt hb⟩], ho⟩
    · rw [if_neg e] at hj'
      obtain ⟨o2, h1, h2⟩ := h.at_ j fo2 hj'
      exact ⟨o2, by rw [at_set, if_neg (fun h => e h.1)]; exact h1, h2⟩
end Go.Ideal
