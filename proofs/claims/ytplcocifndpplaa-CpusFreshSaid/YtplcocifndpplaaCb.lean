/-
  Processors, plainly: what each call makes of lines, flushes and times.
-/
import Derived.Test.YtplcocifndpplaaCa
import Derived.Test.YtplcocifndpplaaPo
import Derived.Test.YtplcocifndpplaaJt
namespace Go.Proofs.Ytplcocifndpplaa
open Go Go.Ideal

/-- A flush: of which space, what. -/
structure Fl where
  s : Int
  p : Int
  n : Int

def flo (A : List Fl) (sp : Int) : List Fl := A.filter fun f => decide (f.s = sp)
theorem flo_snoc (A : List Fl) (f : Fl) (sp : Int) : flo (A ++ [f]) sp = if f.s = sp then flo A sp ++ [f] else flo A sp := by
  unfold flo
  rw [List.filter_append]
  by_cases h : f.s = sp <;> simp [h]
theorem flo_len (A : List Fl) (sp : Int) : (flo A sp).length ≤ A.length := List.length_filter_le _ _
theorem flo_mem {A : List Fl} {sp : Int} {f : Fl} : f ∈ flo A sp ↔ f ∈ A ∧ f.s = sp := by simp [flo]

/-- Processors: how many, how many lines, all flushes, the lines of each, the times that each has seen. -/
structure CS where
  N : Nat
  size : Int
  A : List Fl
  L : Nat → List Line
  seen : Nat → Int → Nat

def CS.time (s : CS) (sp : Int) : Nat := (flo s.A sp).length
def foldF (ls : List Line) (sp : Int) (fs : List Fl) : List Line := fs.foldl (fun l f => flushL l sp f.p f.n) ls
def catchL (ls : List Line) (sp : Int) (fs : List Fl) (was : Nat) : List Line := if was = fs.length then ls else if 8 < fs.length - was then flushL ls sp 0 4096 else foldF ls sp (fs.drop was)
def setLn (s : CS) (i : Nat) (ls : List Line) : CS := { s with L := fun j => if j = i then ls else s.L j }
def setSeen (s : CS) (i : Nat) (sp : Int) (t : Nat) : CS := { s with seen := fun j q => if j = i ∧ q = sp then t else s.seen j q }
def catchA (s : CS) (i : Nat) (sp : Int) : CS := setSeen (setLn s i (catchL (s.L i) sp (flo s.A sp) (s.seen i sp))) i sp (s.time sp)

@[simp] theorem setLn_N (s : CS) (i : Nat) (ls : List Line) : (setLn s i ls).N = s.N := rfl
@[simp] theorem setLn_size (s : CS) (i : Nat) (ls : List Line) : (setLn s i ls).size = s.size := rfl
@[simp] theorem setLn_A (s : CS) (i : Nat) (ls : List Line) : (setLn s i ls).A = s.A := rfl
@[simp] theorem setLn_seen (s : CS) (i : Nat) (ls : List Line) : (setLn s i ls).seen = s.seen := rfl
@[simp] theorem setLn_time (s : CS) (i : Nat) (ls : List Line) : (setLn s i ls).time = s.time := rfl
theorem setLn_L (s : CS) (i : Nat) (ls : List Line) (j : Nat) : (setLn s i ls).L j = if j = i then ls else s.L j := rfl
@[simp] theorem setLn_at (s : CS) (i : Nat) (ls : List Line) : (setLn s i ls).L i = ls := by simp [setLn_L]
@[simp] theorem setSeen_N (s : CS) (i : Nat) (q : Int) (t : Nat) : (setSeen s i q t).N = s.N := rfl
@[simp] theorem setSeen_size (s : CS) (i : Nat) (q : Int) (t : Nat) : (setSeen s i q t).size = s.size := rfl
@[simp] theorem setSeen_A (s : CS) (i : Nat) (q : Int) (t : Nat) : (setSeen s i q t).A = s.A := rfl
@[simp] theorem setSeen_L (s : CS) (i : Nat) (q : Int) (t : Nat) : (setSeen s i q t).L = s.L := rfl
@[simp] theorem setSeen_time (s : CS) (i : Nat) (q : Int) (t : Nat) : (setSeen s i q t).time = s.time := rfl
theorem setSeen_at (s : CS) (i : Nat) (q : Int) (t : Nat) (j : Nat) (r : Int) : (setSeen s i q t).seen j r = if j = i ∧ r = q then t else s.seen j r := rfl
@[simp] theorem catchA_N (s : CS) (i : Nat) (q : Int) : (catchA s i q).N = s.N := rfl
@[simp] theorem catchA_size (s : CS) (i : Nat) (q : Int) : (catchA s i q).size = s.size := rfl
@[simp] theorem catchA_A (s : CS) (i : Nat) (q : Int) : (catchA s i q).A = s.A := rfl
@[simp] theorem catchA_time (s : CS) (i : Nat) (q : Int) : (catchA s i q).time = s.time := rfl
theorem catchA_L (s : CS) (i : Nat) (q : Int) (j : Nat) : (catchA s i q).L j = if j = i then catchL (s.L i) q (flo s.A q) (s.seen i q) else s.L j := rfl
theorem catchA_seen (s : CS) (i : Nat) (q : Int) (j : Nat) (r : Int) : (catchA s i q).seen j r = if j = i ∧ r = q then s.time q else s.seen j r := rfl
theorem CS.ext {s t : CS} (h1 : s.N = t.N) (h2 : s.size = t.size) (h3 : s.A = t.A) (h4 : ∀ i, s.L i = t.L i) (h5 : ∀ i q, s.seen i q = t.seen i q) : s = t := by
  obtain ⟨a, b, c, d, e⟩ := s
  obtain ⟨a', b', c', d', e'⟩ := t
  simp only at h1 h2 h3 h4 h5
  subst h1 h2 h3
  have : d = d' := funext h4
  have : e = e' := funext fun i => funext fun q => h5 i q
  subst d' e'
  rfl
theorem catchA_same {s : CS} {i : Nat} {sp : Int} (h : s.seen i sp = s.time sp) : catchA s i sp = s := by
  refine CS.ext rfl rfl rfl (fun j => ?_) fun j q => ?_
  · rw [catchA_L]
    split
    · rename_i e; subst e; unfold catchL; exact if_pos h
    · rfl
  · rw [catchA_seen]
    split
    · rename_i e; obtain ⟨rfl, rfl⟩ := e; exact h.symm
    · rfl

theorem foldF_sub : ∀ (fs : List Fl) (ls : List Line) (sp : Int), (foldF ls sp fs).Sublist ls
  | [], _, _ => List.Sublist.refl _
  | f :: fs, ls, sp => (foldF_sub fs (flushL ls sp f.p f.n) sp).trans (flush_sub _ _ _ _)
theorem foldF_snoc (ls : List Line) (sp : Int) (fs : List Fl) (f : Fl) : foldF ls sp (fs ++ [f]) = flushL (foldF ls sp fs) sp f.p f.n := by simp [foldF]
theorem catchL_sub (ls : List Line) (sp : Int) (fs : List Fl) (was : Nat) : (catchL ls sp fs was).Sublist ls := by
  unfold catchL
  split
  · exact List.Sublist.refl _
  · split
    · exact flush_sub _ _ _ _
    · exact foldF_sub _ _ _

structure CS.ok (s : CS) (B : Nat) : Prop where
  n : s.N ≤ 8
  sz : 1 ≤ s.size ∧ s.size ≤ 64
  good : ∀ i, i < s.N → GoodL s.size (s.L i)
  seen : ∀ i sp, i < s.N → s.seen i sp ≤ s.time sp
  fl : ∀ f ∈ s.A, In64 f.p ∧ In64 f.n ∧ 1 ≤ f.n ∧ 0 ≤ f.s
  len : s.A.length ≤ B

theorem CS.ok.time_le {s : CS} {B : Nat} (h : s.ok B) (sp : Int) : s.time sp ≤ B := Nat.le_trans (flo_len _ _) h.len
theorem CS.ok.right {s : CS} {B : Nat} (h : s.ok B) {i : Nat} (hi : i < s.N) : ∀ c ∈ s.L i, lineRight c = true := (h.good i hi).right
theorem CS.ok.ll {s : CS} {B : Nat} (h : s.ok B) {i : Nat} (hi : i < s.N) : (s.L i).length ≤ 64 := by have := (h.good i hi).len; have := h.sz; omega
theorem CS.ok.setLn {s : CS} {B : Nat} (h : s.ok B) {i : Nat} {ls : List Line} (hg : GoodL s.size ls) : (setLn s i ls).ok B where
  n := h.n
  sz := h.sz
  good := fun j hj => by rw [setLn_L]; split; exact hg; exact h.good j hj
  seen := h.seen
  fl := h.fl
  len := h.len
theorem CS.ok.setSeen {s : CS} {B : Nat} (h : s.ok B) {i : Nat} {sp : Int} {t : Nat} (ht : t ≤ s.time sp) : (setSeen s i sp t).ok B where
  n := h.n
  sz := h.sz
  good := h.good
  seen := fun j q hj => by
    rw [setSeen_at]
    split
    · rename_i e; rw [e.2]; exact ht
    · exact h.seen j q hj
  fl := h.fl
  len := h.len
theorem CS.ok.catchA {s : CS} {B : Nat} (h : s.ok B) {i : Nat} (hi : i < s.N) (sp : Int) : (catchA s i sp).ok B :=
  (h.setLn ((h.good i hi).sub (catchL_sub _ _ _ _))).setSeen (Nat.le_refl _)

/-- What a line outlives. -/
def keepF (sp : Int) (fs : List Fl) (was : Nat) (c : Line) : Bool := if was = fs.length then true else if 8 < fs.length - was then !meets c sp 0 4096 else (fs.drop was).all fun f => !meets c sp f.p f.n
theorem foldF_filter : ∀ (fs : List Fl) (ls : List Line) (sp : Int), (∀ f ∈ fs, 1 ≤ f.n) → foldF ls sp fs = ls.filter fun c => fs.all fun f => !meets c sp f.p f.n
  | [], ls, sp, _ => by
    show ls = ls.filter fun _ => true
    exact (List.filter_eq_self.2 fun _ _ => rfl).symm
  | f :: fs, ls, sp, h => by
    show foldF (flushL ls sp f.p f.n) sp fs = _
    rw [foldF_filter fs _ sp (fun g hg => h g (List.mem_cons_of_mem _ hg))]
    have h1 := h f (List.mem_cons_self ..)
    unfold flushL
    rw [if_neg (by omega), List.filter_filter]
    refine List.filter_congr fun c _ => ?_
    simp only [List.all_cons]
    rw [Bool.and_comm]
theorem catchL_filter {ls : List Line} {sp : Int} {fs : List Fl} {was : Nat} (h : ∀ f ∈ fs, 1 ≤ f.n) : catchL ls sp fs was = ls.filter (keepF sp fs was) := by
  unfold catchL
  by_cases h1 : was = fs.length
  · rw [if_pos h1]
    exact (List.filter_eq_self.2 fun c _ => by unfold keepF; rw [if_pos h1]).symm
  · rw [if_neg h1]
    by_cases h2 : 8 < fs.length - was
    · rw [if_pos h2]
      unfold flushL
      rw [if_neg (by omega)]
      refine List.filter_congr fun c _ => ?_
      unfold keepF
      rw [if_neg h1, if_pos h2]
    · rw [if_neg h2, foldF_filter _ _ _ fun f hf => h f (List.mem_of_mem_drop hf)]
      refine List.filter_congr fun c _ => ?_
      unfold keepF
      rw [if_neg h1, if_neg h2]
theorem keepF_other {sp : Int} {fs : List Fl} {was : Nat} {c : Line} (h : c.s ≠ sp) : keepF sp fs was c = true := by
  unfold keepF
  split
  · rfl
  · split
    · simp [meets, h]
    · simp [meets, h]

/-- A processor has caught up with some spaces. -/
def syncD (s : CS) (i : Nat) (done : List Int) : CS := { s with
  L := fun j => if j = i then (s.L i).filter fun c => !decide (c.s ∈ done) || keepF c.s (flo s.A c.s) (s.seen i c.s) c else s.L j
  seen := fun j q => if j = i ∧ q ∈ done then s.time q else s.seen j q }
def syncA (s : CS) (i : Nat) : CS := { s with
  L := fun j => if j = i then (s.L i).filter fun c => keepF c.s (flo s.A c.s) (s.seen i c.s) c else s.L j
  seen := fun j q => if j = i then s.time q else s.seen j q }
theorem syncD_nil (s : CS) (i : Nat) : syncD s i [] = s := by
  refine CS.ext rfl rfl rfl (fun j => ?_) fun j q => ?_
  · simp only [syncD]
    split
    · rename_i e; subst e
      exact List.filter_eq_self.2 fun c _ => by simp
    · rfl
  · simp [syncD]
theorem syncD_catch {s : CS} {B : Nat} (h : s.ok B) (i : Nat) (done : List Int) (sp : Int) : catchA (syncD s i done) i sp = syncD s i (done ++ [sp]) := by
  have h1 : ∀ f ∈ flo s.A sp, 1 ≤ f.n := fun f hf => (h.fl f (flo_mem.1 hf).1).2.2.1
  have ht : (syncD s i done).time = s.time := rfl
  by_cases hm : sp ∈ done
  · rw [catchA_same (by simp [syncD, hm, CS.time])]
    refine CS.ext rfl rfl rfl (fun j => ?_) fun j q => ?_
    · simp only [syncD]
      split
      · refine List.filter_congr fun c _ => ?_
        by_cases h2 : c.s = sp
        · simp [h2, hm]
        · simp [h2]
      · rfl
    · simp only [syncD]
      by_cases h2 : q = sp
      · simp [h2, hm]
      · simp [h2]
  · refine CS.ext rfl rfl rfl (fun j => ?_) fun j q => ?_
    · rw [catchA_L]
      by_cases hj : j = i
      · subst hj
        rw [if_pos rfl]
        show catchL ((syncD s j done).L j) sp (flo s.A sp) ((syncD s j done).seen j sp) = _
        rw [catchL_filter h1]
        simp only [syncD, if_true, hm, and_false, if_false]
        rw [List.filter_filter]
        refine List.filter_congr fun c _ => ?_
        by_cases h2 : c.s = sp
        · simp [h2, hm]
        · rw [keepF_other h2]
          simp [h2]
      · rw [if_neg hj]
        simp [syncD, hj]
    · rw [catchA_seen, ht]
      simp only [syncD]
      by_cases hj : j = i
      · by_cases h2 : q = sp
        · simp [hj, h2]
        · simp [hj, h2]
      · simp [hj]
theorem syncD_all {s : CS} {B : Nat} (h : s.ok B) {i : Nat} (hi : i < s.N) {done : List Int} (hd : ∀ sp, 0 < s.time sp → sp ∈ done) : syncD s i done = syncA s i := by
  have hz : ∀ sp, sp ∉ done → s.time sp = 0 ∧ s.seen i sp = 0 := fun sp hn => by
    have := h.seen i sp hi
    have : ¬ 0 < s.time sp := fun h2 => hn (hd sp h2)
    omega
  refine CS.ext rfl rfl rfl (fun j => ?_) fun j q => ?_
  · simp only [syncD, syncA]
    split
    · refine List.filter_congr fun c _ => ?_
      by_cases hm : c.s ∈ done
      · simp [hm]
      · obtain ⟨h1, h2⟩ := hz _ hm
        have : keepF c.s (flo s.A c.s) (s.seen i c.s) c = true := by
          unfold keepF
          rw [if_pos]
          rw [h2]; exact h1.symm
        simp [hm, this]
    · rfl
  · simp only [syncD, syncA]
    by_cases hj : j = i
    · subst hj
      by_cases hm : q ∈ done
      · simp [hm]
      · obtain ⟨h1, h2⟩ := hz _ hm
        simp [hm, h1, h2]
    · simp [hj]
theorem CS.ok.syncD {s : CS} {B : Nat} (h : s.ok B) {i : Nat} (hi : i < s.N) (done : List Int) : (syncD s i done).ok B where
  n := h.n
  sz := h.sz
  good := fun j hj => by
    simp only [Proofs.Ytplcocifndpplaa.syncD]
    split
    · exact (h.good i hi).sub List.filter_sublist
    · exact h.good j hj
  seen := fun j q hj => by
    simp only [Proofs.Ytplcocifndpplaa.syncD]
    split
    · exact Nat.le_refl _
    · exact h.seen j q hj
  fl := h.fl
  len := h.len
theorem CS.ok.syncA {s : CS} {B : Nat} (h : s.ok B) {i : Nat} (hi : i < s.N) : (syncA s i).ok B where
  n := h.n
  sz := h.sz
  good := fun j hj => by
    simp only [Proofs.Ytplcocifndpplaa.syncA]
    split
    · exact (h.good i hi).sub List.filter_sublist
    · exact h.good j hj
  seen := fun j q hj => by
    simp only [Proofs.Ytplcocifndpplaa.syncA]
    split
    · exact Nat.le_refl _
    · exact h.seen j q hj
  fl := h.fl
  len := h.len

/-! ### The other calls -/
def flushA (s : CS) (f : Fl) : CS := if 1 ≤ f.n ∧ 0 ≤ f.s then { s with A := s.A ++ [f] } else s
def putA (s : CS) (i : Nat) (c : Line) : CS := if lineRight c = true then setLn (catchA s i c.s) i (putL ((catchA s i c.s).L i) s.size c) else catchA s i c.s
/-- The first q processors have let go of a space. -/
def endA (s : CS) (q : Nat) (sp : Int) : CS := { s with
  L := fun j => if j < q then flushL (s.L j) sp 0 4096 else s.L j
  seen := fun j r => if j < q ∧ r = sp then s.time sp else s.seen j r }
def dropA (s : CS) (i : Nat) (n : Int) : CS := if 0 ≤ n ∧ n < (s.L i).length then setLn s i (dropL (s.L i) n.toNat) else s
def behindA (s : CS) (i : Nat) (sp : Int) : Int := (s.time sp : Int) - (s.seen i sp : Int)
/-- Nobody of the first q has something stale. -/
def quietA (s : CS) (q : Nat) (sp : Int) : Bool := (List.range q).all fun i => decide (s.seen i sp = s.time sp) || (s.L i).all fun c => !decide (c.s = sp)

@[simp] theorem endA_N (s : CS) (q : Nat) (sp : Int) : (endA s q sp).N = s.N := rfl
@[simp] theorem endA_size (s : CS) (q : Nat) (sp : Int) : (endA s q sp).size = s.size := rfl
@[simp] theorem endA_time (s : CS) (q : Nat) (sp : Int) : (endA s q sp).time = s.time := rfl
@[simp] theorem syncD_N (s : CS) (q : Nat) (d : List Int) : (syncD s q d).N = s.N := rfl
@[simp] theorem syncD_size (s : CS) (q : Nat) (d : List Int) : (syncD s q d).size = s.size := rfl
@[simp] theorem syncD_time (s : CS) (q : Nat) (d : List Int) : (syncD s q d).time = s.time := rfl
@[simp] theorem syncA_N (s : CS) (q : Nat) : (syncA s q).N = s.N := rfl
@[simp] theorem syncA_size (s : CS) (q : Nat) : (syncA s q).size = s.size := rfl
@[simp] theorem syncA_time (s : CS) (q : Nat) : (syncA s q).time = s.time := rfl
@[simp] theorem putA_N (s : CS) (q : Nat) (c : Line) : (putA s q c).N = s.N := by unfold putA; split <;> rfl
@[simp] theorem putA_size (s : CS) (q : Nat) (c : Line) : (putA s q c).size = s.size := by unfold putA; split <;> rfl
@[simp] theorem putA_A (s : CS) (q : Nat) (c : Line) : (putA s q c).A = s.A := by unfold putA; split <;> rfl
@[simp] theorem dropA_N (s : CS) (q : Nat) (c : Int) : (dropA s q c).N = s.N := by unfold dropA; split <;> rfl
@[simp] theorem dropA_size (s : CS) (q : Nat) (c : Int) : (dropA s q c).size = s.size := by unfold dropA; split <;> rfl
@[simp] theorem dropA_A (s : CS) (q : Nat) (c : Int) : (dropA s q c).A = s.A := by unfold dropA; split <;> rfl
@[simp] theorem flushA_N (s : CS) (f : Fl) : (flushA s f).N = s.N := by unfold flushA; split <;> rfl
@[simp] theorem flushA_size (s : CS) (f : Fl) : (flushA s f).size = s.size := by unfold flushA; split <;> rfl
@[simp] theorem flushA_L (s : CS) (f : Fl) : (flushA s f).L = s.L := by unfold flushA; split <;> rfl
@[simp] theorem flushA_seen (s : CS) (f : Fl) : (flushA s f).seen = s.seen := by unfold flushA; split <;> rfl
theorem time_flush {s : CS} {f : Fl} (h : 1 ≤ f.n ∧ 0 ≤ f.s) (sp : Int) : (flushA s f).time sp = if f.s = sp then s.time sp + 1 else s.time sp := by
  unfold flushA CS.time
  rw [if_pos h]
  simp only [flo_snoc]
  split <;> simp
theorem flush_ok {s : CS} {B : Nat} (h : s.ok B) {f : Fl} (h1 : In64 f.p) (h2 : In64 f.n) : (flushA s f).ok (B + 1) := by
  by_cases hc : 1 ≤ f.n ∧ 0 ≤ f.s
  · have e : flushA s f = { s with A := s.A ++ [f] } := by unfold flushA; rw [if_pos hc]
    have hsn : ∀ i sp, (flushA s f).seen i sp = s.seen i sp := fun i sp => by rw [e]
    refine ⟨by rw [e]; exact h.n, by rw [e]; exact h.sz, by rw [e]; exact h.good, fun i sp hi => ?_, ?_, ?_⟩
    · rw [hsn, time_flush hc]
      have := h.seen i sp (by rw [e] at hi; exact hi)
      split <;> omega
    · rw [e]
      intro g hg
      rcases List.mem_append.1 hg with hg | hg
      · exact h.fl g hg
      · rw [List.mem_singleton] at hg; subst hg; exact ⟨h1, h2, hc.1, hc.2⟩
    · rw [e]
      have := h.len
      simp; omega
  · unfold flushA
    rw [if_neg hc]
    exact ⟨h.n, h.sz, h.good, h.seen, h.fl, Nat.le_succ_of_le h.len⟩
theorem put_ok {s : CS} {B : Nat} (h : s.ok B) {i : Nat} (hi : i < s.N) (c : Line) : (putA s i c).ok B := by
  have hc := h.catchA hi c.s
  unfold putA
  split
  · rename_i hr
    exact hc.setLn ((hc.good i hi).put h.sz.1 hr)
  · exact hc
theorem end_ok {s : CS} {B : Nat} (h : s.ok B) (q : Nat) (sp : Int) : (endA s q sp).ok B where
  n := h.n
  sz := h.sz
  good := fun j hj => by
    simp only [endA]
    split
    · exact (h.good j hj).sub (flush_sub _ _ _ _)
    · exact h.good j hj
  seen := fun j r hj => by
    simp only [endA]
    split
    · rename_i e; rw [e.2]; exact Nat.le_refl _
    · exact h.seen j r hj
  fl := h.fl
  len := h.len
theorem drop_ok {s : CS} {B : Nat} (h : s.ok B) {i : Nat} (hi : i < s.N) (n : Int) : (dropA s i n).ok B := by
  unfold dropA
  split
  · exact h.setLn ((h.good i hi).sub (drop_sub _ _))
  · exact h
theorem CS.ok.mono {s : CS} {B C : Nat} (h : s.ok B) (hBC : B ≤ C) : s.ok C := ⟨h.n, h.sz, h.good, h.seen, h.fl, Nat.le_trans h.len hBC⟩

/-- A processor's number. -/
def isN (s : CS) (n : Int) : Prop := 0 ≤ n ∧ n < s.N
instance (s : CS) (n : Int) : Decidable (isN s n) := inferInstanceAs (Decidable (_ ∧ _))
theorem isN.lt {s : CS} {n : Int} (h : isN s n) : n.toNat < s.N := by unfold isN at h; omega
end Go.Proofs.Ytplcocifndpplaa
