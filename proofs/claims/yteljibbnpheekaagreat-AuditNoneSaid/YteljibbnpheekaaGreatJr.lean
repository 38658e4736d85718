/-
  Rows of elements in memory, whatever the elements.
-/
import Derived.Test.YteljibbnpheekaaGreatJp
namespace Go.Ideal
open Go
structure En (α : Type) where
  es : Nat
  te : TypeId
  enc : α → List Value
  len : ∀ a, (enc a).length = es
  one : ∀ a, ∀ v ∈ enc a, one1 v = true
  pos : 0 < es
def blkOf : Value → Option Nat
  | .slice (some a) _ _ => some a.block
  | _ => none
@[simp] theorem blkOf_some (a : Addr) (n c : Nat) : blkOf (.slice (some a) n c) = some a.block := rfl
@[simp] theorem blkOf_none (n c : Nat) : blkOf (.slice none n c) = none := rfl
section
variable {α : Type} (E : En α)
def flat : List α → List Value
  | [] => []
  | a :: l => E.enc a ++ flat l
theorem flat_len : ∀ l : List α, (flat E l).length = l.length * E.es
  | [] => by simp [flat]
  | a :: l => by simp only [flat, List.length_append, E.len, flat_len l, List.length_cons, Nat.succ_mul]; omega
theorem flat_append : ∀ l m : List α, flat E (l ++ m) = flat E l ++ flat E m
  | [], _ => rfl
  | a :: l, m => by simp [flat, flat_append l m]
theorem flat_drop : ∀ (l : List α) (i : Nat), (flat E l).drop (i * E.es) = flat E (l.drop i)
  | [], i => by simp [flat]
  | a :: l, 0 => by simp [flat]
  | a :: l, i + 1 => by
    have e : (i + 1) * E.es = i * E.es + E.es := Nat.succ_mul _ _
    rw [flat, List.drop_append, E.len, List.drop_of_length_le (by rw [E.len]; omega), show (i + 1) * E.es - E.es = i * E.es by omega, flat_drop l i]
    rfl
theorem flat_one (l : List α) : ∀ v ∈ flat E l, one1 v = true := by
  induction l with
  | nil => intro v hv; simp [flat] at hv
  | cons a l ih =>
    intro v hv
    rw [flat, List.mem_append] at hv
    rcases hv with hv | hv
    · exact E.one a v hv
    · exact ih v hv
def SrcE (w : World) (x : Value) (ms : List α) : Prop :=
  (∃ cap, x = .slice none 0 cap ∧ ms = []) ∨ ∃ b o cap c e fz, x = .slice (some ⟨b, o, none⟩) ms.length cap ∧ cellsOf? w b = some (c, e, fz) ∧ o + ms.length * E.es ≤ c.size ∧ c.toList.extract o (o + ms.length * E.es) = flat E ms
def RowE (w : World) (v : Value) (xs : List α) : Prop :=
  (v = .slice none 0 0 ∧ xs = []) ∨ ∃ b o cap c, v = .slice (some ⟨b, o, none⟩) xs.length cap ∧ cellsOf? w b = some (c, E.te, (0, 0)) ∧ o ≤ c.size ∧ ((xs = [] ∧ cap = 0) ∨ (c.toList.drop o = flat E xs ∧ (cap = OPEN ∨ (cap = xs.length ∧ cap < OPEN))))
variable {E}
theorem RowE.keep {w w' : World} {v : Value} {xs : List α} {F : Nat → Prop} (h : RowE E w v xs) (hk : Keeps w w' F) (hn : ∀ b, blkOf v = some b → ¬ F b) : RowE E w' v xs := by
  rcases h with h | ⟨b, o, cap, c, rfl, hc, h1, h2⟩
  · exact .inl h
  · exact .inr ⟨b, o, cap, c, rfl, hk.cells hc (hn b rfl), h1, h2⟩
theorem RowE.block_lt {w : World} {v : Value} {xs : List α} (h : RowE E w v xs) {b : Nat} (hb : blkOf v = some b) : b < w.heap.size := by
  rcases h with ⟨rfl, _⟩ | ⟨b', o, cap, c, rfl, hc, _⟩
  · cases hb
  · simp only [blkOf, Option.some.injEq] at hb; subst hb; exact cells_lt hc
theorem RowE.size {o : Nat} {c : Array Value} {xs : List α} (h1 : o ≤ c.size) (h2 : c.toList.drop o = flat E xs) : c.size = o + xs.length * E.es := by
  have := congrArg List.length h2
  rw [List.length_drop, flat_len, Array.length_toList] at this
  omega
theorem RowE.shape {w : World} {v : Value} {xs : List α} (h : RowE E w v xs) : ∃ vb vc, v = .slice vb xs.length vc := by
  rcases h with ⟨rfl, rfl⟩ | ⟨b, o, cap, c, rfl, _⟩
  · exact ⟨_, _, rfl⟩
  · exact ⟨_, _, rfl⟩
theorem RowE.cell {w : World} {v : Value} {xs : List α} (h : RowE E w v xs) : v.cells = #[v] ∧ one1 v = true := by
  obtain ⟨_, _, rfl⟩ := h.shape; exact ⟨rfl, rfl⟩
theorem RowE.cells1 {w : World} {v : Value} {xs : List α} (h : RowE E w v xs) : v.cells = #[v] := h.cell.1
theorem RowE.one {w : World} {v : Value} {xs : List α} (h : RowE E w v xs) : one1 v = true := h.cell.2
theorem RowE.lenS {w w' : World} {v : Value} {xs : List α} (h : RowE E w v xs) : Ideal.lenS v w' = .ret (.int .i64 (xs.length : Int), w') := by
  obtain ⟨_, _, rfl⟩ := h.shape; rfl
theorem RowE.veq {w : World} {v : Value} {xs : List α} (h : RowE E w v xs) : Ideal.veq 4 v v = true := by
  obtain ⟨_, _, rfl⟩ := h.shape; simp [Ideal.veq]
theorem RowE.nil (w : World) : RowE E w (.slice none 0 0) [] := .inl ⟨rfl, rfl⟩
theorem RowE.empty {w : World} {b : Nat} {c : Array Value} (h : cellsOf? w b = some (c, E.te, (0, 0))) : RowE E w (.slice (some ⟨b, 0, none⟩) 0 0) [] := .inr ⟨b, 0, 0, c, rfl, h, Nat.zero_le _, .inl ⟨rfl, rfl⟩⟩
theorem RowE.mk {w : World} {b n : Nat} {c : Array Value} {xs : List α} (h : cellsOf? w b = some (c, E.te, (0, 0))) (hx : c.toList = flat E xs) (hn : n = xs.length) (hlt : n < OPEN) : RowE E w (.slice (some ⟨b, 0, none⟩) n n) xs :=
  .inr ⟨b, 0, n, c, by rw [hn], h, Nat.zero_le _, .inr ⟨by simpa using hx, .inr ⟨hn, hlt⟩⟩⟩
theorem RowE.src {w : World} {v : Value} {xs : List α} (h : RowE E w v xs) : SrcE E w v xs := by
  rcases h with ⟨rfl, rfl⟩ | ⟨b, o, cap, c, rfl, hc, h1, ⟨rfl, rfl⟩ | ⟨h2, h3⟩⟩
  · exact .inl ⟨_, rfl, rfl⟩
  · exact .inr ⟨b, o, 0, c, _, _, rfl, hc, by simpa using h1, by simp [flat]⟩
  · have hs := RowE.size h1 h2
    refine .inr ⟨b, o, cap, c, _, _, rfl, hc, by omega, ?_⟩
    rw [List.extract_eq_take_drop, h2, show o + xs.length * E.es - o = (flat E xs).length by rw [flat_len]; omega, List.take_length]
theorem SrcE.shape {w : World} {v : Value} {xs : List α} (h : SrcE E w v xs) : ∃ vb vc, v = .slice vb xs.length vc := by
  rcases h with ⟨cap, rfl, rfl⟩ | ⟨b, o, cap, c, e, fz, rfl, _⟩
  · exact ⟨_, _, rfl⟩
  · exact ⟨_, _, rfl⟩
theorem SrcE.lenS {w w' : World} {v : Value} {xs : List α} (h : SrcE E w v xs) : Ideal.lenS v w' = .ret (.int .i64 (xs.length : Int), w') := by
  obtain ⟨_, _, rfl⟩ := h.shape; rfl
theorem SrcE.veq {w : World} {v : Value} {xs : List α} (h : SrcE E w v xs) : Ideal.veq 4 v v = true := by
  obtain ⟨_, _, rfl⟩ := h.shape; simp [Ideal.veq]
theorem SrcE.keep {w w' : World} {v : Value} {xs : List α} {F : Nat → Prop} (h : SrcE E w v xs) (hk : Keeps w w' F) (hn : ∀ b, blkOf v = some b → ¬ F b) : SrcE E w' v xs := by
  rcases h with h | ⟨b, o, cap, c, e, fz, rfl, hc, h2⟩
  · exact .inl h
  · exact .inr ⟨b, o, cap, c, e, fz, rfl, hk.cells hc (hn b rfl), h2⟩
theorem SrcE.at {w : World} {v : Value} {xs : List α} (h : SrcE E w v xs) {i : Nat} (hi : i < xs.length) :
    ∃ b o cap c e fz, v = .slice (some ⟨b, o, none⟩) xs.length cap ∧ cellsOf? w b = some (c, e, fz) ∧ o + i * E.es + E.es ≤ c.size ∧ c.extract (o + i * E.es) (o + i * E.es + E.es) = (E.enc xs[i]).toArray ∧ ∀ j, j < E.es → c[o + i * E.es + j]? = (E.enc xs[i])[j]? := by
  rcases h with ⟨cap, _, rfl⟩ | ⟨b, o, cap, c, e, fz, rfl, hc, h1, h2⟩
  · simp at hi
  · have hm : (i + 1) * E.es ≤ xs.length * E.es := Nat.mul_le_mul_right _ hi
    have e1 : (i + 1) * E.es = i * E.es + E.es := Nat.succ_mul _ _
    have hext : (c.extract (o + i * E.es) (o + i * E.es + E.es)).toList = E.enc xs[i] := by
      have h3 : ((c.toList.extract o (o + xs.length * E.es)).drop (i * E.es)).take E.es = E.enc xs[i] := by
        rw [h2, flat_drop, List.drop_eq_getElem_cons hi, flat, List.take_append, E.len, List.take_of_length_le (by rw [E.len]; omega)]
        simp
      rw [← h3, Array.toList_extract, List.extract_eq_take_drop, List.extract_eq_take_drop, show o + i * E.es + E.es - (o + i * E.es) = E.es by omega, show o + xs.length * E.es - o = xs.length * E.es by omega, List.drop_take, List.take_take, List.drop_drop]
      congr 1
      omega
    refine ⟨b, o, cap, c, e, fz, rfl, hc, by omega, by rw [← hext], fun j hj => ?_⟩
    rw [← hext, ← Array.getElem?_toList (xs := c), Array.toList_extract, List.extract_eq_take_drop, List.getElem?_take_of_lt (by omega), List.getElem?_drop]
theorem RowE.at {w : World} {v : Value} {xs : List α} (h : RowE E w v xs) {i : Nat} (hi : i < xs.length) :
    ∃ b o cap c, v = .slice (some ⟨b, o, none⟩) xs.length cap ∧ cellsOf? w b = some (c, E.te, (0, 0)) ∧ o + i * E.es + E.es ≤ c.size ∧ c.extract (o + i * E.es) (o + i * E.es + E.es) = (E.enc xs[i]).toArray ∧ ∀ j, j < E.es → c[o + i * E.es + j]? = (E.enc xs[i])[j]? := by
  obtain ⟨b, o, cap, c, e, fz, hv, hc, h1, h2, h3⟩ := h.src.at hi
  rcases h with ⟨_, rfl⟩ | ⟨b', o', cap', c', hv', hc', _⟩
  · simp at hi
  · rw [hv] at hv'
    simp only [Value.slice.injEq, Option.some.injEq, Addr.mk.injEq, and_true, true_and] at hv'
    obtain ⟨⟨rfl, rfl⟩, rfl⟩ := hv'
    rw [hc] at hc'
    simp only [Option.some.injEq, Prod.mk.injEq] at hc'
    obtain ⟨rfl, rfl, rfl⟩ := hc'
    exact ⟨_, _, _, _, hv, hc, h1, h2, h3⟩
theorem first_srcE {w : World} {xb : Option Addr} {cap : Nat} {ms : List α} (h : SrcE E w (.slice xb ms.length cap) ms) : firstS E.es ms.length xb w = some (flat E ms).toArray := by
  rcases h with ⟨cap', h, rfl⟩ | ⟨b, o, cap, c, e, fz, h, hc, h1, h2⟩
  · simp only [Value.slice.injEq] at h
    rw [h.1]; rfl
  · simp only [Value.slice.injEq] at h
    rw [h.1]
    unfold firstS
    simp only [hc, h1, if_true, Option.some.injEq]
    apply Array.ext'
    rw [Array.toList_extract, h2]
theorem appEw {w : World} {s x : Value} {ls ms : List α} {by_ : Nat} {Q : Value × World → Prop} (hs : RowE E w s ls) (hx : SrcE E w x ms) (hbig : (ls.length + ms.length) * by_ ≤ 140737488355328)
    (hq : ∀ v' w', RowE E w' v' (ls ++ ms) → Keeps w w' (fun j => blkOf s = some j) → (ms = [] → v' = s ∧ w' = w) → (ms ≠ [] → blkOf v' = some w.heap.size) → Q (v', w')) : (appendS E.te E.es by_ s x w).all Q := by
  have hx' := hx
  have hxs : ∃ xb xc, x = .slice xb ms.length xc := hx.shape
  obtain ⟨xb, xc, rfl⟩ := hxs
  have hf := first_srcE hx'
  have hone : ((flat E ms).toArray.toList.all one1) = true := by
    rw [List.all_eq_true]; exact fun v hv => flat_one E ms v (by simpa using hv)
  have hms : (flat E ms).length = ms.length * E.es := flat_len E ms
  have grow : ∀ (old : List Value) (w2 : World), old = flat E ls → ms ≠ [] → Keeps w w2 (fun j => blkOf s = some j) → w2.heap[w.heap.size]? = some (.cells ((old ++ flat E ms).toArray) E.te) → Q (.slice (some ⟨w.heap.size, 0, none⟩) (ls.length + ms.length) OPEN, w2) := by
    intro old w2 ho hne hk hb
    refine hq _ _ (.inr ⟨w.heap.size, 0, OPEN, _, by rw [List.length_append], by unfold cellsOf?; rw [hb], Nat.zero_le _, .inr ⟨?_, .inl rfl⟩⟩) hk (fun h => absurd h hne) (fun _ => rfl)
    rw [ho]; simp [flat_append]
  have fin : ∀ (b o : Nat) (c : Array Value), cellsOf? w b = some (c, E.te, (0, 0)) → o + ls.length * E.es ≤ c.size → c.toList.extract o (o + ls.length * E.es) = flat E ls → s = .slice (some ⟨b, o, none⟩) ls.length ls.length → ls.length < OPEN → (appendS E.te E.es by_ s (.slice xb ms.length xc) w).all Q := by
    intro b o c hc h1 h2 he hcap
    have hbb := cellsOf?_spec hc
    have hold : c.extract o (o + ls.length * E.es) = (flat E ls).toArray := by
      apply Array.ext'
      rw [Array.toList_extract, h2]
    rw [he]
    unfold appendS
    simp only [hf, hone, hc, if_true]
    rw [if_pos hbig, if_pos hcap]
    by_cases hm : ms = []
    · subst hm
      simp only [List.length_nil, Nat.add_zero, flat, Ideal.putCells, Nat.le_refl, if_true]
      rw [if_pos (by simp; omega), World.set_self hbb, ← he]
      exact hq _ _ (by rw [List.append_nil]; exact hs) (Keeps.refl _ _) (fun _ => ⟨rfl, rfl⟩) (fun h => absurd rfl h)
    · have hpos : 0 < ms.length := List.length_pos_iff.2 hm
      rw [if_neg (by omega)]
      unfold firstS
      simp only [hc]
      rw [if_pos (by omega)]
      simp only [hold, growS]
      exact grow (flat E ls) _ rfl hm (Keeps.push _ _ _) (by rw [at_push, if_pos rfl]; simp)
  rcases hs with ⟨rfl, rfl⟩ | ⟨b, o, cap, c, rfl, hc, h1, ⟨rfl, rfl⟩ | ⟨h2, h3⟩⟩
  · unfold appendS
    simp only [List.length_nil, Nat.zero_add] at hbig ⊢
    rw [if_pos hbig]
    simp only [hf, hone, if_true]
    rw [if_pos (by unfold OPEN; omega)]
    by_cases hm : ms = []
    · subst hm
      simp only [List.length_nil, Nat.le_refl, if_true]
      exact hq _ _ (.inl ⟨rfl, rfl⟩) (Keeps.refl _ _) (fun _ => ⟨rfl, rfl⟩) (fun h => absurd rfl h)
    · have hpos : 0 < ms.length := List.length_pos_iff.2 hm
      rw [if_neg (by omega)]
      simp only [firstS, growS]
      have := grow [] (World.push w (.cells (#[] ++ (flat E ms).toArray) E.te)) rfl hm (Keeps.push _ _ _) (by rw [at_push, if_pos rfl]; simp)
      simpa using this
  · exact fin b o c hc (by simpa using h1) (by simp [flat]) rfl (by unfold OPEN; simp)
  · have hsz := RowE.size h1 h2
    have hext : c.toList.extract o (o + ls.length * E.es) = flat E ls := by
      rw [List.extract_eq_take_drop, h2, show o + ls.length * E.es - o = (flat E ls).length by rw [flat_len]; omega, List.take_length]
    have hold : c.extract o (o + ls.length * E.es) = (flat E ls).toArray := by
      apply Array.ext'
      rw [Array.toList_extract, hext]
    have hbb := cellsOf?_spec hc
    rcases h3 with rfl | ⟨rfl, hcap⟩
    · unfold appendS
      simp only [hf, hone, hc, if_true]
      rw [if_pos hbig, if_neg (Nat.lt_irrefl _)]
      simp only [and_self, if_true]
      by_cases hm : ms = []
      · subst hm
        simp only [List.length_nil, Nat.add_zero, flat, Ideal.putCells]
        rw [if_pos (by omega), World.set_self hbb]
        exact hq _ _ (by rw [List.append_nil]; exact .inr ⟨b, o, OPEN, c, rfl, hc, h1, .inr ⟨h2, .inl rfl⟩⟩) (Keeps.refl _ _) (fun _ => ⟨rfl, rfl⟩) (fun h => absurd rfl h)
      · have hpos : 0 < ms.length := List.length_pos_iff.2 hm
        have hpe : 0 < ms.length * E.es := Nat.mul_pos hpos E.pos
        have e1 : (ls.length + ms.length) * E.es = ls.length * E.es + ms.length * E.es := Nat.add_mul _ _ _
        rw [if_neg (by omega), if_neg (by omega), if_pos (by omega), hold]
        simp only [growS]
        refine grow (flat E ls) _ rfl hm ?_ ?_
        · exact ((Keeps.push w _ (fun _ => False)).trans (Keeps.kill _ b (F := fun j => j = b) (fun _ => rfl)) (fun _ _ h => h.elim) (fun j _ h => by subst h; rfl))
        · rw [at_kill, if_neg (by rintro ⟨h, _⟩; exact absurd (cells_lt hc) (by rw [← h]; exact Nat.lt_irrefl _)), at_push, if_pos rfl]
          simp
    · exact fin b o c hc (by omega) hext rfl hcap
theorem appE {w : World} {s x : Value} {ls ms : List α} {by_ : Nat} {Q : Value × World → Prop} (hs : RowE E w s ls) (hx : SrcE E w x ms) (hroom : ls.length + ms.length ≤ 1000000) (hby : by_ ≤ 1000000)
    (hq : ∀ v' w', RowE E w' v' (ls ++ ms) → Keeps w w' (fun j => blkOf s = some j) → (ms = [] → v' = s ∧ w' = w) → (ms ≠ [] → blkOf v' = some w.heap.size) → Q (v', w')) : (appendS E.te E.es by_ s x w).all Q :=
  appEw hs hx (Nat.le_trans (Nat.mul_le_mul hroom hby) (by decide)) hq
def tailV (es : Nat) (v : Value) (i : Nat) : Value := match v with
  | .slice base len cap => if cap < OPEN then (if len = i then .slice base 0 0 else .slice (base.map (·.add (i * es))) (len - i) (cap - i)) else .slice (base.map fun a => ⟨a.block, a.off + i * es, none⟩) (len - i) OPEN
  | v => v
theorem tail_eq {w : World} {v : Value} {xs : List α} {k : IntKind} {i : Nat} {n : Int} (h : RowE E w v xs) (hi : i ≤ xs.length) (hroom : xs.length ≤ 1000000) (hn : n = i) : sliceS E.te E.es v (some (.int k n)) none none w = .ret (tailV E.es v i, w) := by
  have hO : OPEN = 4611686018427387904 := rfl
  subst hn
  rcases h with ⟨rfl, rfl⟩ | ⟨b, o, cap, c, rfl, hc, h1, ⟨rfl, rfl⟩ | ⟨h2, h3⟩⟩
  · have : i = 0 := by simpa using hi
    subst this
    unfold sliceS
    simp only [intO]
    rw [if_pos (by omega), if_pos (by simp)]
    simp [tailV, hO]
  · have : i = 0 := by simpa using hi
    subst this
    unfold sliceS
    simp only [intO]
    rw [if_pos (by omega), if_pos (by simp)]
    simp [tailV, hO]
  · unfold sliceS
    simp only [intO]
    rcases h3 with rfl | ⟨rfl, hcap⟩
    · rw [if_neg (Nat.lt_irrefl _)]
      simp only [hc]
      rw [if_pos ⟨trivial, trivial, E.pos, by omega, by omega⟩]
      simp only [true_or, if_true, Int.le_refl, Int.toNat_natCast, tailV, Nat.lt_irrefl, if_false, Option.map_some]
    · rw [if_pos hcap, if_pos ⟨by omega, by omega, by omega, by omega, fun h => by cases h⟩]
      simp only [Int.toNat_natCast, tailV, hcap, if_true]
      by_cases he : xs.length = i
      · simp [he]
      · simp [he]
theorem putCells_list : ∀ (vs : List Value) (c : Array Value) (o : Nat), o + vs.length ≤ c.size → (Ideal.putCells c o vs).toList = c.toList.take o ++ vs ++ c.toList.drop (o + vs.length)
  | [], c, o, _ => by simp [Ideal.putCells]
  | v :: vs, c, o, h => by
    simp only [List.length_cons] at h
    simp only [Ideal.putCells]
    rw [putCells_list vs _ (o + 1) (by simp; omega)]
    rw [Array.toList_setIfInBounds]
    have ho : o < c.toList.length := by simp; omega
    rw [List.set_eq_take_append_cons_drop, if_pos ho]
    have hl : (c.toList.take o).length = o := by rw [List.length_take]; omega
    simp only [List.length_cons, List.append_assoc, List.cons_append]
    rw [List.take_append, List.drop_append, hl]
    simp only [show o + 1 - o = 1 by omega, List.take_succ_cons, List.take_zero]
    rw [List.take_of_length_le (by omega)]
    simp only [List.append_assoc, List.cons_append, List.nil_append, List.append_cancel_left_eq, List.cons.injEq, true_and]
    rw [List.drop_of_length_le (by omega), show o + 1 + vs.length - o = vs.length + 1 by omega, List.drop_succ_cons, List.drop_drop]
    simp [show o + 1 + vs.length = o + (vs.length + 1) by omega]
theorem flat_set : ∀ (xs : List α) (i : Nat) (a : α), i < xs.length → flat E (xs.set i a) = (flat E xs).take (i * E.es) ++ E.enc a ++ (flat E xs).drop (i * E.es + E.es)
  | x :: xs, 0, a, _ => by
    simp only [List.set_cons_zero, flat, Nat.zero_mul, List.take_zero, List.nil_append, Nat.zero_add]
    rw [List.drop_append, E.len, List.drop_of_length_le (by rw [E.len]; omega)]
    simp
  | x :: xs, i + 1, a, h => by
    have e : (i + 1) * E.es = E.es + i * E.es := by rw [Nat.succ_mul]; omega
    simp only [List.length_cons] at h
    simp only [List.set_cons_succ, flat, flat_set xs i a (by omega), e]
    have hx := E.len x
    rw [List.take_append, List.drop_append, List.take_of_length_le (show (E.enc x).length ≤ E.es + i * E.es by omega), List.drop_of_length_le (show (E.enc x).length ≤ E.es + i * E.es + E.es by omega), hx]
    simp [show E.es + i * E.es - E.es = i * E.es by omega, show E.es + i * E.es + E.es - E.es = i * E.es + E.es by omega]
theorem RowE.set {w : World} {v : Value} {xs : List α} (h : RowE E w v xs) {i : Nat} (hi : i < xs.length) (a : α) {b o cap : Nat} {c : Array Value} (hv : v = .slice (some ⟨b, o, none⟩) xs.length cap) (hc : cellsOf? w b = some (c, E.te, (0, 0))) :
    RowE E (World.set w b (.cells (Ideal.putCells c (o + i * E.es) (E.enc a)) E.te)) v (xs.set i a) := by
  rcases h with ⟨_, rfl⟩ | ⟨b', o', cap', c', hv', hc', h1, ⟨rfl, rfl⟩ | ⟨h2, h3⟩⟩
  · simp at hi
  · simp at hi
  · rw [hv] at hv'
    simp only [Value.slice.injEq, Option.some.injEq, Addr.mk.injEq, and_true, true_and] at hv'
    obtain ⟨⟨rfl, rfl⟩, rfl⟩ := hv'
    rw [hc] at hc'
    simp only [Option.some.injEq, Prod.mk.injEq, and_true] at hc'
    subst hc'
    have hsz := RowE.size h1 h2
    have hm : (i + 1) * E.es ≤ xs.length * E.es := Nat.mul_le_mul_right _ hi
    have e1 : (i + 1) * E.es = i * E.es + E.es := Nat.succ_mul _ _
    have hl := putCells_list (E.enc a) c (o + i * E.es) (by rw [E.len]; omega)
    refine .inr ⟨b, o, cap, Ideal.putCells c (o + i * E.es) (E.enc a), by rw [hv, List.length_set], by simp [cells_lt hc], ?_, .inr ⟨?_, by simpa using h3⟩⟩
    · have := congrArg List.length hl
      simp only [Array.length_toList, List.length_append, List.length_take, List.length_drop, E.len] at this
      omega
    · rw [hl, flat_set xs i a hi, ← h2, E.len]
      have hlt : o ≤ (c.toList.take (o + i * E.es)).length := by simp; omega
      rw [List.append_assoc, List.drop_append_of_le_length hlt, List.drop_take, show o + i * E.es - o = i * E.es by omega, List.drop_drop, List.append_assoc, show o + (i * E.es + E.es) = o + i * E.es + E.es by omega]
end
def EInt (te : TypeId) : En Int := ⟨1, te, fun n => [.int .i64 n], fun _ => rfl, fun _ v hv => by simp at hv; subst hv; rfl, Nat.one_pos⟩
theorem RowE.int {te : TypeId} {w : World} {v : Value} {xs : List Int} (h : RowE (EInt te) w v xs) {i : Nat} (hi : i < xs.length) :
    ∃ b o cap c, v = .slice (some ⟨b, o, none⟩) xs.length cap ∧ cellsOf? w b = some (c, te, (0, 0)) ∧ o + i < c.size ∧ c[o + i]? = some (.int .i64 xs[i]) := by
  obtain ⟨b, o, cap, c, h1, h2, h3, _, h5⟩ := h.at hi
  have h5 := h5 0 Nat.one_pos
  simp only [EInt, Nat.mul_one, Nat.add_zero] at h3 h5
  exact ⟨b, o, cap, c, h1, h2, by omega, h5⟩
end Go.Ideal
