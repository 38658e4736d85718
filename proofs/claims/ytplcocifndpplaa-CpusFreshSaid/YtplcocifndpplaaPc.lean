/-
  Rows of lines in memory.
-/
import Derived.Test.YtplcocifndpplaaPb
namespace Go.Proofs.Ytplcocifndpplaa
open Go Go.Ideal

def flatL : List Line → List Value
  | [] => []
  | c :: l => c.cells.toList ++ flatL l

theorem cells_len (c : Line) : c.cells.toList.length = 5 := rfl
theorem flatL_len : ∀ l : List Line, (flatL l).length = l.length * 5
  | [] => rfl
  | c :: l => by simp only [flatL, List.length_append, cells_len, flatL_len l, List.length_cons]; omega
theorem flatL_append : ∀ l m : List Line, flatL (l ++ m) = flatL l ++ flatL m
  | [], _ => rfl
  | c :: l, m => by simp [flatL, flatL_append l m]
theorem flatL_take : ∀ (l : List Line) (i : Nat), (flatL l).take (i * 5) = flatL (l.take i)
  | [], i => by simp [flatL]
  | c :: l, 0 => by simp [flatL]
  | c :: l, i + 1 => by
    rw [flatL, List.take_append, cells_len, List.take_of_length_le (by rw [cells_len]; omega), show (i + 1) * 5 - 5 = i * 5 by omega, flatL_take l i]
    rfl
theorem flatL_drop : ∀ (l : List Line) (i : Nat), (flatL l).drop (i * 5) = flatL (l.drop i)
  | [], i => by simp [flatL]
  | c :: l, 0 => by simp [flatL]
  | c :: l, i + 1 => by
    rw [flatL, List.drop_append, cells_len, List.drop_of_length_le (by rw [cells_len]; omega), show (i + 1) * 5 - 5 = i * 5 by omega, flatL_drop l i]
    rfl
theorem flatL_one (l : List Line) : ∀ v ∈ flatL l, one1 v = true := by
  induction l with
  | nil => intro v hv; simp [flatL] at hv
  | cons c l ih =>
    intro v hv
    rw [flatL, List.mem_append] at hv
    rcases hv with hv | hv
    · simp only [Line.cells, List.mem_cons, List.not_mem_nil, or_false] at hv
      rcases hv with rfl | rfl | rfl | rfl | rfl <;> rfl
    · exact ih v hv

/-- What can be read: so many lines from there on. -/
def Src (w : World) (x : Value) (ms : List Line) : Prop :=
  (x = .slice none 0 0 ∧ ms = []) ∨ ∃ b o cap c e fz, x = .slice (some ⟨b, o, none⟩) ms.length cap ∧ cellsOf? w b = some (c, e, fz) ∧ o + ms.length * 5 ≤ c.size ∧ c.toList.extract o (o + ms.length * 5) = flatL ms

/-- A slice of lines: its row ends with them. -/
def Lns (w : World) (v : Value) (ls : List Line) : Prop :=
  (v = .slice none 0 0 ∧ ls = []) ∨ ∃ b o cap c, v = .slice (some ⟨b, o, none⟩) ls.length cap ∧ cellsOf? w b = some (c, 31, (0, 0)) ∧ o ≤ c.size ∧ ((ls = [] ∧ cap = 0) ∨ (c.toList.drop o = flatL ls ∧ (cap = OPEN ∨ (cap = ls.length ∧ cap < OPEN))))

def blockOf : Value → Option Nat
  | .slice (some a) _ _ => some a.block
  | _ => none

theorem Lns.keep {w w' : World} {v : Value} {ls : List Line} {F : Nat → Prop} (h : Lns w v ls) (hk : Keeps w w' F) (hn : ∀ b, blockOf v = some b → ¬ F b) : Lns w' v ls := by
  rcases h with h | ⟨b, o, cap, c, rfl, hc, h1, h2⟩
  · exact .inl h
  · exact .inr ⟨b, o, cap, c, rfl, hk.cells hc (hn b rfl), h1, h2⟩

theorem Lns.block_lt {w : World} {v : Value} {ls : List Line} (h : Lns w v ls) {b : Nat} (hb : blockOf v = some b) : b < w.heap.size := by
  rcases h with ⟨rfl, _⟩ | ⟨b', o, cap, c, rfl, hc, _⟩
  · cases hb
  · simp only [blockOf, Option.some.injEq] at hb; subst hb; exact cells_lt hc

theorem Lns.size {o : Nat} {c : Array Value} {ls : List Line} (h1 : o ≤ c.size) (h2 : c.toList.drop o = flatL ls) : c.size = o + ls.length * 5 := by
  have := congrArg List.length h2
  rw [List.length_drop, flatL_len, Array.length_toList] at this
  omega

theorem Lns.src {w : World} {v : Value} {ls : List Line} (h : Lns w v ls) : Src w v ls := by
  rcases h with h | ⟨b, o, cap, c, rfl, hc, h1, ⟨rfl, rfl⟩ | ⟨h2, h3⟩⟩
  · exact .inl h
  · exact .inr ⟨b, o, 0, c, _, _, rfl, hc, by simpa using h1, by simp [flatL]⟩
  · have hs := Lns.size h1 h2
    refine .inr ⟨b, o, cap, c, _, _, rfl, hc, by omega, ?_⟩
    rw [List.extract_eq_take_drop, h2, show o + ls.length * 5 - o = (flatL ls).length by rw [flatL_len]; omega, List.take_length]

/-- The line at a place. -/
theorem Lns.line {w : World} {v : Value} {ls : List Line} (h : Lns w v ls) {i : Nat} (hi : i < ls.length) :
    ∃ b o cap c, v = .slice (some ⟨b, o, none⟩) ls.length cap ∧ cellsOf? w b = some (c, 31, (0, 0)) ∧ o + i * 5 + 5 ≤ c.size ∧ c.extract (o + i * 5) (o + i * 5 + 5) = ls[i].cells := by
  rcases h with ⟨_, rfl⟩ | ⟨b, o, cap, c, rfl, hc, h1, ⟨rfl, rfl⟩ | ⟨h2, h3⟩⟩
  · simp at hi
  · simp at hi
  · have hs := Lns.size h1 h2
    refine ⟨b, o, cap, c, rfl, hc, by omega, ?_⟩
    apply Array.ext'
    rw [Array.toList_extract, List.extract_eq_take_drop, show o + i * 5 + 5 - (o + i * 5) = 5 by omega, ← List.drop_drop, h2, flatL_drop, List.drop_eq_getElem_cons hi, flatL, List.take_append, cells_len,
      List.take_of_length_le (by rw [cells_len]; omega)]
    simp

theorem first_src {w : World} {xb : Option Addr} {cap : Nat} {ms : List Line} (h : Src w (.slice xb ms.length cap) ms) : firstS 5 ms.length xb w = some (flatL ms).toArray := by
  rcases h with ⟨h, rfl⟩ | ⟨b, o, cap, c, e, fz, h, hc, h1, h2⟩
  · simp only [Value.slice.injEq] at h
    rw [h.1]; rfl
  · simp only [Value.slice.injEq] at h
    rw [h.1]
    unfold firstS
    simp only [hc, h1, if_true, Option.some.injEq]
    apply Array.ext'
    rw [Array.toList_extract, h2]

/-- More lines behind. -/
theorem app {w : World} {s x : Value} {ls ms : List Line} {Q : Value × World → Prop} (hs : Lns w s ls) (hx : Src w x ms) (hroom : ls.length + ms.length ≤ 1000000)
    (hq : ∀ v' w', Lns w' v' (ls ++ ms) → Keeps w w' (fun j => blockOf s = some j) → (ms = [] → v' = s ∧ w' = w) → (ms ≠ [] → blockOf v' = some w.heap.size) → Q (v', w')) : (appendS 31 5 40 s x w).all Q := by
  have hx' := hx
  have hxs : ∃ xb xc, x = .slice xb ms.length xc := by
    rcases hx with ⟨rfl, rfl⟩ | ⟨b, o, cap, c, e, fz, rfl, _⟩
    · exact ⟨_, _, rfl⟩
    · exact ⟨_, _, rfl⟩
  obtain ⟨xb, xc, rfl⟩ := hxs
  have hf := first_src hx'
  have hone : ((flatL ms).toArray.toList.all one1) = true := by
    rw [List.all_eq_true]; exact fun v hv => flatL_one ms v (by simpa using hv)
  have hms : (flatL ms).length = ms.length * 5 := flatL_len ms
  have grow : ∀ (old : List Value) (w2 : World), old = flatL ls → ms ≠ [] → Keeps w w2 (fun j => blockOf s = some j) → w2.heap[w.heap.size]? = some (.cells ((old ++ flatL ms).toArray) 31) → Q (.slice (some ⟨w.heap.size, 0, none⟩) (ls.length + ms.length) OPEN, w2) := by
    intro old w2 ho hne hk hb
    refine hq _ _ (.inr ⟨w.heap.size, 0, OPEN, _, by rw [List.length_append], by unfold cellsOf?; rw [hb], Nat.zero_le _, .inr ⟨?_, .inl rfl⟩⟩) hk (fun h => absurd h hne) (fun _ => rfl)
    rw [ho]; simp [flatL_append]
  have fin : ∀ (b o : Nat) (c : Array Value), cellsOf? w b = some (c, 31, (0, 0)) → o + ls.length * 5 ≤ c.size → c.toList.extract o (o + ls.length * 5) = flatL ls → s = .slice (some ⟨b, o, none⟩) ls.length ls.length → ls.length < OPEN → (appendS 31 5 40 s (.slice xb ms.length xc) w).all Q := by
    intro b o c hc h1 h2 he hcap
    have hbb := cellsOf?_spec hc
    have hold : c.extract o (o + ls.length * 5) = (flatL ls).toArray := by
      apply Array.ext'
      rw [Array.toList_extract, h2]
    rw [he]
    unfold appendS
    simp only [hf, hone, hc, if_true]
    rw [if_pos (by omega), if_pos hcap]
    by_cases hm : ms = []
    · subst hm
      simp only [List.length_nil, Nat.add_zero, flatL, putCells, Nat.le_refl, if_true]
      rw [if_pos (by simp; omega), World.set_self hbb, ← he]
      exact hq _ _ (by rw [List.append_nil]; exact hs) (Keeps.refl _ _) (fun _ => ⟨rfl, rfl⟩) (fun h => absurd rfl h)
    · have hpos : 0 < ms.length := List.length_pos_iff.2 hm
      rw [if_neg (by omega)]
      unfold firstS
      simp only [hc]
      rw [if_pos (by omega)]
      simp only [hold, growS]
      exact grow (flatL ls) _ rfl hm (Keeps.push _ _ _) (by rw [at_push, if_pos rfl]; simp)
  rcases hs with ⟨rfl, rfl⟩ | ⟨b, o, cap, c, rfl, hc, h1, ⟨rfl, rfl⟩ | ⟨h2, h3⟩⟩
  · unfold appendS
    simp only [List.length_nil, Nat.zero_add] at hroom ⊢
    rw [if_pos (by omega)]
    simp only [hf, hone, if_true]
    rw [if_pos (by unfold OPEN; omega)]
    by_cases hm : ms = []
    · subst hm
      simp only [List.length_nil, Nat.le_refl, if_true]
      exact hq _ _ (.inl ⟨rfl, rfl⟩) (Keeps.refl _ _) (fun _ => ⟨rfl, rfl⟩) (fun h => absurd rfl h)
    · have hpos : 0 < ms.length := List.length_pos_iff.2 hm
      rw [if_neg (by omega)]
      simp only [firstS, growS]
      have := grow [] (World.push w (.cells (#[] ++ (flatL ms).toArray) 31)) rfl hm (Keeps.push _ _ _) (by rw [at_push, if_pos rfl]; simp)
      simpa using this
  · exact fin b o c hc (by simpa using h1) (by simp [flatL]) rfl (by unfold OPEN; simp)
  · have hsz := Lns.size h1 h2
    have hext : c.toList.extract o (o + ls.length * 5) = flatL ls := by
      rw [List.extract_eq_take_drop, h2, show o + ls.length * 5 - o = (flatL ls).length by rw [flatL_len]; omega, List.take_length]
    have hold : c.extract o (o + ls.length * 5) = (flatL ls).toArray := by
      apply Array.ext'
      rw [Array.toList_extract, hext]
    have hbb := cellsOf?_spec hc
    rcases h3 with rfl | ⟨rfl, hcap⟩
    · unfold appendS
      simp only [hf, hone, hc, if_true]
      rw [if_pos (by omega), if_neg (Nat.lt_irrefl _)]
      simp only [and_self, if_true]
      by_cases hm : ms = []
      · subst hm
        simp only [List.length_nil, Nat.add_zero, flatL, putCells]
        rw [if_pos (by omega), World.set_self hbb]
        exact hq _ _ (by rw [List.append_nil]; exact .inr ⟨b, o, OPEN, c, rfl, hc, h1, .inr ⟨h2, .inl rfl⟩⟩) (Keeps.refl _ _) (fun _ => ⟨rfl, rfl⟩) (fun h => absurd rfl h)
      · have hpos : 0 < ms.length := List.length_pos_iff.2 hm
        have e1 : (ls.length + ms.length) * 5 = ls.length * 5 + ms.length * 5 := Nat.add_mul _ _ _
        rw [if_neg (by omega), if_neg (by omega), if_pos (by omega), hold]
        simp only [growS]
        refine grow (flatL ls) _ rfl hm ?_ ?_
        · exact ((Keeps.push w _ (fun _ => False)).trans (Keeps.kill _ b (F := fun j => j = b) (fun _ => rfl)) (fun _ _ h => h.elim) (fun j _ h => by subst h; rfl))
        · rw [at_kill, if_neg (by rintro ⟨h, _⟩; exact absurd (cells_lt hc) (by rw [← h]; exact Nat.lt_irrefl _)), at_push, if_pos rfl]
          simp
    · exact fin b o c hc (by omega) hext rfl hcap

/-- The lines behind. -/
theorem cut_behind {w : World} {v : Value} {ls : List Line} {k : IntKind} {i : Nat} {Q : Value × World → Prop} (h : Lns w v ls) (hi : i ≤ ls.length) (hroom : ls.length ≤ 1000000)
    (hq : ∀ v', Lns w v' (ls.drop i) → blockOf v' = blockOf v → Q (v', w)) : (sliceS 31 5 v (some (.int k i)) none none w).all Q := by
  have hO : OPEN = 4611686018427387904 := rfl
  rcases h with ⟨rfl, rfl⟩ | ⟨b, o, cap, c, rfl, hc, h1, ⟨rfl, rfl⟩ | ⟨h2, h3⟩⟩
  · have : i = 0 := by simpa using hi
    subst this
    unfold sliceS
    simp only [intO]
    rw [if_pos (by omega), if_pos (by simp)]
    exact hq _ (.inl ⟨by simp, rfl⟩) (by simp [blockOf])
  · have : i = 0 := by simpa using hi
    subst this
    unfold sliceS
    simp only [intO]
    rw [if_pos (by omega), if_pos (by simp)]
    exact hq _ (.inr ⟨b, o, 0, c, by simp, hc, h1, .inl ⟨rfl, rfl⟩⟩) (by simp [blockOf])
  · have hsz := Lns.size h1 h2
    have hdrop : c.toList.drop (o + i * 5) = flatL (ls.drop i) := by rw [← List.drop_drop, h2, flatL_drop]
    unfold sliceS
    simp only [intO]
    rcases h3 with rfl | ⟨rfl, hcap⟩
    · rw [if_neg (Nat.lt_irrefl _)]
      simp only [hc]
      rw [if_pos ⟨trivial, trivial, by omega, by omega, by omega⟩]
      simp only [if_true, Int.le_refl, Int.toNat_natCast]
      exact hq _ (.inr ⟨b, o + i * 5, OPEN, c, by rw [List.length_drop], hc, by omega, .inr ⟨hdrop, .inl rfl⟩⟩) rfl
    · rw [if_pos hcap, if_pos ⟨by omega, by omega, by omega, by omega, fun h => by cases h⟩]
      simp only [Int.toNat_natCast]
      by_cases he : ls.length = i
      · rw [if_pos he]
        exact hq _ (.inr ⟨b, o, 0, c, by rw [List.length_drop, he]; simp, hc, h1, .inl ⟨by rw [← he, List.drop_length], rfl⟩⟩) rfl
      · rw [if_neg he]
        exact hq _ (.inr ⟨b, o + i * 5, ls.length - i, c, by rw [List.length_drop]; simp [Addr.add_off], hc, by omega, .inr ⟨hdrop, .inr ⟨by rw [List.length_drop], by omega⟩⟩⟩) (by simp [blockOf, Addr.add_off])

theorem cut_one {w : World} {v : Value} {ls : List Line} {Q : Value × World → Prop} (h : Lns w v ls) (hi : 1 ≤ ls.length) (hroom : ls.length ≤ 1000000)
    (hq : ∀ v', Lns w v' (ls.drop 1) → blockOf v' = blockOf v → Q (v', w)) : (sliceS 31 5 v (some (.int .i64 1)) none none w).all Q := cut_behind (i := 1) (k := .i64) h hi hroom hq

/-- The lines ahead. -/
theorem cut_ahead {w : World} {v : Value} {ls : List Line} {k : IntKind} {i : Nat} {Q : Value × World → Prop} (h : Lns w v ls) (hi : i ≤ ls.length) (hroom : ls.length ≤ 1000000)
    (hq : ∀ v', Src w v' (ls.take i) → Q (v', w)) : (sliceS 31 5 v none (some (.int k i)) none w).all Q := by
  have hO : OPEN = 4611686018427387904 := rfl
  rcases h with ⟨rfl, rfl⟩ | ⟨b, o, cap, c, rfl, hc, h1, ⟨rfl, rfl⟩ | ⟨h2, h3⟩⟩
  · have : i = 0 := by simpa using hi
    subst this
    unfold sliceS
    simp only [intO]
    rw [if_pos (by omega), if_pos (by simp)]
    exact hq _ (.inl ⟨by simp, by simp⟩)
  · have : i = 0 := by simpa using hi
    subst this
    unfold sliceS
    simp only [intO]
    rw [if_pos (by omega), if_pos (by simp)]
    exact hq _ (.inr ⟨b, o, 0, c, _, _, by simp, hc, by simpa using h1, by simp [flatL]⟩)
  · have hsz := Lns.size h1 h2
    have hlen : (ls.take i).length = i := by rw [List.length_take]; omega
    have hext : c.toList.extract o (o + (ls.take i).length * 5) = flatL (ls.take i) := by
      rw [hlen, List.extract_eq_take_drop, h2, show o + i * 5 - o = i * 5 by omega, flatL_take]
    unfold sliceS
    simp only [intO]
    rcases h3 with rfl | ⟨rfl, hcap⟩
    · rw [if_neg (Nat.lt_irrefl _)]
      simp only [hc]
      rw [if_pos ⟨trivial, trivial, by omega, by omega, by omega⟩]
      simp only [if_true, Int.toNat_natCast]
      rw [if_pos (by omega)]
      exact hq _ (.inr ⟨b, o, OPEN, c, _, _, by rw [hlen]; simp, hc, by rw [hlen]; omega, hext⟩)
    · rw [if_pos hcap, if_pos ⟨by omega, by omega, by omega, by omega, fun h => by cases h⟩]
      simp only [Int.toNat_natCast]
      refine hq _ (.inr ⟨b, o, ls.length, c, _, _, ?_, hc, by rw [hlen]; omega, hext⟩)
      rw [hlen]
      split <;> simp [Addr.add_off]

/-- All lines, and no room behind. -/
theorem cut_all {w : World} {v : Value} {ls : List Line} {k k2 : IntKind} {Q : Value × World → Prop} (h : Lns w v ls) (hroom : ls.length ≤ 1000000)
    (hq : ∀ v', Lns w v' ls → blockOf v' = blockOf v → Q (v', w)) : (sliceS 31 5 v none (some (.int k (ls.length : Int))) (some (.int k2 (ls.length : Int))) w).all Q := by
  have hO : OPEN = 4611686018427387904 := rfl
  rcases h with ⟨rfl, rfl⟩ | ⟨b, o, cap, c, rfl, hc, h1, ⟨rfl, rfl⟩ | ⟨h2, h3⟩⟩
  · unfold sliceS
    simp only [intO]
    rw [if_pos (by omega), if_pos (by simp)]
    exact hq _ (.inl ⟨by simp, rfl⟩) (by simp [blockOf])
  · unfold sliceS
    simp only [intO]
    rw [if_pos (by omega), if_pos (by simp)]
    exact hq _ (.inr ⟨b, o, 0, c, by simp, hc, h1, .inl ⟨rfl, rfl⟩⟩) (by simp [blockOf])
  · have hsz := Lns.size h1 h2
    unfold sliceS
    simp only [intO]
    rcases h3 with rfl | ⟨rfl, hcap⟩
    · rw [if_neg (Nat.lt_irrefl _)]
      simp only [hc]
      rw [if_pos ⟨trivial, trivial, by omega, by omega, by omega⟩, if_neg (by simp), if_pos ⟨by omega, by simp; omega, rfl, by simp; omega⟩]
      refine hq _ (.inr ⟨b, o, ls.length, c, ?_, hc, h1, .inr ⟨h2, .inr ⟨rfl, by omega⟩⟩⟩) ?_
      · simp
      · simp [blockOf]
    · rw [if_pos hcap, if_pos ⟨by omega, by omega, by omega, by omega, fun _ => rfl⟩]
      refine hq _ (.inr ⟨b, o, ls.length, c, ?_, hc, h1, .inr ⟨h2, .inr ⟨rfl, hcap⟩⟩⟩) ?_
      · simp only [Int.toNat_natCast]; split <;> simp [Addr.add_off]
      · simp only [Int.toNat_natCast]; split <;> simp [Addr.add_off, blockOf]
end Go.Proofs.Ytplcocifndpplaa
