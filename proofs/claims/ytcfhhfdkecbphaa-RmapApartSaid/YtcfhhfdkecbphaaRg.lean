/-
  Rmap: Insert and Delete of rows in ideal runs; the map of rows.
-/
import Derived.Test.YtcfhhfdkecbphaaRf
namespace Go.Proofs.Ytcfhhfdkecbphaa
open Go Go.Ideal

theorem ext_flat {c : Array Value} {o : Nat} {l : List Sp} (h1 : c.toList.drop o = flat ESp l) (a k : Nat) : (c.extract (o + a * 2) (o + k * 2)).toList = flat ESp ((l.drop a).take (k - a)) := by
  have h2 := flat_drop ESp l a
  have h3 := flat_take ESp (l.drop a) (k - a)
  simp only [show ESp.es = 2 from rfl] at h2 h3
  rw [Array.toList_extract, List.extract_eq_take_drop, ← List.drop_drop, h1, h2, show o + k * 2 - (o + a * 2) = (k - a) * 2 by omega, h3]

theorem at_new {w : World} {X : Array Value} {b : Nat} (hb : b < w.heap.size) : cellsOf? (Ideal.kill (w.alloc (.cells X 27)) b) w.heap.size = some (X, 27, (0, 0)) := by
  unfold cellsOf?
  have := putObj_heap (w.alloc (.cells X 27)) b dead w.heap.size (by simp; omega)
  change (Ideal.kill (w.alloc (.cells X 27)) b).heap[w.heap.size]? = _ at this
  rw [this, if_neg (by omega), alloc_heap, if_pos rfl]
theorem keep_new {w : World} {X : Array Value} {b : Nat} : Keeps w (Ideal.kill (w.alloc (.cells X 27)) b) (fun j => j = b) :=
  (show Keeps w (w.alloc (.cells X 27)) (fun j => j = b) from Keeps.push w _ _).trans (Keeps.kill _ _ (F := fun j => j = b) (fun _ => rfl)) (fun _ _ h => h) (fun _ _ h => h)

theorem insE {w : World} {v : Value} {l : List Sp} {vb i : Nat} {s : Sp} (hv : RowE ESp w v l) (hn : l.length ≤ 1000000) (hi : i < l.length) (hvb : cellsOf? w vb = some (#[.int .i64 s.1, .int .i64 s.2], 27, (0, 0))) (hne : blkOf v ≠ some vb) :
    ∃ v' w', insS #[v, .int .i64 i, .slice (some ⟨vb, 0, none⟩) 1 1] w = some (.ret (v', w')) ∧ RowE ESp w' v' (l.take i ++ s :: l.drop i) ∧ Keeps w w' (fun j => blkOf v = some j) ∧ blkOf v' = some w.heap.size := by
  rcases hv with ⟨_, rfl⟩ | ⟨b, o, cap, c, rfl, hc, h1, ⟨rfl, _⟩ | ⟨h2, h3⟩⟩
  · simp at hi
  · simp at hi
  · have hsz := RowE.size h1 h2
    simp only [show ESp.es = 2 from rfl, show ESp.te = 27 from rfl] at hsz hc
    have hne' : ¬ vb = b := fun e => hne (by rw [e]; rfl)
    have e0 := ext_flat h2 0 l.length
    have e1 := ext_flat h2 0 i
    have e2 := ext_flat h2 i l.length
    simp only [Nat.zero_mul, Nat.add_zero, Nat.sub_zero, List.drop_zero, List.take_length] at e0 e1
    rw [List.take_of_length_le (by simp)] at e2
    have hvx : (#[.int .i64 s.1, .int .i64 s.2] : Array Value).extract 0 (0 + 2) = #[.int .i64 s.1, .int .i64 s.2] := rfl
    have hins : (insRow c o l.length i #[.int .i64 s.1, .int .i64 s.2]).toList = flat ESp (l.take i ++ s :: l.drop i) := by
      unfold insRow
      rw [Array.toList_append, Array.toList_append, e1, e2, flat_append]
      simp only [flat, List.append_assoc]
      rfl
    refine ⟨.slice (some ⟨w.heap.size, 0, none⟩) (l.length + 1) OPEN, Ideal.kill (w.alloc (.cells (insRow c o l.length i #[.int .i64 s.1, .int .i64 s.2]) 27)) b, ?_, ?_, ?_, ?_⟩
    · unfold insS
      simp only [hc, hvb]
      rw [if_pos ⟨by omega, by omega⟩, if_pos ⟨h3.imp id (·.1), trivial, trivial, by omega, by simp, hn, hne', by rw [List.all_eq_true, e0]; exact flat_one ESp l, rfl⟩, hvx, Int.toNat_natCast]
    · refine .inr ⟨w.heap.size, 0, OPEN, _, ?_, at_new (cells_lt hc), Nat.zero_le _, .inr ⟨by rw [List.drop_zero]; exact hins, .inl rfl⟩⟩
      simp; omega
    · exact keep_new.mono fun j _ h => by rw [h]; rfl
    · rfl

theorem delE {w : World} {v : Value} {l : List Sp} {i : Nat} (hv : RowE ESp w v l) (hn : l.length ≤ 1000000) (hi : i < l.length) :
    ∃ v' w', delS #[v, .int .i64 i, .int .i64 ((i : Int) + 1)] w = .ret (v', w') ∧ RowE ESp w' v' (l.take i ++ l.drop (i + 1)) ∧ Keeps w w' (fun j => blkOf v = some j) ∧ blkOf v' = some w.heap.size := by
  rcases hv with ⟨_, rfl⟩ | ⟨b, o, cap, c, rfl, hc, h1, ⟨rfl, _⟩ | ⟨h2, h3⟩⟩
  · simp at hi
  · simp at hi
  · have hsz := RowE.size h1 h2
    simp only [show ESp.es = 2 from rfl, show ESp.te = 27 from rfl] at hsz hc
    have e0 := ext_flat h2 0 l.length
    have e1 := ext_flat h2 0 i
    have e2 := ext_flat h2 (i + 1) l.length
    simp only [Nat.zero_mul, Nat.add_zero, Nat.sub_zero, List.drop_zero, List.take_length] at e0 e1
    rw [List.take_of_length_le (by simp)] at e2
    have hins : (delRow c o l.length i).toList = flat ESp (l.take i ++ l.drop (i + 1)) := by
      unfold delRow
      rw [Array.toList_append, e1, e2, flat_append]
    refine ⟨.slice (some ⟨w.heap.size, 0, none⟩) (l.length - 1) OPEN, Ideal.kill (w.alloc (.cells (delRow c o l.length i) 27)) b, ?_, ?_, ?_, ?_⟩
    · unfold delS
      simp only [hc]
      rw [if_pos ⟨by omega, by omega, trivial, h3.imp id (·.1), trivial, by omega, hn, by rw [List.all_eq_true, e0]; exact flat_one ESp l⟩, Int.toNat_natCast]
    · refine .inr ⟨w.heap.size, 0, OPEN, _, ?_, at_new (cells_lt hc), Nat.zero_le _, .inr ⟨by rw [List.drop_zero]; exact hins, .inl rfl⟩⟩
      simp; omega
    · exact keep_new.mono fun j _ h => by rw [h]; rfl
    · rfl

/-! ### The map of rows -/
def KeepT (w w' : World) : Prop := w.heap.size ≤ w'.heap.size ∧ ∀ j c e fz, cellsOf? w j = some (c, e, fz) → (fz = (0, 0) → e ≠ 27) → cellsOf? w' j = some (c, e, fz)
theorem KeepT.refl (w : World) : KeepT w w := ⟨Nat.le_refl _, fun _ _ _ _ h _ => h⟩
theorem KeepT.trans {a b c : World} (h : KeepT a b) (k : KeepT b c) : KeepT a c := ⟨Nat.le_trans h.1 k.1, fun j c e fz h1 h2 => k.2 j c e fz (h.2 j c e fz h1 h2) h2⟩
theorem KeepT.of {w w' : World} {F : Nat → Prop} (h : Keeps w w' F) (hF : ∀ j c e fz, F j → cellsOf? w j = some (c, e, fz) → fz = (0, 0) ∧ e = 27) : KeepT w w' :=
  ⟨h.1, fun j c e fz hc hn => h.cells hc fun hf => hn (hF j c e fz hf hc).1 (hF j c e fz hf hc).2⟩
theorem KeepT.of0 {w w' : World} (h : Keeps w w' (fun _ => False)) : KeepT w w' := KeepT.of h fun _ _ _ _ h => h.elim

structure MpAt (w : World) (b r : Nat) (m : MapL) (L : List On) : Prop where
  cell : cellsOf? w b = some (#[.map (some r)], 51, (0, 0))
  map : MapAt w r m
  no : ∀ f, getM m f = none ↔ spots L f = []
  row : ∀ f v, getM m f = some v → RowE ESp w v (spots L f)
  apart : ∀ f g v u j, getM m f = some v → getM m g = some u → f ≠ g → blkOf v = some j → blkOf u ≠ some j

theorem MpAt.hasBlk {w : World} {b r : Nat} {m : MapL} {L : List On} (h : MpAt w b r m L) {f : Int} {v : Value} (hv : getM m f = some v) : ∃ j, blkOf v = some j := by
  have hr := h.row f v hv
  have hne : spots L f ≠ [] := fun e => by rw [(h.no f).2 e] at hv; cases hv
  rcases hr with ⟨_, e⟩ | ⟨b', o, cap, c, rfl, _⟩
  · exact absurd e hne
  · exact ⟨b', rfl⟩
/-- The row that is looked up. -/
def rowOf (m : MapL) (f : Int) : Value := (getM m f).getD (.slice none 0 0)
theorem MpAt.rowAt {w : World} {b r : Nat} {m : MapL} {L : List On} (h : MpAt w b r m L) (f : Int) : RowE ESp w (rowOf m f) (spots L f) := by
  unfold rowOf
  cases hg : getM m f with
  | none => rw [(h.no f).1 hg]; exact RowE.nil w
  | some v => exact h.row f v hg
theorem MpAt.blk {m : MapL} {f : Int} {j : Nat} (hj : blkOf (rowOf m f) = .some j) : ∃ v, getM m f = .some v ∧ rowOf m f = v := by
  unfold rowOf at *
  cases hg : getM m f with
  | none => rw [hg] at hj; cases hj
  | some v => exact ⟨v, rfl, rfl⟩

theorem MpAt.keep {w w' : World} {b r : Nat} {m : MapL} {L : List On} (h : MpAt w b r m L) {F : Nat → Prop} (hk : Keeps w w' F) (h1 : ¬ F b) (h2 : ¬ F r) (h3 : ∀ f v j, getM m f = .some v → blkOf v = .some j → ¬ F j) : MpAt w' b r m L where
  cell := hk.cells h.cell h1
  map := h.map.keep hk h2
  no := h.no
  row := fun f v hv => (h.row f v hv).keep hk fun j hj => h3 f v j hv hj
  apart := h.apart
theorem MpAt.keep0 {w w' : World} {b r : Nat} {m : MapL} {L : List On} (h : MpAt w b r m L) (hk : Keeps w w' (fun _ => False)) : MpAt w' b r m L := h.keep hk (fun h => h) (fun h => h) (fun _ _ _ _ _ h => h)

/-- What is written for one frame. -/
def Wr (r : Nat) (m : MapL) (f : Int) (j : Nat) : Prop := j = r ∨ blkOf (rowOf m f) = .some j
theorem MpAt.keepT {w w' : World} {b r : Nat} {m : MapL} {L : List On} (h : MpAt w b r m L) {f : Int} (hk : Keeps w w' (Wr r m f)) : KeepT w w' := KeepT.of hk fun j c e fz hj hc => by
  rcases hj with rfl | hj
  · rw [h.map.nocells] at hc; cases hc
  · obtain ⟨c', hc'⟩ := rowTag (h.rowAt f) hj
    rw [hc] at hc'
    simp only [Option.some.injEq, Prod.mk.injEq] at hc'
    exact ⟨hc'.2.2, hc'.2.1⟩
theorem MpAt.cellW {w w' : World} {b r : Nat} {m : MapL} {L : List On} (h : MpAt w b r m L) {f : Int} (hk : Keeps w w' (Wr r m f)) : cellsOf? w' b = .some (#[.map (.some r)], 51, (0, 0)) := (h.keepT hk).2 _ _ _ _ h.cell fun _ => by decide

theorem MpAt.put {w w' : World} {b r : Nat} {m : MapL} {L L' : List On} (h : MpAt w b r m L) {f : Int} {u : Value} (hk : Keeps w w' (Wr r m f)) (hm : MapAt w' r (putM m f u)) (hu : RowE ESp w' u (spots L' f)) (hne : spots L' f ≠ [])
    (hs : ∀ g, g ≠ f → spots L' g = spots L g) (hf : ∀ j, blkOf u = .some j → w.heap.size ≤ j) : MpAt w' b r (putM m f u) L' := by
  have hold : ∀ g v, g ≠ f → getM m g = .some v → RowE ESp w' v (spots L g) := fun g v hg hv => (h.row g v hv).keep hk fun j hj hw => by
    rcases hw with rfl | hw
    · obtain ⟨c', hc'⟩ := rowTag (h.row g v hv) hj
      rw [h.map.nocells] at hc'; cases hc'
    · obtain ⟨v2, e2, e3⟩ := MpAt.blk hw
      rw [e3] at hw
      exact h.apart g f v v2 j hv e2 hg hj hw
  have hlt : ∀ g v j, getM m g = .some v → blkOf v = .some j → j < w.heap.size := fun g v j hv hj => (h.row g v hv).block_lt hj
  refine ⟨h.cellW hk, hm, fun g => ?_, fun g v hv => ?_, fun g g' v u' j hv hu' hgg hj hj' => ?_⟩
  · rw [getM_put]
    by_cases e : g = f
    · subst e; rw [if_pos rfl]; exact ⟨(fun h => by cases h), fun h => absurd h hne⟩
    · rw [if_neg e, hs g e]; exact h.no g
  · rw [getM_put] at hv
    by_cases e : g = f
    · subst e; rw [if_pos rfl] at hv; simp only [Option.some.injEq] at hv; subst hv; exact hu
    · rw [if_neg e] at hv; rw [hs g e]; exact hold g v e hv
  · rw [getM_put] at hv hu'
    by_cases e : g = f
    · subst e
      rw [if_pos rfl] at hv; simp only [Option.some.injEq] at hv; subst hv
      rw [if_neg (fun e => hgg e.symm)] at hu'
      have := hlt g' u' j hu' hj'
      have := hf j hj
      omega
    · rw [if_neg e] at hv
      by_cases e2 : g' = f
      · subst e2
        rw [if_pos rfl] at hu'; simp only [Option.some.injEq] at hu'; subst hu'
        have := hlt g v j hv hj
        have := hf j hj'
        omega
      · rw [if_neg e2] at hu'
        exact h.apart g g' v u' j hv hu' hgg hj hj'
theorem MpAt.del {w w' : World} {b r : Nat} {m : MapL} {L L' : List On} (h : MpAt w b r m L) {f : Int} (hk : Keeps w w' (Wr r m f)) (hm : MapAt w' r (delM m f)) (hne : spots L' f = []) (hs : ∀ g, g ≠ f → spots L' g = spots L g) : MpAt w' b r (delM m f) L' := by
  have hold : ∀ g v, g ≠ f → getM m g = .some v → RowE ESp w' v (spots L g) := fun g v hg hv => (h.row g v hv).keep hk fun j hj hw => by
    rcases hw with rfl | hw
    · obtain ⟨c', hc'⟩ := rowTag (h.row g v hv) hj
      rw [h.map.nocells] at hc'; cases hc'
    · obtain ⟨v2, e2, e3⟩ := MpAt.blk hw
      rw [e3] at hw
      exact h.apart g f v v2 j hv e2 hg hj hw
  have hg := fun g => getM_del h.map.nodup f g
  refine ⟨h.cellW hk, hm, fun g => ?_, fun g v hv => ?_, fun g g' v u' j hv hu' hgg hj hj' => ?_⟩
  · rw [hg]
    by_cases e : g = f
    · subst e; rw [if_pos rfl]; exact ⟨(fun _ => hne), fun _ => rfl⟩
    · rw [if_neg e, hs g e]; exact h.no g
  · rw [hg] at hv
    by_cases e : g = f
    · subst e; rw [if_pos rfl] at hv; cases hv
    · rw [if_neg e] at hv; rw [hs g e]; exact hold g v e hv
  · rw [hg] at hv hu'
    by_cases e : g = f
    · subst e; rw [if_pos rfl] at hv; cases hv
    · by_cases e2 : g' = f
      · subst e2; rw [if_pos rfl] at hu'; cases hu'
      · rw [if_neg e] at hv; rw [if_neg e2] at hu'
        exact h.apart g g' v u' j hv hu' hgg hj hj'
end Go.Proofs.Ytcfhhfdkecbphaa
