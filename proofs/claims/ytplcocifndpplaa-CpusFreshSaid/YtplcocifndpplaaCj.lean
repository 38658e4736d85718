/-
  Processors: how the document's lie; what looks at them.
-/
import Derived.Test.YtplcocifndpplaaCi
namespace Go.Proofs.Ytplcocifndpplaa
open Go Go.Ideal

structure Sw where
  c : Int
  s : Int
  t : Int
def EA : En (Fl × Int) := ⟨4, 117, fun x => [i64 x.1.s, i64 x.1.p, i64 x.1.n, i64 x.2], fun _ => rfl, fun _ v hv => by simp at hv; rcases hv with rfl | rfl | rfl | rfl <;> rfl, by decide⟩
def EW : En Sw := ⟨3, 122, fun x => [i64 x.c, i64 x.s, i64 x.t], fun _ => rfl, fun _ v hv => by simp at hv; rcases hv with rfl | rfl | rfl <;> rfl, by decide⟩
def sawL (l : List Sw) (i sp : Int) : Int := l.foldl (fun t q => if q.c = i ∧ q.s = sp then q.t else t) 0
theorem sawL_snoc (l : List Sw) (q : Sw) (i sp : Int) : sawL (l ++ [q]) i sp = if q.c = i ∧ q.s = sp then q.t else sawL l i sp := by simp [sawL]

structure Rd where
  bv : Value
  av : Value
  sv : Value
  pb : Nat → Nat

structure RefAt (w : World) (x : Nat) (r : Rd) (s : CS) (C : Nat) : Prop where
  cell : cellsOf? w x = some (#[r.bv, r.av, r.sv], 114, (0, 0))
  row : RowE (EP 26) w r.bv ((List.range s.N).map r.pb)
  buf : ∀ i, i < s.N → Buf w 38 (r.pb i) s.size (s.L i)
  all : ∃ xs, RowE EA w r.av xs ∧ xs.length = s.A.length ∧ ∀ (k : Nat) (h : k < xs.length) (h' : k < s.A.length), xs[k] = (s.A[k], ((flo (s.A.take (k + 1)) s.A[k].s).length : Int))
  saw : ∃ sl, RowE EW w r.sv sl ∧ sl.length ≤ C ∧ ∀ (i : Nat) sp, sawL sl i sp = s.seen i sp
  apart : ∀ i j, i < s.N → j < s.N → i ≠ j → ∀ b, foot w (r.pb i) b → ¬ foot w (r.pb j) b

def TR (t : TypeId) : Prop := t = 114 ∨ t = 26 ∨ t = 117 ∨ t = 122
def TRW (t : TypeId) : Prop := t = 114 ∨ t = 117 ∨ t = 122
abbrev MvR (w w' : World) (s : CS) (r : Rd) : Prop := MoveC w w' s.N r.pb TRW False

theorem RefAt.keep {w w' : World} {x : Nat} {r : Rd} {s : CS} {C : Nat} {G : Nat → Prop} (h : RefAt w x r s C) (hk : Keeps w w' G) (hG : ∀ b, Mine w s.N r.pb TR False b → ¬ G b) : RefAt w' x r s C ∧ ∀ i, i < s.N → ∀ b, foot w' (r.pb i) b ↔ foot w (r.pb i) b := by
  have hT : ∀ {b c t}, cellsOf? w b = some (c, t, (0, 0)) → TR t → ¬ G b := fun hc ht => hG _ (.inr (.inr ⟨_, _, hc, ht⟩))
  have hb : ∀ i, i < s.N → Buf w' 38 (r.pb i) s.size (s.L i) ∧ ∀ b, foot w' (r.pb i) b ↔ foot w (r.pb i) b := fun i hi => (h.buf i hi).keep hk (fun j hj => hG j (.inl ⟨i, hi, hj⟩))
  refine ⟨⟨hk.cells h.cell (hT h.cell (.inl rfl)), h.row.keep hk (fun b hb => ?_), fun i hi => (hb i hi).1, ?_, ?_, fun i j hi hj hne b h1 h2 => ?_⟩, fun i hi => (hb i hi).2⟩
  · obtain ⟨_, hc⟩ := h.row.tag hb
    exact hT hc (.inr (.inl rfl))
  · obtain ⟨xs, h1, h2⟩ := h.all
    refine ⟨xs, h1.keep hk fun b hb => ?_, h2⟩
    obtain ⟨_, hc⟩ := h1.tag hb
    exact hT hc (.inr (.inr (.inl rfl)))
  · obtain ⟨sl, h1, h2⟩ := h.saw
    refine ⟨sl, h1.keep hk fun b hb => ?_, h2⟩
    obtain ⟨_, hc⟩ := h1.tag hb
    exact hT hc (.inr (.inr (.inr rfl)))
  · exact h.apart i j hi hj hne b (((hb i hi).2 b).1 h1) (((hb j hj).2 b).1 h2)
theorem MoveC.newR {w w' : World} {x : Nat} {r : Rd} {s : CS} {C : Nat} {T : TypeId → Prop} {M : Prop} (h : RefAt w x r s C) (hk : Keeps w w' (fun _ => False)) : MoveC w w' s.N r.pb T M :=
  ⟨hk.mono fun _ _ h => h.elim, fun i hi b hb => .inl (((h.keep hk (fun _ _ h => h)).2 i hi b).1 hb)⟩
theorem RefAt.box {w : World} {x : Nat} {r : Rd} {s : CS} {C : Nat} (h : RefAt w x r s C) {b : Nat} {cs : Array Value} {t : TypeId} {o : Obj} (hb : cellsOf? w b = some (cs, t, (0, 0))) (ht : ¬ TR t) (hn : ∀ i, i < s.N → ¬ foot w (r.pb i) b) : RefAt (World.set w b o) x r s C ∧ ∀ i, i < s.N → ∀ y, foot (World.set w b o) (r.pb i) y ↔ foot w (r.pb i) y := by
  refine h.keep (Keeps.set w b o (F := fun j => j = b) (fun _ => rfl)) fun x hx e => ?_
  subst e
  rcases hx with ⟨i, hi, hf⟩ | ⟨h0, _⟩ | ⟨_, t', hc, ht'⟩
  · exact hn i hi hf
  · exact h0
  · rw [hb] at hc
    simp only [Option.some.injEq, Prod.mk.injEq] at hc
    rw [hc.2.1] at ht
    exact ht ht'
theorem RefAt.mono {w : World} {x : Nat} {r : Rd} {s : CS} {C D : Nat} (h : RefAt w x r s C) (hCD : C ≤ D) : RefAt w x r s D := ⟨h.cell, h.row, h.buf, h.all, by obtain ⟨sl, h1, h2, h3⟩ := h.saw; exact ⟨sl, h1, Nat.le_trans h2 hCD, h3⟩, h.apart⟩

theorem RefAt.lay {w w' : World} {x : Nat} {r : Rd} {s : CS} {C : Nat} (h : RefAt w x r s C) {i : Nat} (hi : i < s.N) {ls : List Line} (hl : Lay w w' 38 (r.pb i) s.size ls) : RefAt w' x r (setLn s i ls) C ∧ MvR w w' s r := by
  obtain ⟨hb, hm⟩ := hl
  have hk := hm.1
  have hT : ∀ {b c t}, cellsOf? w b = some (c, t, (0, 0)) → TR t → ¬ foot w (r.pb i) b := fun hc ht hf => by
    obtain ⟨c', t', h1, h2⟩ := (h.buf i hi).tag hf
    rw [hc] at h1
    simp only [Option.some.injEq, Prod.mk.injEq] at h1
    obtain ⟨_, rfl, _⟩ := h1
    rcases h2 with rfl | rfl <;> simp [TR] at ht
  have hother : ∀ j, j < s.N → j ≠ i → Buf w' 38 (r.pb j) s.size (s.L j) ∧ ∀ b, foot w' (r.pb j) b ↔ foot w (r.pb j) b := fun j hj hne => (h.buf j hj).keep hk (fun x hx hy => h.apart j i hj hi hne x hx hy)
  refine ⟨⟨hk.cells h.cell (hT h.cell (.inl rfl)), h.row.keep hk (fun b hb => ?_), fun j hj => ?_, ?_, ?_, fun j k hj hk' hne b h1 h2 => ?_⟩, MoveC.of hk (fun b hb => .inl ⟨i, hi, hb⟩) fun j hj b hb2 => ?_⟩
  · obtain ⟨_, hc⟩ := h.row.tag hb
    exact hT hc (.inr (.inl rfl))
  · rw [setLn_L]
    by_cases he : j = i
    · subst he; rw [if_pos rfl]; exact hb
    · rw [if_neg he]; exact (hother j hj he).1
  · obtain ⟨xs, h1, h2⟩ := h.all
    refine ⟨xs, h1.keep hk fun b hb => ?_, h2⟩
    obtain ⟨_, hc⟩ := h1.tag hb
    exact hT hc (.inr (.inr (.inl rfl)))
  · obtain ⟨sl, h1, h2⟩ := h.saw
    refine ⟨sl, h1.keep hk fun b hb => ?_, h2⟩
    obtain ⟨_, hc⟩ := h1.tag hb
    exact hT hc (.inr (.inr (.inr rfl)))
  · have lt : ∀ n, n < s.N → ∀ b, foot w (r.pb n) b → b < w.heap.size := fun n hn b hf => (h.buf n hn).foot_lt hf
    by_cases e1 : j = i
    · subst e1
      have g2 := ((hother k hk' (fun e => hne e.symm)).2 b).1 h2
      rcases hm.2 b h1 with g | g
      · exact h.apart j k hj hk' hne b g g2
      · have := lt k hk' b g2; omega
    · have g1 := ((hother j hj e1).2 b).1 h1
      by_cases e2 : k = i
      · subst e2
        rcases hm.2 b h2 with g | g
        · exact h.apart j k hj hk' hne b g1 g
        · have := lt j hj b g1; omega
      · exact h.apart j k hj hk' hne b g1 (((hother k hk' e2).2 b).1 h2)
  · by_cases he : j = i
    · subst he; exact hm.2 b hb2
    · exact .inl (((hother j hj he).2 b).1 hb2)

/-- The document's rows are laid anew. -/
theorem RefAt.rows {w w' : World} {x : Nat} {r : Rd} {s s' : CS} {C D : Nat} (h : RefAt w x r s C) {F : Nat → Prop} {av sv : Value} (hk : Keeps w w' F) (hF : ∀ b, F b → b = x ∨ ∃ c t, cellsOf? w b = some (c, t, (0, 0)) ∧ (t = 117 ∨ t = 122)) (hc : cellsOf? w' x = some (#[r.bv, av, sv], 114, (0, 0)))
    (hN : s'.N = s.N) (hs : s'.size = s.size) (hL : s'.L = s.L)
    (ha : ∃ xs, RowE EA w' av xs ∧ xs.length = s'.A.length ∧ ∀ (k : Nat) (h : k < xs.length) (h' : k < s'.A.length), xs[k] = (s'.A[k], ((flo (s'.A.take (k + 1)) s'.A[k].s).length : Int)))
    (hsw : ∃ sl, RowE EW w' sv sl ∧ sl.length ≤ D ∧ ∀ (i : Nat) sp, sawL sl i sp = s'.seen i sp) : RefAt w' x { r with av := av, sv := sv } s' D ∧ MvR w w' s r := by
  have hno : ∀ {b c t}, cellsOf? w b = some (c, t, (0, 0)) → t ≠ 114 → t ≠ 117 → t ≠ 122 → ¬ F b := by
    intro b c t hb h1 h2 h3 hf
    rcases hF b hf with rfl | ⟨c', t', hc', ht⟩
    · rw [h.cell] at hb; simp at hb; exact h1 hb.2.symm
    · rw [hb] at hc'
      simp only [Option.some.injEq, Prod.mk.injEq] at hc'
      rw [← hc'.2.1] at ht
      exact ht.elim h2 h3
  have hbuf : ∀ i, i < s.N → Buf w' 38 (r.pb i) s.size (s.L i) ∧ ∀ b, foot w' (r.pb i) b ↔ foot w (r.pb i) b := fun i hi => (h.buf i hi).keep hk (fun j hj => by
    obtain ⟨cs, t, h1, h2⟩ := (h.buf i hi).tag hj
    exact hno h1 (by rintro rfl; simp at h2) (by rintro rfl; simp at h2) (by rintro rfl; simp at h2))
  refine ⟨⟨hc, ?_, fun i hi => ?_, ha, hsw, fun i j hi hj hne b h1 h2 => ?_⟩, MoveC.of hk (fun b hb => ?_) fun i hi b hb => .inl (((hbuf i hi).2 b).1 hb)⟩
  · rw [hN]
    exact h.row.keep hk fun b hb => by
      obtain ⟨_, hc⟩ := h.row.tag hb
      exact hno hc (by decide) (by decide) (by decide)
  · rw [hN] at hi; rw [hs, hL]; exact (hbuf i hi).1
  · rw [hN] at hi hj
    exact h.apart i j hi hj hne b (((hbuf i hi).2 b).1 h1) (((hbuf j hj).2 b).1 h2)
  · rcases hF b hb with rfl | ⟨c', t', hc', ht⟩
    · exact .inr (.inr ⟨_, _, h.cell, .inl rfl⟩)
    · exact .inr (.inr ⟨_, _, hc', ht.elim (fun h => .inr (.inl h)) fun h => .inr (.inr h)⟩)

/-! ### Looks -/
theorem run54 {K : Kont} {fuel : Nat} {w : World} {x : Nat} {r : Rd} {s : CS} {C : Nat} (hp : RefAt w x r s C) (n : Int) : wpGFn Try.prog K fuel 54 g54 #[ptr x, i64 n] w fun v w' => v = .bool (decide (isN s n)) ∧ w' = w := by
  rw [gfn_start]
  have hl := fun w' => hp.row.lenS (w' := w')
  simp only [List.length_map, List.length_range] at hl
  by_cases h0 : 0 ≤ n
  · simp -implicitDefEqProofs [g54, hp.cell, hl, h0, isN]
  · simp -implicitDefEqProofs [g54, h0, isN]

theorem run67 {K : Kont} {fuel : Nat} (hf : 2000 ≤ fuel) {w : World} {x : Nat} {r : Rd} {s : CS} {B C : Nat} (hp : RefAt w x r s C) (hs : s.ok B) (hB : B ≤ 1000) (sp : Int) : wpGFn Try.prog K fuel 67 g67 #[ptr x, i64 sp] w fun v w' => v = i64 (s.time sp) ∧ w' = w := by
  rw [gfn_start]
  obtain ⟨xs, hxs, hxl, hxa⟩ := hp.all
  have hlen := hs.len
  simp -implicitDefEqProofs [g67]
  refine loop_go (fun k ρ w' => ∃ q : Nat, k = s.A.length - q ∧ q ≤ s.A.length ∧ w' = w ∧ ρ 0 = ptr x ∧ ρ 1 = i64 sp ∧ ρ 5 = i64 (flo (s.A.take q) sp).length ∧ ρ 6 = i64 q) ?_ (i := s.A.length) ?_ (by show s.A.length < fuel; omega)
  · rintro k ρ w' ⟨q, rfl, hq, rfl, e0, e1, e5, e6⟩
    have w1 : IntKind.i64.wrap ((q : Int) + 1) = (q : Int) + 1 := by rw [IntKind.wrap_i64]; omega
    by_cases hql : q < s.A.length
    · have hql' : (q : Int) < s.A.length := by omega
      obtain ⟨b, o, cap, c, hv, hc, hsz, _, ha⟩ := hxs.at (i := q) (by omega)
      have a0 := ha 0 (by decide)
      have hxq := hxa q (by omega) hql
      rw [hxq] at a0
      rw [hxl] at hv
      simp [EA] at a0
      have htake : s.A.take (q + 1) = s.A.take q ++ [s.A[q]] := by rw [List.take_succ_eq_append_getElem hql]
      have hfl : (flo (s.A.take q) sp).length ≤ q := by have := flo_len (s.A.take q) sp; have := List.length_take_le q s.A; omega
      have hnx : (flo (s.A.take (q + 1)) sp).length = if s.A[q].s = sp then (flo (s.A.take q) sp).length + 1 else (flo (s.A.take q) sp).length := by
        rw [htake, flo_snoc]; split <;> simp
      generalize (flo (s.A.take q) sp).length = tt at *
      have w2 : IntKind.i64.wrap ((tt : Int) + 1) = (tt : Int) + 1 := by rw [IntKind.wrap_i64]; omega
      by_cases hsp : s.A[q].s = sp
      · rw [if_pos hsp] at hnx
        simp -implicitDefEqProofs [e0, e1, e5, e6, hp.cell, hv, hc, a0, hql', hql, hsp, w1, w2]
        exact ⟨s.A.length - (q + 1), by omega, q + 1, rfl, hql, by rw [hnx]; omega, by omega⟩
      · rw [if_neg hsp] at hnx
        simp -implicitDefEqProofs [e0, e1, e5, e6, hp.cell, hv, hc, a0, hql', hql, hsp, w1]
        exact ⟨s.A.length - (q + 1), by omega, q + 1, rfl, hql, by rw [hnx], by omega⟩
    · have : q = s.A.length := by omega
      have hl := fun w' => hxs.lenS (w' := w')
      simp only [hxl] at hl
      rw [this, List.take_length] at e5
      rw [this] at e6
      simp -implicitDefEqProofs [e0, e5, e6, hp.cell, hl]
      rfl
  · exact ⟨0, rfl, Nat.zero_le _, rfl, by simp, by simp, by simp [flo], by simp⟩

theorem run68 {K : Kont} {fuel : Nat} (hf : 20000 ≤ fuel) {w : World} {x : Nat} {r : Rd} {s : CS} {C : Nat} (hp : RefAt w x r s C) (hC : C < 20000) (i : Nat) (sp : Int) : wpGFn Try.prog K fuel 68 g68 #[ptr x, i64 i, i64 sp] w fun v w' => v = i64 (s.seen i sp) ∧ w' = w := by
  rw [gfn_start]
  obtain ⟨sl, hsl, hsc, hsa⟩ := hp.saw
  have hl := fun w' => hsl.lenS (w' := w')
  simp -implicitDefEqProofs [g68]
  refine loop_go (fun k ρ w' => ∃ q : Nat, k = sl.length - q ∧ q ≤ sl.length ∧ w' = w ∧ ρ 0 = ptr x ∧ ρ 1 = i64 i ∧ ρ 2 = i64 sp ∧ ρ 7 = i64 (sawL (sl.take q) i sp) ∧ ρ 8 = i64 q) ?_ (i := sl.length) ?_ (by show sl.length < fuel; omega)
  · rintro k ρ w' ⟨q, rfl, hq, rfl, e0, e1, e2, e7, e8⟩
    have w1 : IntKind.i64.wrap ((q : Int) + 1) = (q : Int) + 1 := by rw [IntKind.wrap_i64]; omega
    by_cases hql : q < sl.length
    · have hql' : (q : Int) < sl.length := by omega
      obtain ⟨b, o, cap, c, hv, hc, hsz, _, ha⟩ := hsl.at hql
      have a0 := ha 0 (by decide)
      have a1 := ha 1 (by decide)
      have a2 := ha 2 (by decide)
      simp [EW] at a0 a1 a2
      have htake : sl.take (q + 1) = sl.take q ++ [sl[q]] := by rw [List.take_succ_eq_append_getElem hql]
      have hnx : sawL (sl.take (q + 1)) i sp = if sl[q].c = i ∧ sl[q].s = sp then sl[q].t else sawL (sl.take q) i sp := by rw [htake, sawL_snoc]
      by_cases h1 : sl[q].c = i
      · by_cases h2 : sl[q].s = sp
        · rw [if_pos ⟨h1, h2⟩] at hnx
          simp -implicitDefEqProofs [e0, e1, e2, e7, e8, hp.cell, hv, hc, a0, a1, a2, hql', hql, h1, h2, w1]
          exact ⟨sl.length - (q + 1), by omega, q + 1, rfl, hql, by rw [hnx], by omega⟩
        · rw [if_neg (fun h => h2 h.2)] at hnx
          simp -implicitDefEqProofs [e0, e1, e2, e7, e8, hp.cell, hv, hc, a0, a1, hql', hql, h1, h2, w1]
          exact ⟨sl.length - (q + 1), by omega, q + 1, rfl, hql, by rw [hnx], by omega⟩
      · rw [if_neg (fun h => h1 h.1)] at hnx
        simp -implicitDefEqProofs [e0, e1, e2, e7, e8, hp.cell, hv, hc, a0, hql', hql, h1, w1]
        exact ⟨sl.length - (q + 1), by omega, q + 1, rfl, hql, by rw [hnx], by omega⟩
    · have : q = sl.length := by omega
      rw [this, List.take_length] at e7
      rw [this] at e8
      simp -implicitDefEqProofs [e0, e7, e8, hp.cell, hl]
      exact hsa i sp
  · exact ⟨0, rfl, Nat.zero_le _, rfl, by simp, by simp, by simp, by simp [sawL], by simp⟩
end Go.Proofs.Ytplcocifndpplaa
