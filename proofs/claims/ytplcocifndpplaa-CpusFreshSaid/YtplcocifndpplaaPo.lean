/-
  Two buffers side by side, and a call of both.
-/
import Derived.Test.YtplcocifndpplaaPm
namespace Go.Proofs.Ytplcocifndpplaa
open Go Go.Ideal

/-- A call. -/
structure ActR where
  k : Int
  s : Int
  p : Int
  n : Int
  c : Line

def ActR.cells (a : ActR) : Array Value := #[.int .i64 a.k, .int .i64 a.s, .int .i64 a.p, .int .i64 a.n, .int .i64 a.c.s, .int .i64 a.c.p, .int .i64 a.c.o, .int .i64 a.c.f, .bool a.c.w]
@[simp] theorem act_size (a : ActR) : a.cells.size = 9 := rfl
@[simp] theorem act_g0 (a : ActR) (h) : a.cells[0]'h = i64 a.k := rfl
@[simp] theorem act_g1 (a : ActR) (h) : a.cells[1]'h = i64 a.s := rfl
@[simp] theorem act_g2 (a : ActR) (h) : a.cells[2]'h = i64 a.p := rfl
@[simp] theorem act_g3 (a : ActR) (h) : a.cells[3]'h = i64 a.n := rfl
@[simp] theorem act_line (a : ActR) : a.cells.extract 4 9 = a.c.cells := by simp [ActR.cells, Line.cells]

def ActR.ok (a : ActR) : Prop := In64 a.p ∧ In64 a.n

/-- What a call makes of the lines. -/
def doL (ls : List Line) (size : Int) (a : ActR) : List Line :=
  if a.k = 0 ∨ a.k = 1 ∨ a.k = 2 then (if lineRight a.c then putL ls size a.c else ls)
  else if a.k = 3 then flushL ls a.s a.p a.n
  else if a.k = 4 then flushL ls a.s 0 4096
  else if 0 ≤ a.n ∧ a.n < ls.length then dropL ls a.n.toNat else ls

/-! ### Two buffers -/
structure Two (w : World) (b x : Nat) (size : Int) (ls ms : List Line) : Prop where
  hb : Buf w 89 b size ls
  hx : Buf w 38 x size ms
  apart : ∀ j, foot w b j → ¬ foot w x j

def Grow2 (w w' : World) (b x : Nat) : Prop := Keeps w w' (fun j => foot w b j ∨ foot w x j) ∧ ∀ j, foot w' b j ∨ foot w' x j → (foot w b j ∨ foot w x j) ∨ w.heap.size ≤ j

theorem Grow2.trans {a b c : World} {x y : Nat} (h : Grow2 a b x y) (k : Grow2 b c x y) : Grow2 a c x y := by
  refine ⟨h.1.trans k.1 (fun _ _ h => h) (fun j hj hf => ?_), fun j hf => ?_⟩
  · rcases h.2 j hf with g | g
    · exact g
    · omega
  · rcases k.2 j hf with g | g
    · exact h.2 j g
    · exact .inr (Nat.le_trans h.1.1 g)

theorem Two.left {w w' : World} {b x : Nat} {size : Int} {ls ls' ms : List Line} (h : Two w b x size ls ms) (hl : Lay w w' 89 b size ls') : Two w' b x size ls' ms ∧ Grow2 w w' b x := by
  obtain ⟨hb', hm⟩ := hl
  obtain ⟨hx', hf⟩ := h.hx.keep hm.1 (fun j hj hb => h.apart j hb hj)
  refine ⟨⟨hb', hx', fun j hj hx => ?_⟩, hm.1.mono (fun _ _ h => .inl h), fun j hj => ?_⟩
  · have hxj := (hf j).1 hx
    rcases hm.2 j hj with g | g
    · exact h.apart j g hxj
    · have := h.hx.foot_lt hxj; omega
  · rcases hj with g | g
    · rcases hm.2 j g with g | g
      · exact .inl (.inl g)
      · exact .inr g
    · exact .inl (.inr ((hf j).1 g))

theorem Two.right {w w' : World} {b x : Nat} {size : Int} {ls ms ms' : List Line} (h : Two w b x size ls ms) (hl : Lay w w' 38 x size ms') : Two w' b x size ls ms' ∧ Grow2 w w' b x := by
  obtain ⟨hx', hm⟩ := hl
  obtain ⟨hb', hf⟩ := h.hb.keep hm.1 (fun j hj hb => h.apart j hj hb)
  refine ⟨⟨hb', hx', fun j hj hx => ?_⟩, hm.1.mono (fun _ _ h => .inr h), fun j hj => ?_⟩
  · have hbj := (hf j).1 hj
    rcases hm.2 j hx with g | g
    · exact h.apart j hbj g
    · have := h.hb.foot_lt hbj; omega
  · rcases hj with g | g
    · exact .inl (.inl ((hf j).1 g))
    · rcases hm.2 j g with g | g
      · exact .inl (.inr g)
      · exact .inr g

theorem Two.keep {w w' : World} {F : Nat → Prop} {b x : Nat} {size : Int} {ls ms : List Line} (h : Two w b x size ls ms) (hk : Keeps w w' F) (hn : ∀ j, F j → ¬ foot w b j ∧ ¬ foot w x j) : Two w' b x size ls ms ∧ (∀ j, foot w' b j ↔ foot w b j) ∧ (∀ j, foot w' x j ↔ foot w x j) := by
  obtain ⟨hb', hf⟩ := h.hb.keep hk (fun j hj hF => (hn j hF).1 hj)
  obtain ⟨hx', hg⟩ := h.hx.keep hk (fun j hj hF => (hn j hF).2 hj)
  exact ⟨⟨hb', hx', fun j hj hx => h.apart j ((hf j).1 hj) ((hg j).1 hx)⟩, hf, hg⟩

theorem Two.new {w w' : World} {b x : Nat} {size : Int} {ls ms : List Line} (h : Two w b x size ls ms) (hk : Keeps w w' (fun _ => False)) : Two w' b x size ls ms ∧ Grow2 w w' b x := by
  obtain ⟨h2, hf, hg⟩ := h.keep hk (fun _ h => h.elim)
  exact ⟨h2, hk.mono (fun _ _ h => h.elim), fun j hj => .inl (hj.imp (hf j).1 (hg j).1)⟩

theorem Two.blt {w : World} {b x : Nat} {size : Int} {ls ms : List Line} (h : Two w b x size ls ms) {j : Nat} (hj : foot w b j ∨ foot w x j) : j < w.heap.size := hj.elim h.hb.foot_lt h.hx.foot_lt

/-! ### What is called -/
structure Api (K : Kont) : Prop where
  has : Has K
  flush : HasFlush K
  flush9 : HasFlush9 K
  put : ∀ {w : World} {b : Nat} {size : Int} {ls : List Line}, Buf w 89 b size ls → (∀ c ∈ ls, lineRight c = true) → ls.length ≤ 900 → 1 ≤ size → (ls.length : Int) ≤ size → ∀ c : Line,
    (K.enter 24 #[ptr b, .agg c.cells] w).all fun r => (lineRight c = false ∧ r.1 = i64 2 ∧ Lay w r.2 89 b size ls) ∨ (lineRight c = true ∧ r.1 = i64 0 ∧ Lay w r.2 89 b size (putL ls size c))
  put9 : ∀ {w : World} {b : Nat} {size : Int} {ls : List Line}, Buf w 38 b size ls → (∀ c ∈ ls, lineRight c = true) → ls.length ≤ 900 → 1 ≤ size → ∀ c : Line,
    (K.enter 62 #[ptr b, .agg c.cells] w).all fun r => (lineRight c = false ∧ r.1 = i64 2 ∧ Lay w r.2 38 b size ls) ∨ (lineRight c = true ∧ r.1 = i64 0 ∧ Lay w r.2 38 b size (putL ls size c))
  flushS : ∀ {w : World} {b : Nat} {size : Int} {ls : List Line}, Buf w 89 b size ls → (∀ c ∈ ls, lineRight c = true) → ls.length ≤ 1000 → ∀ s,
    (K.enter 26 #[ptr b, i64 s] w).all fun r => r.1 = i64 ((ls.length : Int) - ((flushL ls s 0 4096).length : Int)) ∧ Lay w r.2 89 b size (flushL ls s 0 4096)
  drop : ∀ {w : World} {b : Nat} {size : Int} {ls : List Line}, Buf w 89 b size ls → ls.length ≤ 1000 → ∀ i, In64 i →
    (K.enter 25 #[ptr b, i64 i] w).all fun r => ((i < 0 ∨ (ls.length : Int) ≤ i) ∧ r.1 = i64 3 ∧ Lay w r.2 89 b size ls) ∨ ((0 ≤ i ∧ i < ls.length) ∧ r.1 = i64 0 ∧ Lay w r.2 89 b size (dropL ls i.toNat))
  drop9 : ∀ {w : World} {b : Nat} {size : Int} {ls : List Line}, Buf w 38 b size ls → ls.length ≤ 1000 → ∀ i, In64 i →
    (K.enter 63 #[ptr b, i64 i] w).all fun r => ((i < 0 ∨ (ls.length : Int) ≤ i) ∧ r.1 = i64 3 ∧ Lay w r.2 38 b size ls) ∨ ((0 ≤ i ∧ i < ls.length) ∧ r.1 = i64 0 ∧ Lay w r.2 38 b size (dropL ls i.toNat))
  look : ∀ {w : World} {b : Nat} {size : Int} {ls : List Line}, Buf w 89 b size ls → (∀ c ∈ ls, lineRight c = true) → ls.length ≤ 1000 → ∀ s p,
    (K.enter 16 #[ptr b, i64 s, i64 p] w).all fun r => r.1 = lookV (lookL ls s p) ∧ Keeps w r.2 (fun _ => False)
  look9 : ∀ {w : World} {b : Nat} {size : Int} {ls : List Line}, Buf w 38 b size ls → (∀ c ∈ ls, lineRight c = true) → ls.length ≤ 1000 → ∀ s p,
    (K.enter 17 #[ptr b, i64 s, i64 p] w).all fun r => r.1 = lookV (lookL ls s p) ∧ Keeps w r.2 (fun _ => False)
  new : ∀ {w : World} (size : Int), (K.enter 43 #[i64 size] w).all fun r => ((size < 1 ∨ 64 < size) ∧ r.1 = .tuple #[.pointer none, i64 2] ∧ r.2 = w) ∨
      ((1 ≤ size ∧ size ≤ 64) ∧ r.1 = .tuple #[ptr w.heap.size, i64 0] ∧ Buf r.2 89 w.heap.size size [] ∧ Keeps w r.2 (fun _ => False) ∧ ∀ j, foot r.2 w.heap.size j → j = w.heap.size)
  lines : ∀ {w : World} {b : Nat} {size : Int} {ls : List Line}, Buf w 89 b size ls → ls.length ≤ 1000 →
    (K.enter 19 #[ptr b] w).all fun r => Lns r.2 r.1 ls ∧ Keeps w r.2 (fun _ => False) ∧ ∀ j, blockOf r.1 = some j → w.heap.size ≤ j
  same : ∀ {w : World} {x y : Value} {ls ms : List Line}, Lns w x ls → Lns w y ms → ls.length ≤ 1000 →
    (K.enter 18 #[x, y] w).all fun r => r.1 = .bool (decide (ls = ms)) ∧ r.2 = w

theorem api (m : Nat) (hm : 2000 ≤ m) : Api (runA Try.prog sp5 (m + 5)) where
  has := has _
  flush := hasFlush (m + 1) (by omega)
  flush9 := hasFlush9 _ (by omega)
  put := fun hb hr hl h1 h2 c => enter_ok (m := m + 4) low24 rfl (run24 (has _) (hasDrop (m + 1) (by omega)) hb hr hl h1 h2 c)
  put9 := fun hb hr hl h1 c => enter_ok (m := m + 4) low62 rfl (run62 (has _) (hasFlush9 _ (by omega)) hb hr hl h1 c)
  flushS := fun hb hr hl s => enter_ok (m := m + 4) low26 rfl (run26 (hasFlush m hm) hb hr hl s)
  drop := fun hb hl i hi => enter_ok (m := m + 4) low25 rfl (run25 hb hl i hi)
  drop9 := fun hb hl i hi => enter_ok (m := m + 4) low63 rfl (run63 hb hl i hi)
  look := fun hb hr hl s p => enter_ok (m := m + 4) low16 rfl (run16 (hasHold (m + 2) (by omega)) hb hr hl s p)
  look9 := fun hb hr hl s p => enter_ok (m := m + 4) low17 rfl (run17 (has _) (by omega) hb hr hl s p)
  new := fun size => enter_ok (m := m + 4) low43 rfl (run43 size)
  lines := fun hb hl => enter_ok (m := m + 4) low19 rfl (run19 hb hl)
  same := fun hx hy hl => enter_ok (m := m + 4) low18 rfl (run18 (by omega) hx hy hl)
end Go.Proofs.Ytplcocifndpplaa
/-! A call of both buffers. -/
namespace Go.Proofs.Ytplcocifndpplaa
open Go Go.Ideal

theorem run44 {K : Kont} {fuel : Nat} (hA : Api K) {w : World} {b x : Nat} {size : Int} {ls : List Line} (h2 : Two w b x size ls ls) (hr : ∀ c ∈ ls, lineRight c = true) (hl : ls.length ≤ 900) (h1 : 1 ≤ size) (hsz : (ls.length : Int) ≤ size) (a : ActR) (ha : a.ok) :
    wpGFn Try.prog K fuel 44 g44 #[ptr b, ptr x, .agg a.cells] w fun v w' => v = .bool true ∧ Two w' b x size (doL ls size a) (doL ls size a) ∧ Grow2 w w' b x := by
  rw [gfn_start]
  have kB : Keeps w (World.push w (.cells a.cells 44)) (fun _ => False) := Keeps.push _ _ _
  obtain ⟨hB, gB⟩ := h2.new kB
  have hbox : cellsOf? (World.push w (.cells a.cells 44)) w.heap.size = some (a.cells, 44, (0, 0)) := by simp
  have nbox : ∀ j, foot (World.push w (.cells a.cells 44)) b j ∨ foot (World.push w (.cells a.cells 44)) x j → j ≠ w.heap.size := by
    obtain ⟨_, hf, hg⟩ := h2.keep kB (fun _ h => h.elim)
    intro j hj e
    subst e
    have := h2.blt (hj.imp (hf _).1 (hg _).1)
    omega
  have key : ∀ {w1 w2 : World} {L : List Line} {M : List Line}, Lay (World.push w (.cells a.cells 44)) w1 89 b size L → (Two w1 b x size L ls → cellsOf? w1 w.heap.size = some (a.cells, 44, (0, 0)) ∧ (Lay w1 w2 38 x size M → Two w2 b x size L M ∧ Grow2 w w2 b x)) := by
    intro w1 w2 L M hlay h
    obtain ⟨_, g1⟩ := hB.left hlay
    refine ⟨g1.1.cells hbox (fun hj => nbox _ hj rfl), fun hl2 => ?_⟩
    obtain ⟨h3, g2⟩ := h.right hl2
    exact ⟨h3, (gB.trans g1).trans g2⟩
  unfold g44
  by_cases hk : a.k = 0 ∨ a.k = 1 ∨ a.k = 2
  · have e9 : doL ls size a = if lineRight a.c then putL ls size a.c else ls := by simp only [doL, if_pos hk]
    have fin : ∀ {w1 : World} {v1 : Value}, ((lineRight a.c = false ∧ v1 = i64 2 ∧ Lay (World.push w (.cells a.cells 44)) w1 89 b size ls) ∨ (lineRight a.c = true ∧ v1 = i64 0 ∧ Lay (World.push w (.cells a.cells 44)) w1 89 b size (putL ls size a.c))) →
        cellsOf? w1 w.heap.size = some (a.cells, 44, (0, 0)) ∧ (K.enter 62 #[ptr x, .agg a.c.cells] w1).all fun r => ∃ n, v1 = i64 n ∧ r.1 = i64 n ∧ Two r.2 b x size (doL ls size a) (doL ls size a) ∧ Grow2 w r.2 b x := by
      intro w1 v1 hq
      rcases hq with ⟨hc, rfl, hlay⟩ | ⟨hc, rfl, hlay⟩
      · have h3 := (hB.left hlay).1
        refine ⟨(key (w2 := w1) (M := ls) hlay h3).1, T.all_mono (fun r hr2 => ?_) (hA.put9 h3.hx hr hl h1 a.c)⟩
        rcases hr2 with ⟨_, hv, hlay2⟩ | ⟨hc2, _⟩
        · refine ⟨2, rfl, hv, ?_⟩
          rw [e9, hc]
          exact (key hlay h3).2 hlay2
        · rw [hc] at hc2; cases hc2
      · have h3 := (hB.left hlay).1
        refine ⟨(key (w2 := w1) (M := ls) hlay h3).1, T.all_mono (fun r hr2 => ?_) (hA.put9 h3.hx hr hl h1 a.c)⟩
        rcases hr2 with ⟨hc2, _⟩ | ⟨_, hv, hlay2⟩
        · rw [hc] at hc2; cases hc2
        · refine ⟨0, rfl, hv, ?_⟩
          rw [e9, if_pos hc]
          exact (key hlay h3).2 hlay2
    have hgo := hA.put hB.hb hr hl h1 hsz a.c
    rcases hk with hk | hk | hk
    all_goals
      simp -implicitDefEqProofs [hk]
      refine valA_of hgo (fun v1 w1 hq => ?_)
      obtain ⟨hb1, h62⟩ := fin hq
      simp -implicitDefEqProofs [hb1]
      refine valA_of h62 (fun v2 w2 hq2 => ?_)
      obtain ⟨n, rfl, hv2, hT⟩ := hq2
      simp only at hv2 hT
      subst hv2
      simp -implicitDefEqProofs
      exact hT
  · obtain ⟨hk0, hk1, hk2⟩ : ¬ a.k = 0 ∧ ¬ a.k = 1 ∧ ¬ a.k = 2 := ⟨fun h => hk (.inl h), fun h => hk (.inr (.inl h)), fun h => hk (.inr (.inr h))⟩
    by_cases hk3 : a.k = 3
    · have e9 : doL ls size a = flushL ls a.s a.p a.n := by simp only [doL, if_neg hk, if_pos hk3]
      simp -implicitDefEqProofs [hk3]
      refine valA_of (hA.flush.go hB.hb hr (by omega) a.s a.p a.n ha.1 ha.2) (fun v1 w1 hq => ?_)
      obtain ⟨hv1, hlay⟩ := hq
      simp only at hv1 hlay
      have h3 := (hB.left hlay).1
      obtain ⟨hb1, _⟩ := key (w2 := w1) (M := ls) hlay h3
      subst hv1
      simp -implicitDefEqProofs [hb1]
      refine valA_of (hA.flush9.go h3.hx hr (by omega) a.s a.p a.n ha.1 ha.2) (fun v2 w2 hq2 => ?_)
      obtain ⟨hv2, hlay2⟩ := hq2
      simp only at hv2 hlay2
      subst hv2
      simp -implicitDefEqProofs
      rw [e9]
      exact (key hlay h3).2 hlay2
    · by_cases hk4 : a.k = 4
      · have e9 : doL ls size a = flushL ls a.s 0 4096 := by simp only [doL, if_neg hk, if_neg hk3, if_pos hk4]
        simp -implicitDefEqProofs [hk4]
        refine valA_of (hA.flushS hB.hb hr (by omega) a.s) (fun v1 w1 hq => ?_)
        obtain ⟨hv1, hlay⟩ := hq
        simp only at hv1 hlay
        have h3 := (hB.left hlay).1
        obtain ⟨hb1, _⟩ := key (w2 := w1) (M := ls) hlay h3
        subst hv1
        simp -implicitDefEqProofs [hb1]
        refine valA_of (hA.flush9.go h3.hx hr (by omega) a.s 0 4096 ⟨by omega, by omega⟩ ⟨by omega, by omega⟩) (fun v2 w2 hq2 => ?_)
        obtain ⟨hv2, hlay2⟩ := hq2
        simp only at hv2 hlay2
        subst hv2
        simp -implicitDefEqProofs
        rw [e9]
        exact (key hlay h3).2 hlay2
      · simp -implicitDefEqProofs [hk0, hk1, hk2, hk3, hk4]
        refine valA_of (hA.drop hB.hb (by omega) a.n ha.2) (fun v1 w1 hq => ?_)
        simp only at hq
        by_cases hin : 0 ≤ a.n ∧ a.n < ls.length
        · have e9 : doL ls size a = dropL ls a.n.toNat := by simp only [doL, if_neg hk, if_neg hk3, if_neg hk4, if_pos hin]
          rcases hq with ⟨hbad, _⟩ | ⟨_, hv1, hlay⟩
          · omega
          have h3 := (hB.left hlay).1
          obtain ⟨hb1, _⟩ := key (w2 := w1) (M := ls) hlay h3
          subst hv1
          simp -implicitDefEqProofs [hb1]
          refine valA_of (hA.drop9 h3.hx (by omega) a.n ha.2) (fun v2 w2 hq2 => ?_)
          simp only at hq2
          rcases hq2 with ⟨hbad, _⟩ | ⟨_, hv2, hlay2⟩
          · omega
          subst hv2
          simp -implicitDefEqProofs
          rw [e9]
          exact (key hlay h3).2 hlay2
        · have e9 : doL ls size a = ls := by simp only [doL, if_neg hk, if_neg hk3, if_neg hk4, if_neg hin]
          rcases hq with ⟨_, hv1, hlay⟩ | ⟨hbad, _⟩
          · have h3 := (hB.left hlay).1
            obtain ⟨hb1, _⟩ := key (w2 := w1) (M := ls) hlay h3
            subst hv1
            simp -implicitDefEqProofs [hb1]
            refine valA_of (hA.drop9 h3.hx (by omega) a.n ha.2) (fun v2 w2 hq2 => ?_)
            simp only at hq2
            rcases hq2 with ⟨_, hv2, hlay2⟩ | ⟨hbad, _⟩
            · subst hv2
              simp -implicitDefEqProofs
              rw [e9]
              exact (key hlay h3).2 hlay2
            · omega
          · omega
end Go.Proofs.Ytplcocifndpplaa
/-! The lines behind calls: all are right, no two meet, never too many. Both buffers behind calls. -/
namespace Go.Proofs.Ytplcocifndpplaa
open Go Go.Ideal

/-- Two lines that hold no page together. -/
def apartL (c d : Line) : Prop := c.s ≠ d.s ∨ c.p + sizeOf c.o ≤ d.p ∨ d.p + sizeOf d.o ≤ c.p
structure GoodL (size : Int) (ls : List Line) : Prop where
  right : ∀ c ∈ ls, lineRight c = true
  len : (ls.length : Int) ≤ size
  apart : ls.Pairwise apartL

theorem GoodL.sub {size : Int} {ls ms : List Line} (h : GoodL size ls) (hs : ms.Sublist ls) : GoodL size ms :=
  ⟨fun c hc => h.right c (hs.subset hc), by have := hs.length_le; have := h.len; omega, h.apart.sublist hs⟩

theorem flush_sub (ls : List Line) (s p n : Int) : (flushL ls s p n).Sublist ls := by
  unfold flushL
  split
  · exact List.Sublist.refl _
  · exact List.filter_sublist
theorem drop_sub (ls : List Line) (i : Nat) : (dropL ls i).Sublist ls := by
  unfold dropL
  have h : (ls.drop (i + 1)).Sublist (ls.drop i) := by
    rw [← List.drop_drop]
    exact List.drop_sublist _ _
  have := (List.Sublist.refl (ls.take i)).append h
  rwa [List.take_append_drop] at this

theorem not_meets_apart {c d : Line} (hc : 0 ≤ c.p) (h : meets d c.s c.p (sizeOf c.o) = false) : apartL d c := by
  have hs := size_cases c.o
  have hs' := size_cases d.o
  have hn : ¬ c.p < 0 := by omega
  simp [meets, hn] at h
  unfold apartL
  omega

theorem GoodL.put {size : Int} {ls : List Line} (h : GoodL size ls) (h1 : 1 ≤ size) {c : Line} (hc : lineRight c = true) : GoodL size (putL ls size c) := by
  obtain ⟨_, _, hc1, _⟩ := lineRight_spec hc
  have hs := size_cases c.o
  have hf := h.sub (flush_sub ls c.s c.p (sizeOf c.o))
  have hap : ∀ d ∈ flushL ls c.s c.p (sizeOf c.o), apartL d c := by
    intro d hd
    simp only [flushL, if_neg (show ¬ sizeOf c.o < 1 by omega), List.mem_filter] at hd
    exact not_meets_apart hc1 (by simpa using hd.2)
  have hg : ∃ l, putL ls size c = l ++ [c] ∧ l.Sublist (flushL ls c.s c.p (sizeOf c.o)) ∧ (l.length : Int) + 1 ≤ size := by
    have := hf.len
    by_cases hfull : size ≤ ((flushL ls c.s c.p (sizeOf c.o)).length : Int)
    · exact ⟨(flushL ls c.s c.p (sizeOf c.o)).drop 1, by simp only [putL, if_pos hfull], List.drop_sublist _ _, by rw [List.length_drop]; omega⟩
    · exact ⟨_, by simp only [putL, if_neg hfull], List.Sublist.refl _, by omega⟩
  obtain ⟨l, he, hsub, hlen⟩ := hg
  rw [he]
  refine ⟨fun d hd => ?_, by simp; omega, ?_⟩
  · rw [List.mem_append, List.mem_singleton] at hd
    rcases hd with hd | rfl
    · exact hf.right d (hsub.subset hd)
    · exact hc
  · rw [List.pairwise_append]
    refine ⟨hf.apart.sublist hsub, by simp, fun a ha b hb => ?_⟩
    rw [List.mem_singleton] at hb
    subst hb
    exact hap a (hsub.subset ha)

theorem GoodL.does {size : Int} {ls : List Line} (h : GoodL size ls) (h1 : 1 ≤ size) (a : ActR) : GoodL size (doL ls size a) := by
  unfold doL
  split
  · split
    · rename_i hc; exact h.put h1 hc
    · exact h
  · split
    · exact h.sub (flush_sub _ _ _ _)
    · split
      · exact h.sub (flush_sub _ _ _ _)
      · split
        · exact h.sub (drop_sub _ _)
        · exact h

def runL (size : Int) (xs : List ActR) : List Line := xs.foldl (fun ls a => doL ls size a) []
theorem runL_good {size : Int} (h1 : 1 ≤ size) (xs : List ActR) : GoodL size (runL size xs) := by
  have : ∀ (xs : List ActR) (ls : List Line), GoodL size ls → GoodL size (xs.foldl (fun ls a => doL ls size a) ls) := by
    intro xs
    induction xs with
    | nil => intro ls h; exact h
    | cons a xs ih => intro ls h; exact ih _ (h.does h1 a)
  exact this xs [] ⟨(fun c hc => by cases hc), (by simp; omega), .nil⟩

/-- Calls in memory. -/
def ActsAt (w : World) (v : Value) (xs : List ActR) : Prop := (∀ a ∈ xs, a.ok) ∧ ∃ vb vc, v = .slice vb xs.length vc ∧
  ∀ (i : Nat) (h : i < xs.length), ∃ b o c e fz, vb = some ⟨b, o, none⟩ ∧ cellsOf? w b = some (c, e, fz) ∧ o + i * 9 + 9 ≤ c.size ∧ c.extract (o + i * 9) (o + i * 9 + 9) = xs[i].cells

theorem ActsAt.keep {w w' : World} {v : Value} {xs : List ActR} (h : ActsAt w v xs) (hk : Keeps w w' (fun _ => False)) : ActsAt w' v xs := by
  obtain ⟨ho, vb, vc, hv, h⟩ := h
  refine ⟨ho, vb, vc, hv, fun i hi => ?_⟩
  obtain ⟨b, o, c, e, fz, h1, h2, h3⟩ := h i hi
  exact ⟨b, o, c, e, fz, h1, hk.cells h2 (fun h => h), h3⟩
theorem ActsAt.len {w w' : World} {v : Value} {xs : List ActR} (h : ActsAt w v xs) : lenS v w' = .ret (.int .i64 (xs.length : Int), w') := by
  obtain ⟨_, vb, vc, rfl, _⟩ := h; rfl

def Made (w w' : World) (v : Value) (size : Int) (xs : List ActR) : Prop :=
  ((size < 1 ∨ 64 < size) ∧ v = .tuple #[.pointer none, .pointer none, .bool true] ∧ Keeps w w' (fun _ => False)) ∨
  ((1 ≤ size ∧ size ≤ 64) ∧ ∃ b x, v = .tuple #[ptr b, ptr x, .bool true] ∧ Two w' b x size (runL size (xs.take 60)) (runL size (xs.take 60)) ∧ Keeps w w' (fun _ => False) ∧ ∀ j, foot w' b j ∨ foot w' x j → w.heap.size ≤ j)

theorem run14 {K : Kont} {fuel : Nat} (hA : Api K) (hK : ∀ {w : World} {b x : Nat} {size : Int} {ls : List Line}, Two w b x size ls ls → (∀ c ∈ ls, lineRight c = true) → ls.length ≤ 900 → 1 ≤ size → (ls.length : Int) ≤ size → ∀ a : ActR, a.ok →
      (K.enter 44 #[ptr b, ptr x, .agg a.cells] w).all fun r => r.1 = .bool true ∧ Two r.2 b x size (doL ls size a) (doL ls size a) ∧ Grow2 w r.2 b x)
    (hf : 2000 ≤ fuel) {w : World} {size : Int} {v : Value} {xs : List ActR} (hv : ActsAt w v xs) :
    wpGFn Try.prog K fuel 14 g14 #[i64 size, v] w fun r w' => Made w w' r size xs := by
  rw [gfn_start]
  simp -implicitDefEqProofs [g14]
  refine valA_of (hA.new size) (fun v1 w1 hq => ?_)
  simp only at hq
  rcases hq with ⟨hbad, rfl, rfl⟩ | ⟨hok, rfl, hb, hk, hfoot⟩
  · by_cases h1 : size < 1
    · simp -implicitDefEqProofs [h1, bool_ne, nil25]
      exact .inl ⟨.inl h1, rfl, Keeps.refl _ _⟩
    · have h2 : 64 < size := by omega
      simp -implicitDefEqProofs [h1, h2, bool_ne, nil25]
      exact .inl ⟨.inr h2, rfl, Keeps.refl _ _⟩
  · have h1 : ¬ size < 1 := by omega
    have h2 : ¬ 64 < size := by omega
    simp -implicitDefEqProofs [h1, h2, bool_ne, nil25, fillS, Instr.fill]
    have kp : Keeps w1 (World.push w1 (.cells #[i64 size, .slice none 0 0] 38)) (fun _ => False) := Keeps.push _ _ _
    have hble : w.heap.size < w1.heap.size := by obtain ⟨_, h, _⟩ := hb; exact cells_lt h
    obtain ⟨hb2, hf2⟩ := hb.keep kp (fun _ _ h => h)
    have hx2 : Buf (World.push w1 (.cells #[i64 size, .slice none 0 0] 38)) 38 w1.heap.size size [] := ⟨.slice none 0 0, by simp, .inl ⟨rfl, rfl⟩, fun j h => by cases h⟩
    have hfx : ∀ j, foot (World.push w1 (.cells #[i64 size, .slice none 0 0] 38)) w1.heap.size j → j = w1.heap.size := by
      intro j hj
      rcases hj with rfl | ⟨s, u, e, fz, hc, hu⟩
      · rfl
      · simp at hc
        obtain ⟨⟨_, rfl⟩, _⟩ := hc
        cases hu
    have hT : Two (World.push w1 (.cells #[i64 size, .slice none 0 0] 38)) w.heap.size w1.heap.size size [] [] := ⟨hb2, hx2, fun j h1 h2 => by have := hfoot j ((hf2 j).1 h1); have := hfx j h2; omega⟩
    have kw : Keeps w (World.push w1 (.cells #[i64 size, .slice none 0 0] 38)) (fun _ => False) := hk.trans kp (fun _ _ h => h) (fun _ _ h => h)
    have hnew : ∀ j, foot (World.push w1 (.cells #[i64 size, .slice none 0 0] 38)) w.heap.size j ∨ foot (World.push w1 (.cells #[i64 size, .slice none 0 0] 38)) w1.heap.size j → w.heap.size ≤ j := by
      rintro j (h | h)
      · have := hfoot j ((hf2 j).1 h); omega
      · have := hfx j h; omega
    generalize hx : w1.heap.size = x at *
    generalize World.push w1 (.cells #[i64 size, .slice none 0 0] 38) = w2 at *
    refine loop_go (fun i ρ w' => ∃ (q : Nat), i = 60 - q ∧ q ≤ xs.length ∧ q ≤ 60 ∧ ρ 1 = v ∧ ρ 7 = ptr w.heap.size ∧ ρ 10 = ptr x ∧ ρ 11 = i64 q ∧ Two w' w.heap.size x size (runL size (xs.take q)) (runL size (xs.take q)) ∧ Keeps w w' (fun _ => False) ∧
      ∀ j, foot w' w.heap.size j ∨ foot w' x j → w.heap.size ≤ j) ?_ (i := 60) ?_ (by simp; omega)
    · rintro i ρ w' ⟨q, rfl, hq, hq6, e1, e7, e10, e11, hT', hk', hn'⟩
      have w1 : IntKind.i64.wrap ((q : Int) + 1) = (q : Int) + 1 := by rw [IntKind.wrap_i64]; omega
      have done : ∀ w', q = (xs.take 60).length → Two w' w.heap.size x size (runL size (xs.take q)) (runL size (xs.take q)) → Keeps w w' (fun _ => False) → (∀ j, foot w' w.heap.size j ∨ foot w' x j → w.heap.size ≤ j) →
          Made w w' (.tuple #[ptr w.heap.size, ptr x, .bool true]) size xs := by
        intro w' hq3 h1 h2 h3
        have : xs.take q = xs.take 60 := by rw [hq3, List.length_take, ← List.take_take]; simp
        rw [this] at h1
        exact .inr ⟨hok, _, _, rfl, h1, h2, h3⟩
      by_cases hql : q < xs.length
      · by_cases hq60 : q < 60
        · obtain ⟨ho, vb, vc, hve, hat⟩ := hv.keep hk'
          obtain ⟨ab, ao, ac, ae, afz, hvb, hac, hasz, hext⟩ := hat q hql
          subst hvb
          have hg := runL_good hok.1 (xs.take q)
          have hgo := hK hT' hg.right (by have := hg.len; omega) hok.1 hg.len xs[q] (ho _ (List.getElem_mem hql))
          have hq60' : (q : Int) < 60 := by omega
          simp -implicitDefEqProofs [e1, e7, e10, e11, hve, hql, hq60', hac, hasz, hext]
          refine valA_of hgo (fun v3 w3 hq3 => ?_)
          obtain ⟨hv3, hT3, hg3⟩ := hq3
          simp only at hv3 hT3 hg3
          subst hv3
          simp -implicitDefEqProofs [e1, e7, e10, e11, hve, w1]
          have htake : runL size (xs.take (q + 1)) = doL (runL size (xs.take q)) size xs[q] := by rw [List.take_succ_eq_append_getElem hql, runL, List.foldl_append]; rfl
          refine ⟨60 - (q + 1), by omega, q + 1, rfl, hql, by omega, by omega, by rw [htake]; exact hT3, hk'.trans hg3.1 (fun _ _ h => h) (fun j hj h => by have := hn' j h; omega), fun j hj => ?_⟩
          rcases hg3.2 j hj with g | g
          · exact hn' j g
          · have := hk'.1; omega
        · have hq60' : ¬ (q : Int) < 60 := by omega
          simp -implicitDefEqProofs [e1, e7, e10, e11, hv.len, hql, hq60']
          exact done _ (by rw [List.length_take]; omega) hT' hk' hn'
      · simp -implicitDefEqProofs [e1, e7, e10, e11, hv.len, hql]
        exact done _ (by rw [List.length_take]; omega) hT' hk' hn'
    · exact ⟨0, by simp, Nat.zero_le _, Nat.zero_le _, by simp, by simp, by simp, by simp, by simpa [runL] using hT, kw, hnew⟩
end Go.Proofs.Ytplcocifndpplaa
