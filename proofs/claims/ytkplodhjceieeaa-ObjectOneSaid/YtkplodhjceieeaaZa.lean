/-
  Objects: the document's, how they lie; what looks at them.
-/
import Derived.Test.YtkplodhjceieeaaXi
namespace Go.Proofs.Ytkplodhjceieeaa
open Go Go.Ideal

def EOn : En On := ⟨3, 96, fun o => [n64 o.id, n64 o.page, n64 o.frame], fun _ => rfl, fun _ v hv => by simp at hv; rcases hv with rfl | rfl | rfl <;> rfl, by decide⟩

structure RefO (w : World) (x : Nat) (vh vl : Value) (s : OS) : Prop where
  cell : cellsOf? w x = some (#[vh, vl], 40, (0, 0))
  held : RowE (EInt 3) w vh s.held
  l : RowE EOn w vl s.l
/-- The document's blocks. -/
def MvO (x : Nat) (vh vl : Value) : Nat → Prop := fun j => j = x ∨ blkOf vh = some j ∨ blkOf vl = some j
theorem RefO.keep {w w' : World} {F : Nat → Prop} {x : Nat} {vh vl : Value} {s : OS} (h : RefO w x vh vl s) (hk : Keeps w w' F) (hn : ∀ j, MvO x vh vl j → ¬ F j) : RefO w' x vh vl s :=
  ⟨hk.cells h.cell (hn x (.inl rfl)), h.held.keep hk (fun b hb => hn b (.inr (.inl hb))), h.l.keep hk (fun b hb => hn b (.inr (.inr hb)))⟩

theorem l_len {s : OS} {B : Nat} (h : s.ok B) : s.l.length ≤ 1024 := by
  have h1 := len_sub h.fr (m := (List.range 1024).map fun i : Nat => (i : Int)) (fun x hx => by
    obtain ⟨o, ho, rfl⟩ := List.mem_map.1 hx
    have := (h.on o ho).2.2
    exact List.mem_map.2 ⟨o.frame.toNat, List.mem_range.2 (by omega), by omega⟩)
  simpa using h1

/-- What the pages' row is, at any rate. -/
structure OS.lok (s : OS) : Prop where
  fr : (s.l.map (·.frame)).Nodup
  rg : ∀ o ∈ s.l, 0 ≤ o.frame ∧ o.frame < 1024
theorem OS.ok.lk {s : OS} {B : Nat} (h : s.ok B) : s.lok := ⟨h.fr, fun o ho => (h.on o ho).2.2⟩
theorem own_lof {s : OS} (h : s.lok) {o : On} (ho : o ∈ s.l) : ownA s o.frame = some o := by
  cases hk : ownA s o.frame with
  | none => exact absurd rfl (own_none.1 hk o ho)
  | some o' =>
    obtain ⟨h1, h2⟩ := own_some hk
    obtain ⟨i, hi, rfl⟩ := List.getElem_of_mem ho
    obtain ⟨j, hj, rfl⟩ := List.getElem_of_mem h1
    have : j = i := (List.getElem_inj (h₀ := by rw [List.length_map]; exact hj) (h₁ := by rw [List.length_map]; exact hi) h.fr).1 (by simpa using h2)
    subst this; rfl
theorem l_llen {s : OS} (h : s.lok) : s.l.length ≤ 1024 := by
  have h1 := len_sub h.fr (m := (List.range 1024).map fun i : Nat => (i : Int)) (fun x hx => by
    obtain ⟨o, ho, rfl⟩ := List.mem_map.1 hx
    have := h.rg o ho
    exact List.mem_map.2 ⟨o.frame.toNat, List.mem_range.2 (by omega), by omega⟩)
  simpa using h1

theorem run52 {K : Kont} {fuel : Nat} (hf : 4000 ≤ fuel) {w : World} {x : Nat} {vh vl : Value} {s : OS} (hp : RefO w x vh vl s) (hs : s.lok) (f : Int) :
    wpGFn Try.prog K fuel 52 g52 #[pt x, n64 f] w fun v w' => ((ownA s f = none ∧ v = n64 (-1)) ∨ ∃ (i : Nat) (h : i < s.l.length), ownA s f = some s.l[i] ∧ v = n64 i) ∧ w' = w := by
  rw [gfn_start]
  have hll := l_llen hs
  simp -implicitDefEqProofs [g52]
  refine loop_go (fun i ρ w' => ∃ (q : Nat), i = s.l.length - q ∧ q ≤ s.l.length ∧ w' = w ∧ (∀ j (h : j < s.l.length), j < q → s.l[j].frame ≠ f) ∧ ρ 0 = pt x ∧ ρ 1 = n64 f ∧ ρ 5 = n64 q) ?_ (i := s.l.length) ?_ (by show s.l.length < fuel; omega)
  · rintro i ρ w' ⟨q, rfl, hq, rfl, hno, e0, e1, e5⟩
    have w1 : IntKind.i64.wrap ((q : Int) + 1) = (q : Int) + 1 := by rw [IntKind.wrap_i64]; omega
    by_cases hql : q < s.l.length
    · have hql' : (q : Int) < s.l.length := by omega
      obtain ⟨bb, oo, cap, c, t, z, hv, hc, hsz, _, ha⟩ := hp.l.src.at hql
      have a2 := ha 2 (by decide)
      simp [EOn] at a2
      by_cases he : s.l[q].frame = f
      · have : ownA s f = some s.l[q] := by
          have := own_lof hs (List.getElem_mem hql)
          rw [he] at this; exact this
        simp -implicitDefEqProofs [e0, e1, e5, hp.cell, hp.l.lenS, hql', hv, hc, a2, he, hql]
        exact ⟨q, ⟨hql, this⟩, rfl⟩
      · simp -implicitDefEqProofs [e0, e1, e5, hp.cell, hp.l.lenS, hql', hv, hc, a2, he, hql, w1]
        refine ⟨s.l.length - (q + 1), by omega, q + 1, rfl, hql, fun j h hj => ?_, by omega⟩
        by_cases hjq : j = q
        · subst hjq; exact he
        · exact hno j h (by omega)
    · have : q = s.l.length := by omega
      subst this
      have hnone : ownA s f = none := own_none.2 fun o ho => by
        obtain ⟨j, hj, rfl⟩ := List.getElem_of_mem ho
        exact hno j hj hj
      simp -implicitDefEqProofs [e0, e5, hp.cell, hp.l.lenS, hnone]
  · exact ⟨0, rfl, Nat.zero_le _, rfl, fun j h hj => absurd hj (Nat.not_lt_zero _), by simp, by simp, by simp⟩

theorem run87 {K : Kont} {fuel : Nat} {w : World} {x : Nat} {vh vl : Value} {s : OS} (hp : RefO w x vh vl s) (id : Int) :
    wpGFn Try.prog K fuel 87 g87 #[pt x, n64 id] w fun v w' => v = .bool (decide (0 < heldA s id)) ∧ w' = w := by
  rw [gfn_start]
  by_cases h0 : 0 ≤ id
  · obtain ⟨n, rfl⟩ : ∃ n : Nat, id = n := ⟨id.toNat, by omega⟩
    by_cases h1 : n < s.held.length
    · have h1' : (n : Int) < s.held.length := by omega
      obtain ⟨bb, oo, cap, c, t, z, hv, hc, hsz, _, ha⟩ := hp.held.src.at h1
      have a0 := ha 0 Nat.one_pos
      simp only [EInt, Nat.mul_one, Nat.add_zero, List.getElem?_cons_zero] at a0
      have hh : heldA s n = s.held[n] := by simp [heldA, h1]
      simp -implicitDefEqProofs [g87, hp.cell, hp.held.lenS, h1', hv, hc, a0, hh, h1]
    · have h1' : ¬ (n : Int) < s.held.length := by omega
      have hh : heldA s n = 0 := by simp [heldA, h1]
      simp -implicitDefEqProofs [g87, hp.cell, hp.held.lenS, h1', hh]
  · have hh : heldA s id = 0 := by simp [heldA, h0]
    simp -implicitDefEqProofs [g87, h0, hh]

structure Ref2 (K : Kont) : Prop where
  of : ∀ {w : World} {x : Nat} {vh vl : Value} {s : OS}, RefO w x vh vl s → s.lok → ∀ f, (K.enter 52 #[pt x, n64 f] w).all fun z => ((ownA s f = none ∧ z.1 = n64 (-1)) ∨ ∃ (i : Nat) (h : i < s.l.length), ownA s f = some s.l[i] ∧ z.1 = n64 i) ∧ z.2 = w
  is : ∀ {w : World} {x : Nat} {vh vl : Value} {s : OS}, RefO w x vh vl s → ∀ id, (K.enter 87 #[pt x, n64 id] w).all fun z => z.1 = .bool (decide (0 < heldA s id)) ∧ z.2 = w
theorem ref2 (m : Nat) (hm : 4000 ≤ m) : Ref2 (KO (m + 1)) where
  of := fun hp hs f => enter_okH (m := m) low52 (o0 (by decide) (by decide)) (run52 (by omega) hp hs f)
  is := fun hp id => enter_okH (m := m) low87 (o0 (by decide) (by decide)) (run87 hp id)

theorem run26 {K : Kont} {fuel : Nat} (hK : Ref2 K) {w : World} {x : Nat} {vh vl : Value} {s : OS} {B : Nat} (hp : RefO w x vh vl s) (hs : s.ok B) (f : Int) :
    wpGFn Try.prog K fuel 26 g26 #[pt x, n64 f] w fun v w' => v = ownT (ownA s f) ∧ w' = w := by
  rw [gfn_start]
  have hll := l_len hs
  simp -implicitDefEqProofs [g26]
  refine valA_of (hK.of hp hs.lk f) (fun u w1 hq => ?_)
  obtain ⟨hq, hw⟩ := hq
  simp only at hq hw
  subst hw
  rcases hq with ⟨h1, hu⟩ | ⟨i, hi, h1, hu⟩
  · subst hu
    simp -implicitDefEqProofs [h1, ownT]
  · subst hu
    obtain ⟨bb, oo, cap, c, t, z, hv, hc, hsz, _, ha⟩ := hp.l.src.at hi
    have a0 := ha 0 (by decide)
    have a1 := ha 1 (by decide)
    simp [EOn] at a0 a1
    simp -implicitDefEqProofs [hp.cell, hv, hc, a0, a1, hi, h1, ownT]

theorem run88 {K : Kont} {fuel : Nat} (hf : 4000 ≤ fuel) {w : World} {x : Nat} {vh vl : Value} {s : OS} {B : Nat} (hp : RefO w x vh vl s) (hs : s.ok B) (id p : Int) :
    wpGFn Try.prog K fuel 88 g88 #[pt x, n64 id, n64 p] w fun v w' => v = pageT s id p ∧ w' = w := by
  rw [gfn_start]
  have hll := l_len hs
  simp -implicitDefEqProofs [g88]
  refine loop_go (fun i ρ w' => ∃ (q : Nat), i = s.l.length - q ∧ q ≤ s.l.length ∧ w' = w ∧ (∀ j (h : j < s.l.length), j < q → ¬ (s.l[j].id = id ∧ s.l[j].page = p)) ∧ ρ 0 = pt x ∧ ρ 1 = n64 id ∧ ρ 2 = n64 p ∧ ρ 8 = n64 q) ?_ (i := s.l.length) ?_ (by show s.l.length < fuel; omega)
  · rintro i ρ w' ⟨q, rfl, hq, rfl, hno, e0, e1, e2, e8⟩
    have w1 : IntKind.i64.wrap ((q : Int) + 1) = (q : Int) + 1 := by rw [IntKind.wrap_i64]; omega
    by_cases hql : q < s.l.length
    · have hql' : (q : Int) < s.l.length := by omega
      obtain ⟨bb, oo, cap, c, t, z, hv, hc, hsz, _, ha⟩ := hp.l.src.at hql
      have a0 := ha 0 (by decide)
      have a1 := ha 1 (by decide)
      have a2 := ha 2 (by decide)
      simp [EOn] at a0 a1 a2
      have hgo : ¬ (s.l[q].id = id ∧ s.l[q].page = p) → ∀ j (h : j < s.l.length), j < q + 1 → ¬ (s.l[j].id = id ∧ s.l[j].page = p) := fun hne j h hj => by
        by_cases hjq : j = q
        · subst hjq; exact hne
        · exact hno j h (by omega)
      by_cases he : s.l[q].id = id
      · by_cases he2 : s.l[q].page = p
        · have hpa : pageA s id p = some s.l[q] := by
            have := page_of hs (List.getElem_mem hql)
            rw [he, he2] at this; exact this
          have hlive : 0 < heldA s id := by rw [← he]; exact (hs.on _ (List.getElem_mem hql)).1
          simp -implicitDefEqProofs [e0, e1, e2, e8, hp.cell, hp.l.lenS, hql', hv, hc, a0, a1, a2, he, he2, hql, pageT, hpa, hlive]
        · simp -implicitDefEqProofs [e0, e1, e2, e8, hp.cell, hp.l.lenS, hql', hv, hc, a0, a1, a2, he, he2, hql, w1]
          exact ⟨s.l.length - (q + 1), by omega, q + 1, rfl, hql, fun j h hj e1 e2 => hgo (fun e => he2 e.2) j h hj ⟨e1, e2⟩, by omega⟩
      · simp -implicitDefEqProofs [e0, e1, e2, e8, hp.cell, hp.l.lenS, hql', hv, hc, a0, a1, a2, he, hql, w1]
        exact ⟨s.l.length - (q + 1), by omega, q + 1, rfl, hql, fun j h hj e1 e2 => hgo (fun e => he e.1) j h hj ⟨e1, e2⟩, by omega⟩
    · have : q = s.l.length := by omega
      subst this
      have hnone : pageA s id p = none := page_none.2 fun o ho => by
        obtain ⟨j, hj, rfl⟩ := List.getElem_of_mem ho
        exact hno j hj hj
      simp -implicitDefEqProofs [e0, e8, hp.cell, hp.l.lenS, pageT, hnone]
  · exact ⟨0, rfl, Nat.zero_le _, rfl, fun j h hj => absurd hj (Nat.not_lt_zero _), by simp, by simp, by simp, by simp⟩
end Go.Proofs.Ytkplodhjceieeaa
