/-
  Objects: the document's Make, Hold, Set.
-/
import Derived.Test.YtkplodhjceieeaaZb
namespace Go.Proofs.Ytkplodhjceieeaa
open Go Go.Ideal

/-- What a call of the document's leaves. -/
def RefTo2 (w w' : World) (x : Nat) (vh vl : Value) (s : OS) : Prop := (∃ vh' vl', RefO w' x vh' vl' s) ∧ Keeps w w' (MvO x vh vl)

theorem RefO.ne {w : World} {x : Nat} {vh vl : Value} {s : OS} (h : RefO w x vh vl s) : ¬ blkOf vh = some x ∧ ¬ blkOf vl = some x ∧ ∀ j, blkOf vh = some j → ¬ blkOf vl = some j := by
  have hx := h.cell
  have th : ∀ j, blkOf vh = some j → ∃ c, cellsOf? w j = some (c, 3, (0, 0)) := fun j hj => by
    rcases h.held with ⟨rfl, _⟩ | ⟨b, o, cap, c, rfl, hc, _⟩
    · cases hj
    · simp at hj; subst hj; exact ⟨c, hc⟩
  have tl : ∀ j, blkOf vl = some j → ∃ c, cellsOf? w j = some (c, 96, (0, 0)) := fun j hj => by
    rcases h.l with ⟨rfl, _⟩ | ⟨b, o, cap, c, rfl, hc, _⟩
    · cases hj
    · simp at hj; subst hj; exact ⟨c, hc⟩
  refine ⟨fun e => ?_, fun e => ?_, fun j e1 e2 => ?_⟩
  · obtain ⟨c, hc⟩ := th x e; rw [hc] at hx; simp at hx
  · obtain ⟨c, hc⟩ := tl x e; rw [hc] at hx; simp at hx
  · obtain ⟨c, hc⟩ := th j e1
    obtain ⟨c2, hc2⟩ := tl j e2
    rw [hc] at hc2; simp at hc2

theorem run70 {K : Kont} {fuel : Nat} {w : World} {x : Nat} {vh vl : Value} {s : OS} {B : Nat} (hp : RefO w x vh vl s) (hs : s.ok B) (hB : B ≤ 1000) :
    wpGFn Try.prog K fuel 70 g70 #[pt x] w fun v w' => v = n64 s.held.length ∧ RefTo2 w w' x vh vl (makeA s) := by
  rw [gfn_start]
  have hl := hs.len
  obtain ⟨n1, n2, n3⟩ := hp.ne
  have hxl := cells_lt hp.cell
  have hwr : IntKind.i64.wrap ((s.held.length : Int) + 1 - 1) = s.held.length := by rw [IntKind.wrap_i64]; omega
  have hwr2 : IntKind.i64.wrap (s.held.length : Int) = s.held.length := by rw [IntKind.wrap_i64]; omega
  simp -implicitDefEqProofs [g70, hp.cell, row1]
  have hkp : Keeps w (World.push w (.cells #[.int .i64 1] 3)) (fun _ => False) := Keeps.push _ _ _
  refine appE (E := EInt 3) (by_ := 8) (hp.held.keep hkp (fun _ _ h => h)) (src_int (c := 3) (n := 1) (by simp)) (by simp; omega) (by decide) (fun v4 w4 hr4 hk4 _ hb4 => ?_)
  have hb4 := hb4 (by simp)
  have hk24 : Keeps w w4 (fun j => blkOf vh = some j) := hkp.trans hk4 (fun _ _ h => h.elim) (fun _ _ h => h)
  have hx4 : cellsOf? w4 x = some (#[vh, vl], 40, (0, 0)) := hk24.cells hp.cell n1
  have hlt4 := cells_lt hx4
  have kx : Keeps w4 (World.set w4 x (.cells #[v4, vl] 40)) (fun j => j = x) := Keeps.set _ _ _ (fun _ => rfl)
  have hone := hr4.one
  have hcl := hr4.cells1
  have hbx : ¬ blkOf v4 = some x := fun e => by rw [hb4] at e; simp at e; omega
  simp -implicitDefEqProofs [hx4, hlt4, hone, hcl, hr4.lenS, hwr, hwr2]
  refine ⟨⟨v4, vl, ⟨by simp [hlt4], (hr4.keep kx (fun b hb e => hbx (by rw [hb, e]))), ?_⟩⟩, hk24.trans kx (fun _ _ h => .inr (.inl h)) (fun _ _ h => .inl h)⟩
  exact (hp.l.keep hk24 (fun b hb e => n3 b e hb)).keep kx (fun b hb e => n2 (by rw [hb, e]))

theorem rowAt {α : Type} {E : En α} {w : World} {v : Value} {xs : List α} (h : RowE E w v xs) {i : Nat} (hi : i < xs.length) : ∃ b o cap c, v = .slice (some ⟨b, o, none⟩) xs.length cap ∧ cellsOf? w b = some (c, E.te, (0, 0)) ∧ o + i * E.es + E.es ≤ c.size ∧ ∀ j, j < E.es → c[o + i * E.es + j]? = (E.enc xs[i])[j]? := by
  obtain ⟨b, o, cap, c, t, z, hv, hc, hsz, _, ha⟩ := h.src.at hi
  rcases h with ⟨_, rfl⟩ | ⟨b', o', cap', c', hv', hc', _⟩
  · simp at hi
  · rw [hv] at hv'
    simp only [Value.slice.injEq, Option.some.injEq, Addr.mk.injEq, and_true, true_and] at hv'
    obtain ⟨⟨rfl, rfl⟩, rfl⟩ := hv'
    rw [hc] at hc'
    simp only [Option.some.injEq, Prod.mk.injEq] at hc'
    obtain ⟨rfl, rfl, rfl⟩ := hc'
    exact ⟨b, o, cap, c, hv, hc, hsz, ha⟩

/-- A count of holders, set in its row. -/
theorem RefO.put {w : World} {x : Nat} {vh vl : Value} {s : OS} (hp : RefO w x vh vl s) {n : Nat} (h1 : n < s.held.length) {bb oo cap : Nat} {c : Array Value} (hv : vh = .slice (some ⟨bb, oo, none⟩) s.held.length cap) (hc : cellsOf? w bb = some (c, 3, (0, 0))) (y : Int) :
    RefO (World.set w bb (.cells (c.setIfInBounds (oo + n) (n64 y)) 3)) x vh vl (putH s n y) ∧ Keeps w (World.set w bb (.cells (c.setIfInBounds (oo + n) (n64 y)) 3)) (MvO x vh vl) := by
  obtain ⟨n1, n2, n3⟩ := hp.ne
  have hb : blkOf vh = some bb := by rw [hv]; rfl
  have k : Keeps w (World.set w bb (.cells (c.setIfInBounds (oo + n) (n64 y)) 3)) (fun j => j = bb) := Keeps.set _ _ _ (fun _ => rfl)
  have hs := hp.held.set h1 y hv hc
  simp only [EInt, put_cons', put_nil', Nat.mul_one] at hs
  refine ⟨⟨k.cells hp.cell (fun e => n1 (by rw [hb, e])), ?_, hp.l.keep k (fun b hb2 e => n3 bb hb (by rw [hb2, e]))⟩, k.mono (fun j _ e => .inr (.inl (by rw [hb, e])))⟩
  have : (putH s n y).held = s.held.set n y := by simp [putH]
  rw [this]
  exact hs

theorem run71 {K : Kont} {fuel : Nat} (hK : Ref2 K) {w : World} {x : Nat} {vh vl : Value} {s : OS} {B : Nat} (hp : RefO w x vh vl s) (hs : s.ok B) (hB : B ≤ 1000) (id : Int) :
    wpGFn Try.prog K fuel 71 g71 #[pt x, n64 id] w fun v w' => v = n64 (findE s id) ∧ RefTo2 w w' x vh vl (if 0 < heldA s id then putH s id (heldA s id + 1) else s) := by
  rw [gfn_start]
  simp -implicitDefEqProofs [g71]
  refine valA_of (hK.is hp id) (fun u w1 hq => ?_)
  obtain ⟨hu, hw⟩ := hq
  simp only at hu hw
  subst hu hw
  by_cases h : 0 < heldA s id
  · obtain ⟨h0, h1⟩ := held_lt h
    obtain ⟨n, rfl⟩ : ∃ n : Nat, id = n := ⟨id.toNat, by omega⟩
    rw [Int.toNat_natCast] at h1
    obtain ⟨bb, oo, cap, c, hv, hc, hsz, ha⟩ := rowAt hp.held h1
    have a0 := ha 0 Nat.one_pos
    simp only [EInt, Nat.mul_one, Nat.add_zero, List.getElem?_cons_zero] at a0 hc hsz
    have hh : heldA s n = s.held[n] := by simp [heldA, h1]
    have hbd := held_bd hs n
    have hw : IntKind.i64.wrap (s.held[n] + 1) = s.held[n] + 1 := by rw [IntKind.wrap_i64]; omega
    have hput := hp.put h1 hv hc (s.held[n] + 1)
    rw [hh] at h
    simp -implicitDefEqProofs [h, hh, findE, hp.cell, hv, hc, a0, h1, hw]
    rw [hv] at hput
    exact ⟨fun _ => ⟨⟨_, _, hput.1⟩, hput.2⟩, by omega⟩
  · simp -implicitDefEqProofs [h, findE]
    exact ⟨⟨vh, vl, hp⟩, Keeps.refl _ _⟩

structure Ref3 (K : Kont) : Prop where
  r : Ref2 K
  page : ∀ {w : World} {x : Nat} {vh vl : Value} {s : OS} {B : Nat}, RefO w x vh vl s → s.ok B → ∀ id p, (K.enter 88 #[pt x, n64 id, n64 p] w).all fun z => z.1 = pageT s id p ∧ z.2 = w
  frames : ∀ {w : World} {x : Nat} {vh vl : Value} {s : OS}, RefO w x vh vl s → s.lok → ∀ id, (K.enter 29 #[pt x, n64 id] w).all fun z => RowE (EInt 3) z.2 z.1 (framesA s id) ∧ Keeps w z.2 (fun _ => False) ∧ ∀ j, blkOf z.1 = some j → w.heap.size ≤ j
theorem ref3 (m : Nat) (hm : 4000 ≤ m) : Ref3 (KO (m + 2)) where
  r := ref2 (m + 1) (by omega)
  page := fun hp hs id p => enter_okH (m := m + 1) low88 (o0 (by decide) (by decide)) (run88 (by omega) hp hs id p)
  frames := fun hp hs id => enter_okH (m := m + 1) low29 (o0 (by decide) (by decide)) (run29 (ref2 m hm) (by omega) hp hs id)

theorem row_on (i p f : Int) (w : World) : rowS 96 3 1 #[.int .i64 0, .int .i64 0, .int .i64 0] [(0, .agg #[n64 i, n64 p, n64 f])] w = .ret (.slice (some ⟨w.heap.size, 0, none⟩) 1 1, World.push w (.cells #[n64 i, n64 p, n64 f] 96)) := by
  simp [rowS, Instr.fill]
theorem src_on {w : World} {r : Nat} {o : On} (h : cellsOf? w r = some (#[n64 o.id, n64 o.page, n64 o.frame], 96, (0, 0))) : SrcE EOn w (.slice (some ⟨r, 0, none⟩) 1 1) [o] :=
  .inr ⟨r, 0, 1, _, 96, (0, 0), rfl, h, by simp [EOn], by simp [EOn, flat]⟩

theorem run73 {K : Kont} {fuel : Nat} (hK : Ref3 K) {w : World} {x : Nat} {vh vl : Value} {s : OS} {B : Nat} (hp : RefO w x vh vl s) (hs : s.ok B) (id p f : Int) :
    wpGFn Try.prog K fuel 73 g73 #[pt x, n64 id, n64 p, n64 f] w fun v w' => v = n64 (setO s id p f).1 ∧ RefTo2 w w' x vh vl (setO s id p f).2 := by
  rw [gfn_start]
  simp -implicitDefEqProofs [g73]
  refine valA_of (hK.r.is hp id) (fun u w1 hq => ?_)
  obtain ⟨hu, hw⟩ := hq
  simp only at hu hw
  subst hu hw
  have same : RefTo2 w1 w1 x vh vl s := ⟨⟨vh, vl, hp⟩, Keeps.refl _ _⟩
  by_cases h : 0 < heldA s id
  · by_cases c1 : (0 ≤ p ∧ p < 4096) ∧ (0 ≤ f ∧ f < 1024)
    · have b1 : ¬ p < 0 := by omega
      have b2 : ¬ 4095 < p := by omega
      have b3 : ¬ f < 0 := by omega
      have b4 : ¬ 1023 < f := by omega
      simp -implicitDefEqProofs [h, b1, b2, b3, b4]
      refine valA_of (hK.page hp hs id p) (fun u w2 hq => ?_)
      obtain ⟨hu, hw⟩ := hq
      simp only at hu hw
      subst hu hw
      cases hpa : pageA s id p with
      | some o =>
        have hso : setO s id p f = (7, s) := by unfold setO; rw [if_neg (by simpa using h), if_neg (fun e => e c1), if_pos (.inl (by rw [hpa]; simp))]
        simp -implicitDefEqProofs [pageT, h, hpa, hso]
        exact same
      | none =>
        simp -implicitDefEqProofs [pageT, h, hpa]
        refine valA_of (hK.r.of hp hs.lk f) (fun u w3 hq => ?_)
        obtain ⟨hq, hw⟩ := hq
        simp only at hq hw
        subst hw
        rcases hq with ⟨g1, hu⟩ | ⟨i, hi, g1, hu⟩
        · subst hu
          have hso : setO s id p f = (0, setL s id p f) := by unfold setO; rw [if_neg (by simpa using h), if_neg (fun e => e c1), if_neg (by rw [hpa, g1]; simp)]
          obtain ⟨n1, n2, n3⟩ := hp.ne
          have hxl := cells_lt hp.cell
          have hll := l_len hs
          simp -implicitDefEqProofs [hp.cell, fillS, Instr.fill, row_on]
          have hkp : Keeps w3 (World.push w3 (.cells #[n64 id, n64 p, n64 f] 96)) (fun _ => False) := Keeps.push _ _ _
          refine appE (E := EOn) (by_ := 24) (hp.l.keep hkp (fun _ _ h => h)) (src_on (o := ⟨id, p, f⟩) (by simp)) (by simp; omega) (by decide) (fun v4 w4 hr4 hk4 _ hb4 => ?_)
          have hb4 := hb4 (by simp)
          have hk24 : Keeps w3 w4 (fun j => blkOf vl = some j) := hkp.trans hk4 (fun _ _ h => h.elim) (fun _ _ h => h)
          have hx4 : cellsOf? w4 x = some (#[vh, vl], 40, (0, 0)) := hk24.cells hp.cell n2
          have hlt4 := cells_lt hx4
          have kx : Keeps w4 (World.set w4 x (.cells #[vh, v4] 40)) (fun j => j = x) := Keeps.set _ _ _ (fun _ => rfl)
          have hone := hr4.one
          have hcl := hr4.cells1
          have hbx : ¬ blkOf v4 = some x := fun e => by rw [hb4] at e; simp at e; omega
          simp -implicitDefEqProofs [hx4, hlt4, hone, hcl, hso]
          refine ⟨⟨vh, v4, ⟨by simp [hlt4], ?_, (hr4.keep kx (fun b hb e => hbx (by rw [hb, e])))⟩⟩, hk24.trans kx (fun _ _ h => .inr (.inr h)) (fun _ _ h => .inl h)⟩
          exact (hp.held.keep hk24 (fun b hb e => n3 b hb e)).keep kx (fun b hb e => n1 (by rw [hb, e]))
        · subst hu
          have hso : setO s id p f = (7, s) := by unfold setO; rw [if_neg (by simpa using h), if_neg (fun e => e c1), if_pos (.inr (by rw [g1]; simp))]
          simp -implicitDefEqProofs [hso]
          exact same
    · have hso : setO s id p f = (3, s) := by unfold setO; rw [if_neg (by simpa using h), if_pos c1]
      by_cases b1 : p < 0
      · simp -implicitDefEqProofs [h, b1, hso]
        exact same
      · by_cases b2 : 4095 < p
        · simp -implicitDefEqProofs [h, b1, b2, hso]
          exact same
        · by_cases b3 : f < 0
          · simp -implicitDefEqProofs [h, b1, b2, b3, hso]
            exact same
          · have b4 : 1023 < f := by omega
            simp -implicitDefEqProofs [h, b1, b2, b3, b4, hso]
            exact same
  · have hso : setO s id p f = (6, s) := by unfold setO; rw [if_pos h]
    simp -implicitDefEqProofs [h, hso]
    exact same
end Go.Proofs.Ytkplodhjceieeaa
