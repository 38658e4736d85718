/-
  Processors: both behind some calls.
-/
import Derived.Test.YtplcocifndpplaaCp
namespace Go.Proofs.Ytplcocifndpplaa
open Go Go.Ideal

def okTag (t : TypeId) : Prop := t ≠ 89 ∧ t ≠ 38 ∧ t ≠ 31 ∧ t ≠ 105 ∧ t ≠ 107 ∧ t ≠ 114 ∧ t ≠ 117 ∧ t ≠ 122
/-- What is none of theirs stays. -/
def KeepX (w w' : World) : Prop := w.heap.size ≤ w'.heap.size ∧ ∀ b cs t fz, cellsOf? w b = some (cs, t, fz) → (fz ≠ (0, 0) ∨ okTag t) → cellsOf? w' b = some (cs, t, fz)
theorem KeepX.refl (w : World) : KeepX w w := ⟨Nat.le_refl _, fun _ _ _ _ h _ => h⟩
theorem KeepX.trans {a b c : World} (h : KeepX a b) (k : KeepX b c) : KeepX a c := ⟨Nat.le_trans h.1 k.1, fun x cs t fz h1 h2 => k.2 x cs t fz (h.2 x cs t fz h1 h2) h2⟩
theorem KeepX.new {w w' : World} (hk : Keeps w w' (fun _ => False)) : KeepX w w' := ⟨hk.1, fun _ _ _ _ h _ => hk.cells h (fun h => h)⟩
theorem Both.keepX {w w' : World} {c x C : Nat} {a : Ad} {s t : CS} {r : Rd} (h : Both w c a s x r t C) (mv : MvB w w' s.N a.pb r.pb) : KeepX w w' := ⟨mv.1.1, fun _ _ _ _ h1 h2 => h.kept mv h1 h2⟩

/-- A row that nobody writes. -/
def Froz (w : World) (v : Value) : Prop := ∀ b o vl vc c e fz, v = .slice (some ⟨b, o, none⟩) vl vc → cellsOf? w b = some (c, e, fz) → c.size ≠ 0 → fz ≠ (0, 0)
def ActsC (w : World) (v : Value) (xs : List ActC) : Prop := (∀ a ∈ xs, a.ok) ∧ ∃ vb vc, v = .slice vb xs.length vc ∧ ∀ (i : Nat) (h : i < xs.length), ∃ b o c e fz, vb = some ⟨b, o, none⟩ ∧ cellsOf? w b = some (c, e, fz) ∧ fz ≠ (0, 0) ∧ o + i * 10 + 10 ≤ c.size ∧ c.extract (o + i * 10) (o + i * 10 + 10) = xs[i].cells
theorem ActsC.keep {w w' : World} {v : Value} {xs : List ActC} (h : ActsC w v xs) (hk : KeepX w w') : ActsC w' v xs := by
  obtain ⟨ho, vb, vc, hv, h⟩ := h
  refine ⟨ho, vb, vc, hv, fun i hi => ?_⟩
  obtain ⟨b, o, c, e, fz, h1, h2, h3, h4⟩ := h i hi
  exact ⟨b, o, c, e, fz, h1, hk.2 _ _ _ _ h2 (.inl h3), h3, h4⟩
theorem ActsC.len {w w' : World} {v : Value} {xs : List ActC} (h : ActsC w v xs) : lenS v w' = .ret (.int .i64 (xs.length : Int), w') := by
  obtain ⟨_, vb, vc, rfl, _⟩ := h; rfl

noncomputable def runC (s : CS) (l : List ActC) : CS := l.foldl stepC s
theorem runC_snoc (s : CS) (l : List ActC) (y : ActC) : runC s (l ++ [y]) = stepC (runC s l) y := by simp [runC]
theorem runC_ok : ∀ (l : List ActC) {s : CS} {B : Nat}, s.ok B → (∀ y ∈ l, y.ok) → (runC s l).ok (B + l.length)
  | [], _, _, h, _ => h
  | y :: l, s, B, h, hy => by
    have := runC_ok l (stepC_ok h (hy y (List.mem_cons_self ..))) (fun z hz => hy z (List.mem_cons_of_mem _ hz))
    rw [List.length_cons, show B + (l.length + 1) = B + 1 + l.length by omega]
    exact this
theorem runC_N : ∀ (l : List ActC) (s : CS), (runC s l).N = s.N
  | [], _ => rfl
  | y :: l, s => (runC_N l (stepC s y)).trans (stepC_N s y)
theorem newA_ok {n : Nat} {size : Int} (hn : n ≤ 8) (hs : 1 ≤ size ∧ size ≤ 64) : (newA n size).ok 0 := ⟨hn, hs, fun i _ => ⟨fun c hc => (by cases hc), by simp [newA]; omega, .nil⟩, fun i sp _ => Nat.zero_le _, fun f hf => (by cases hf), Nat.le_refl _⟩
noncomputable def madeC (n : Nat) (size : Int) (xs : List ActC) : CS := runC (newA n size) (xs.take 60)
theorem madeC_ok {n : Nat} {size : Int} (hn : n ≤ 8) (hs : 1 ≤ size ∧ size ≤ 64) {xs : List ActC} (hx : ∀ y ∈ xs, y.ok) : (madeC n size xs).ok 60 :=
  (runC_ok (xs.take 60) (newA_ok hn hs) (fun y hy => hx y (List.mem_of_mem_take hy))).mono (by simp; omega)
theorem madeC_N (n : Nat) (size : Int) (xs : List ActC) : (madeC n size xs).N = n := runC_N _ _

structure MadeC (w w' : World) (c x : Nat) (s : CS) (C : Nat) : Prop where
  ex : ∃ a r, Both w' c a s x r s C
  k : KeepX w w'
theorem MadeC.mono {w w' : World} {c x : Nat} {s : CS} {C D : Nat} (h : MadeC w w' c x s C) (hD : C ≤ D) : MadeC w w' c x s D := by
  obtain ⟨⟨a, r, h1⟩, h2⟩ := h
  exact ⟨⟨a, r, h1.c, h1.x.mono hD, h1.n, h1.ap⟩, h2⟩

theorem run35 {K : Kont} {fuel : Nat} (hK : Cps K) (hD : ∀ {w : World} {c x C B : Nat} {a : Ad} {s : CS} {r : Rd}, Both w c a s x r s C → s.ok B → B ≤ 1000 → C + B < 20000 → ∀ y : ActC, y.ok → (K.enter 41 #[ptr c, ptr x, .agg y.cells] w).all fun z => z.1 = .bool true ∧ Goes w z.2 c x a r s.N (stepC s y) (C + B + 8)) (hf : 2000 ≤ fuel)
    {w : World} {n : Nat} {size : Int} {v : Value} {xs : List ActC} (hn : 1 ≤ n ∧ n ≤ 8) (hsz : 1 ≤ size ∧ size ≤ 64) (hv : ActsC w v xs) :
    wpGFn Try.prog K fuel 35 g35 #[i64 n, i64 size, v] w fun u w' => ∃ c x, u = .tuple #[ptr c, ptr x, .bool true] ∧ MadeC w w' c x (madeC n size xs) 10000 := by
  rw [gfn_start]
  simp -implicitDefEqProofs [g35]
  refine valA_of (hK.new hn hsz) (fun u w1 hq => ?_)
  obtain ⟨c, a, hu, hc1, hk1, hf1⟩ := hq
  simp only at hu hc1 hk1 hf1
  subst hu
  simp -implicitDefEqProofs
  refine valA_of (hK.xnew hn hsz) (fun u w2 hq => ?_)
  obtain ⟨x, r, hu, hx2, hk2, hf2⟩ := hq
  simp only at hu hx2 hk2 hf2
  subst hu
  have hc2 := hc1.keep hk2 (fun _ _ h => h)
  have hB : Both w2 c a (newA n size) x r (newA n size) 0 := ⟨hc2.1, hx2, rfl, fun i j hi hj b h1 h2 => by
    have := (hc1.buf i hi).foot_lt ((hc2.2 i hi b).1 h1)
    have := hf2 j hj b h2; omega⟩
  have hkw : KeepX w w2 := (KeepX.new hk1).trans (KeepX.new hk2)
  simp -implicitDefEqProofs [nil57, nil71, bool_ne]
  refine loop_go (fun i ρ w' => ∃ (q : Nat), i = 60 - q ∧ q ≤ 60 ∧ q ≤ xs.length ∧ ρ 2 = v ∧ ρ 9 = ptr c ∧ ρ 11 = ptr x ∧ ρ 13 = i64 q ∧ MadeC w w' c x (runC (newA n size) (xs.take q)) (q * 68)) ?_ (i := 60) ?_ (by show 60 < fuel; omega)
  · rintro i ρ w' ⟨q, rfl, hq, hql, e2, e9, e11, e13, ⟨a', r', hB'⟩, hk'⟩
    have hv' := hv.keep hk'
    have w1 : IntKind.i64.wrap ((q : Int) + 1) = (q : Int) + 1 := by rw [IntKind.wrap_i64]; omega
    have hok : (runC (newA n size) (xs.take q)).ok 60 := (runC_ok (xs.take q) (newA_ok hn.2 hsz) (fun y hy => hv.1 y (List.mem_of_mem_take hy))).mono (by simp; omega)
    have done : q = (xs.take 60).length → MadeC w w' c x (madeC n size xs) 10000 := fun he => by
      have : xs.take q = xs.take 60 := by rw [he, List.length_take, ← List.take_take]; simp
      rw [this] at hB'
      exact MadeC.mono ⟨⟨a', r', hB'⟩, hk'⟩ (by omega)
    by_cases h1 : q < xs.length
    · have h1' : (q : Int) < xs.length := by omega
      by_cases h2 : q < 60
      · have h2' : (q : Int) < 60 := by omega
        obtain ⟨_, vb, vc, hve, hat⟩ := id hv'
        obtain ⟨bb, o, cc, e, fz, hvb, hc, hfz, hsz', hext⟩ := hat q h1
        subst hvb
        simp -implicitDefEqProofs [e2, e9, e11, e13, nilN71, h1', h2', hve, hc, hsz', hext, h1]
        refine valA_of (hD hB' hok (by omega) (by omega) xs[q] (hv.1 _ (List.getElem_mem h1))) (fun u w3 hq3 => ?_)
        obtain ⟨hu, a3, r3, ha3, hr3, hB3, mv⟩ := hq3
        simp only at hu hB3 mv
        subst hu
        have hk3 := hB'.keepX mv
        simp -implicitDefEqProofs [e9, e11, e13, w1]
        refine ⟨60 - (q + 1), by omega, q + 1, rfl, by omega, h1, by rw [e2, hve], by omega, MadeC.mono ⟨⟨a3, r3, ?_⟩, hk'.trans hk3⟩ (Nat.le_refl _)⟩
        rw [List.take_succ_eq_append_getElem h1, runC_snoc, show (q + 1) * 68 = q * 68 + 60 + 8 by omega]
        exact hB3
      · have hq60 : q = 60 := by omega
        subst hq60
        have h5 : (60 : Int) < xs.length := by omega
        simp -implicitDefEqProofs [e2, e9, e11, e13, nilN71, hv'.len, h5]
        exact ⟨c, x, ⟨rfl, rfl⟩, done (by rw [List.length_take]; omega)⟩
    · have h1' : ¬ (q : Int) < xs.length := by omega
      simp -implicitDefEqProofs [e2, e9, e11, e13, nilN71, hv'.len, h1']
      exact ⟨c, x, ⟨rfl, rfl⟩, done (by rw [List.length_take]; omega)⟩
  · exact ⟨0, rfl, by omega, Nat.zero_le _, by simp, by simp, by simp, by simp, ⟨⟨a, r, hB⟩, hkw⟩⟩

structure TopC (K : Kont) : Prop where
  k : Cps K
  both : ∀ {w : World} {c x C B : Nat} {a : Ad} {s : CS} {r : Rd}, Both w c a s x r s C → s.ok B → B ≤ 1000 → C + B < 20000 → ∀ y : ActC, y.ok → (K.enter 41 #[ptr c, ptr x, .agg y.cells] w).all fun z => z.1 = .bool true ∧ Goes w z.2 c x a r s.N (stepC s y) (C + B + 8)
  made : ∀ {w : World} {n : Nat} {size : Int} {v : Value} {xs : List ActC}, 1 ≤ n ∧ n ≤ 8 → 1 ≤ size ∧ size ≤ 64 → ActsC w v xs → (K.enter 35 #[i64 n, i64 size, v] w).all fun z => ∃ c x, z.1 = .tuple #[ptr c, ptr x, .bool true] ∧ MadeC w z.2 c x (madeC n size xs) 10000
theorem topC (m : Nat) (hm : 20000 ≤ m) : TopC (runA Try.prog sp5 (m + 11)) where
  k := cps (m + 2) (by omega)
  both := fun h hs hB hC y hy => enter_ok (m := m + 10) low41 rfl (run41 (cps (m + 1) (by omega)) h hs hB hC y hy)
  made := fun hn hsz hv => enter_ok (m := m + 10) low35 rfl (run35 (cps (m + 1) (by omega)) (fun h hs hB hC y hy => enter_ok (m := m + 9) low41 rfl (run41 (cps m hm) h hs hB hC y hy)) (by omega) hn hsz hv)
end Go.Proofs.Ytplcocifndpplaa
