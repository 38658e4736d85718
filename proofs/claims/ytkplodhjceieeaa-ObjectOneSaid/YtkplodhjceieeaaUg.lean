/-
  Both pools behind calls.
-/
import Derived.Test.YtkplodhjceieeaaUf
namespace Go.Proofs.Ytkplodhjceieeaa
open Go Go.Ideal

structure Api (K : Kont) : Prop where
  l : Look1 K
  grow : ∀ {w : World} {b r : Nat} {s : PS}, PoolAt w b r s → s.ok → ∀ f, (K.enter 36 #[pt b, n64 f] w).all fun x => x.1 = n64 (growA s f).1 ∧ PoolTo w x.2 b r (growA s f).2
  shrink : ∀ {w : World} {b r : Nat} {s : PS}, PoolAt w b r s → s.ok → (K.enter 33 #[pt b] w).all fun x => x.1 = .tuple #[n64 (shrinkA s).1.1, n64 (shrinkA s).1.2] ∧ PoolTo w x.2 b r (shrinkA s).2
  promise : ∀ {w : World} {b r : Nat} {s : PS}, PoolAt w b r s → s.ok → ∀ n, (K.enter 46 #[pt b, n64 n] w).all fun x => x.1 = n64 (promiseA s n).1 ∧ PoolTo w x.2 b r (promiseA s n).2
  unpromise : ∀ {w : World} {b r : Nat} {s : PS}, PoolAt w b r s → s.ok → ∀ n, (K.enter 47 #[pt b, n64 n] w).all fun x => x.1 = n64 (unpromiseA s n).1 ∧ PoolTo w x.2 b r (unpromiseA s n).2
  take : ∀ {w : World} {b r : Nat} {s : PS}, PoolAt w b r s → s.ok → ∀ yes, (K.enter 34 #[pt b, .bool yes] w).all fun x => x.1 = .tuple #[n64 (takeA s yes).1.1, n64 (takeA s yes).1.2] ∧ PoolTo w x.2 b r (takeA s yes).2
  extra : ∀ {w : World} {b r : Nat} {s : PS}, PoolAt w b r s → s.ok → ∀ f, (K.enter 37 #[pt b, n64 f] w).all fun x => x.1 = n64 (extraA s f).1 ∧ PoolTo w x.2 b r (extraA s f).2
  give : ∀ {w : World} {b r : Nat} {s : PS}, PoolAt w b r s → s.ok → ∀ f yes, (K.enter 39 #[pt b, n64 f, .bool yes] w).all fun x => x.1 = .tuple #[.bool (giveA s f yes).1.1, n64 (giveA s f yes).1.2] ∧ PoolTo w x.2 b r (giveA s f yes).2
  new : ∀ {w : World} (o mo : Int), (K.enter 41 #[n64 o, n64 mo] w).all fun x => (badNew o mo ∧ x.1 = .tuple #[.pointer none, n64 2] ∧ x.2 = w) ∨ (¬ badNew o mo ∧ ∃ b r, x.1 = .tuple #[pt b, n64 0] ∧ PoolAt x.2 b r (newA o mo) ∧ Keeps w x.2 (fun _ => False) ∧ w.heap.size ≤ b ∧ w.heap.size ≤ r)
  rnew : ∀ {w : World} (o mo : Int), (K.enter 42 #[n64 o, n64 mo] w).all fun x => (badNew o mo ∧ x.1 = .tuple #[.pointer none, n64 2] ∧ x.2 = w) ∨ (¬ badNew o mo ∧ ∃ b r, x.1 = .tuple #[pt b, n64 0] ∧ RefAt x.2 b r (newA o mo) ∧ Keeps w x.2 (fun _ => False) ∧ w.heap.size ≤ b ∧ w.heap.size ≤ r)
  r : Ref0 K
  rgrow : ∀ {w : World} {b r : Nat} {s : PS}, RefAt w b r s → s.ok → ∀ f, (K.enter 59 #[pt b, n64 f] w).all fun x => x.1 = n64 (growA s f).1 ∧ RefTo w x.2 b r (growA s f).2
  rshrink : ∀ {w : World} {b r : Nat} {s : PS}, RefAt w b r s → s.ok → (K.enter 60 #[pt b] w).all fun x => x.1 = .tuple #[n64 (shrinkA s).1.1, n64 (shrinkA s).1.2] ∧ RefTo w x.2 b r (shrinkA s).2
  rpromise : ∀ {w : World} {b r : Nat} {s : PS}, RefAt w b r s → s.ok → ∀ n, (K.enter 61 #[pt b, n64 n] w).all fun x => x.1 = n64 (promiseA s n).1 ∧ RefTo w x.2 b r (promiseA s n).2
  runpromise : ∀ {w : World} {b r : Nat} {s : PS}, RefAt w b r s → s.ok → ∀ n, (K.enter 62 #[pt b, n64 n] w).all fun x => x.1 = n64 (unpromiseA s n).1 ∧ RefTo w x.2 b r (unpromiseA s n).2
  rtake : ∀ {w : World} {b r : Nat} {s : PS}, RefAt w b r s → s.ok → ∀ yes, (K.enter 63 #[pt b, .bool yes] w).all fun x => x.1 = .tuple #[n64 (takeA s yes).1.1, n64 (takeA s yes).1.2] ∧ RefTo w x.2 b r (takeA s yes).2
  rextra : ∀ {w : World} {b r : Nat} {s : PS}, RefAt w b r s → s.ok → ∀ f, (K.enter 64 #[pt b, n64 f] w).all fun x => x.1 = n64 (extraA s f).1 ∧ RefTo w x.2 b r (extraA s f).2
  rgive : ∀ {w : World} {b r : Nat} {s : PS}, RefAt w b r s → s.ok → ∀ f yes, (K.enter 65 #[pt b, n64 f, .bool yes] w).all fun x => x.1 = .tuple #[.bool (giveA s f yes).1.1, n64 (giveA s f yes).1.2] ∧ RefTo w x.2 b r (giveA s f yes).2

theorem look1 (m : Nat) (hm : 4000 ≤ m) : Look1 (KR (m + 4)) where
  l := look0 (m + 1) (by omega)
  spare := fun hp hs => enter_okH (m := m + 3) low55 (by simp [sortH]) (run55 (look0 m hm) hp hs)

theorem api (m : Nat) (hm : 4000 ≤ m) : Api (KR (m + 5)) where
  l := look1 (m + 1) (by omega)
  grow := fun hp hs f => enter_okH (m := m + 4) low36 (by simp [sortH]) (run36 (look0 (m + 1) (by omega)) hp hs f)
  shrink := fun hp hs => enter_okH (m := m + 4) low33 (by simp [sortH]) (run33 (look1 m hm) hp hs)
  promise := fun hp hs n => enter_okH (m := m + 4) low46 (by simp [sortH]) (run46 (look1 m hm) hp hs n)
  unpromise := fun hp hs n => enter_okH (m := m + 4) low47 (by simp [sortH]) (run47 hp hs n)
  take := fun hp hs yes => enter_okH (m := m + 4) low34 (by simp [sortH]) (run34 (look1 m hm) hp hs yes)
  extra := fun hp hs f => enter_okH (m := m + 4) low37 (by simp [sortH]) (run37 (look0 (m + 1) (by omega)) hp hs f)
  give := fun hp hs f yes => enter_okH (m := m + 4) low39 (by simp [sortH]) (run39 hp hs f yes)
  new := fun o mo => enter_okH (m := m + 4) low41 (by simp [sortH]) (run41 o mo)
  rnew := fun o mo => enter_okH (m := m + 4) low42 (by simp [sortH]) (run42 o mo)
  r := ref0 (m + 4) (by omega)
  rgrow := fun hp hs f => enter_okH (m := m + 4) low59 (by simp [sortH]) (run59 (ref1 (m + 2) (by omega)) hp hs f)
  rshrink := fun hp hs => enter_okH (m := m + 4) low60 (by simp [sortH]) (run60 (ref1 (m + 2) (by omega)) hp hs)
  rpromise := fun hp hs n => enter_okH (m := m + 4) low61 (by simp [sortH]) (run61 (ref1 (m + 2) (by omega)) hp hs n)
  runpromise := fun hp hs n => enter_okH (m := m + 4) low62 (by simp [sortH]) (run62 hp hs n)
  rtake := fun hp hs yes => enter_okH (m := m + 4) low63 (by simp [sortH]) (run63 (ref1 (m + 2) (by omega)) hp hs yes)
  rextra := fun hp hs f => enter_okH (m := m + 4) low64 (by simp [sortH]) (run64 (ref1 (m + 2) (by omega)) hp hs f)
  rgive := fun hp hs f yes => enter_okH (m := m + 4) low65 (by simp [sortH]) (run65 hp hs f yes)

/-! ### Rows of numbers, compared -/
theorem run28 {K : Kont} {fuel : Nat} (hf : 4000 ≤ fuel) {w : World} {x y : Value} {l m : List Int} (hx : SrcE (EInt 3) w x l) (hy : SrcE (EInt 3) w y m) (hl : l.length ≤ 2000) : wpGFn Try.prog K fuel 28 g28 #[x, y] w fun v w' => v = .bool (decide (l = m)) ∧ w' = w := by
  rw [gfn_start]
  by_cases hlen : l.length = m.length
  · have hl2 : (l.length : Int) = m.length := by omega
    simp -implicitDefEqProofs [g28, hx.lenS, hy.lenS, hl2]
    refine loop_go (fun i ρ w' => ∃ (q : Nat), i = l.length - q ∧ q ≤ l.length ∧ w' = w ∧ ρ 0 = x ∧ ρ 1 = y ∧ ρ 5 = n64 q ∧ l.take q = m.take q) ?_ (i := l.length) ?_ (by show l.length < fuel; omega)
    · rintro i ρ w' ⟨q, rfl, hq, rfl, e0, e1, e5, heq⟩
      have w1 : IntKind.i64.wrap ((q : Int) + 1) = (q : Int) + 1 := by rw [IntKind.wrap_i64]; omega
      by_cases hql : q < l.length
      · have hqm : q < m.length := by omega
        obtain ⟨b1, o1, cap1, c1, t1, z1, hv1, hc1, hs1, _, ha1⟩ := hx.at hql
        obtain ⟨b2, o2, cap2, c2, t2, z2, hv2, hc2, hs2, _, ha2⟩ := hy.at hqm
        have a1 := ha1 0 Nat.one_pos
        have a2 := ha2 0 Nat.one_pos
        simp only [EInt, Nat.mul_one, Nat.add_zero, List.getElem?_cons_zero] at a1 a2
        have hql2 : (q : Int) < m.length := by omega
        by_cases he : l[q] = m[q]
        · simp -implicitDefEqProofs [e0, e1, e5, hx.lenS, hv1, hv2, hc1, hc2, a1, a2, hql2, hql, hqm, he, w1]
          refine ⟨l.length - (q + 1), by omega, q + 1, rfl, hql, by omega, ?_⟩
          rw [List.take_succ_eq_append_getElem hql, List.take_succ_eq_append_getElem hqm, heq, he]
        · have hne : ¬ l = m := fun e => by subst e; exact he rfl
          simp -implicitDefEqProofs [e0, e1, e5, hx.lenS, hv1, hv2, hc1, hc2, a1, a2, hql2, hql, hqm, he, hne]
      · have : q = l.length := by omega
        subst this
        rw [List.take_length, hlen, List.take_length] at heq
        have h3 : ¬ (l.length : Int) < m.length := by omega
        simp -implicitDefEqProofs [e0, e1, e5, hx.lenS, hl2, heq]
    · exact ⟨0, rfl, Nat.zero_le _, rfl, by simp, by simp, by simp, by simp⟩
  · have hl2 : ¬ (l.length : Int) = m.length := by omega
    have hne : ¬ l = m := fun e => by subst e; exact hlen rfl
    simp -implicitDefEqProofs [g28, hx.lenS, hy.lenS, hl2, hne]

/-! ### A call of both -/
structure ActP where
  k : Int
  f : Int
  n : Int
  yes : Bool
def ActP.cells (a : ActP) : Array Value := #[n64 a.k, n64 a.f, n64 a.n, .bool a.yes]

def stepA (s : PS) (a : ActP) : PS :=
  if a.k = 0 ∨ a.k = 1 then (growA s a.f).2 else if a.k = 2 then (shrinkA s).2 else if a.k = 3 then (promiseA s a.n).2 else if a.k = 4 then (unpromiseA s a.n).2
  else if a.k = 5 ∨ a.k = 6 then (takeA s a.yes).2 else if a.k = 7 then (extraA s a.f).2 else (giveA s a.f a.yes).2

theorem step_ok {s : PS} (h : s.ok) (a : ActP) : (stepA s a).ok := by
  unfold stepA
  split
  · exact grow_ok h _
  · split
    · exact shrink_ok h
    · split
      · exact promise_ok h _
      · split
        · exact unpromise_ok h _
        · split
          · exact take_ok h _
          · split
            · exact extra_ok h _
            · exact give_ok h _ _

structure Both (w : World) (b r x y : Nat) (s : PS) : Prop where
  p : PoolAt w b r s
  q : RefAt w x y s

theorem apart {w : World} {b r x y : Nat} {s s' : PS} (hp : PoolAt w b r s) (hq : RefAt w x y s') : b ≠ x ∧ b ≠ y ∧ r ≠ x ∧ r ≠ y := by
  obtain ⟨h1, m, h2, _⟩ := hp
  refine ⟨fun e => ?_, fun e => ?_, fun e => ?_, fun e => ?_⟩
  · subst e; have := hq.1; rw [h1] at this; simp at this
  · subst e; have := hq.2; rw [h1] at this; simp at this
  · subst e; have := hq.1; rw [h2.nocells] at this; cases this
  · subst e; have := hq.2; rw [h2.nocells] at this; cases this

def Mv4 (b r x y : Nat) : Nat → Prop := fun j => Mv b r j ∨ Mv x y j
def BothTo (w w' : World) (b r x y : Nat) (s : PS) : Prop := Both w' b r x y s ∧ Keeps w w' (Mv4 b r x y)

/-- First the program's, then the document's. -/
theorem both_step {w w1 w2 : World} {b r x y : Nat} {s s' : PS} (h : Both w b r x y s) (h1 : PoolTo w w1 b r s') (h2 : RefTo w1 w2 x y s') : BothTo w w2 b r x y s' := by
  obtain ⟨a1, a2, a3, a4⟩ := apart h.p h.q
  refine ⟨⟨h1.1.keep h2.2 (fun e => e.elim a1 a2) (fun e => e.elim a3 a4), h2.1⟩, h1.2.trans h2.2 (fun _ _ h => .inl h) (fun _ _ h => .inr h)⟩
theorem both_mid {w w1 : World} {b r x y : Nat} {s s' : PS} (h : Both w b r x y s) (h1 : PoolTo w w1 b r s') : RefAt w1 x y s := by
  obtain ⟨a1, a2, a3, a4⟩ := apart h.p h.q
  exact h.q.keep h1.2 (fun e => e.elim (fun e => a1 e.symm) (fun e => a3 e.symm)) (fun e => e.elim (fun e => a2 e.symm) (fun e => a4 e.symm))

theorem errno_eq {o1 o2 : Operand} {a b : Int} {t : TypeId} {w : World} : binS Try.prog .eql t o1 o2 (n64 a) (n64 b) w = .ret (.bool (decide (a = b)), w) := by simp

theorem bool_eqq {o1 o2 : Operand} {a b : Bool} {w : World} : binS Try.prog .eql 4 o1 o2 (.bool a) (.bool b) w = .ret (.bool (a == b), w) := by
  have hf : binFit Try.prog .eql 4 (.bool a) (.bool b) = true := by
    have : eqTy Try.prog 5 4 = true := by kernel_rfl
    simp [binFit, this, eqFit]
  unfold binS
  simp only [hf, if_true]
  rw [eqGuard_none _ _ _ _ _ _ (fun _ h => by cases h) (fun h => by cases h)]
  simp only [Sem.run_bind, Sem.run_pure, Result.andThen, binOp, Op.equal, Op.maxDepth, run_equalIn_bool' w 9999 4 a b Try.underlying4, ofRun]

theorem run38 {K : Kont} {fuel : Nat} (hA : Api K) {w : World} {b r x y : Nat} {s : PS} (h : Both w b r x y s) (hs : s.ok) (a : ActP) : wpGFn Try.prog K fuel 38 g38 #[pt b, pt x, .agg a.cells] w fun v w' => v = .bool true ∧ BothTo w w' b r x y (stepA s a) := by
  rw [gfn_start]
  have k0 : Keeps w (World.push w (.cells a.cells 63)) (fun _ => False) := Keeps.push _ _ _
  have hb0 : cellsOf? (World.push w (.cells a.cells 63)) w.heap.size = some (#[n64 a.k, n64 a.f, n64 a.n, .bool a.yes], 63, (0, 0)) := by simp [ActP.cells]
  have h0 : Both (World.push w (.cells a.cells 63)) b r x y s := ⟨h.p.keep k0 (fun h => h) (fun h => h), h.q.keep k0 (fun h => h) (fun h => h)⟩
  have hlt := h.p.blt
  have hlr := h.p.rlt
  have key : ∀ {w1 : World} {s' : PS}, PoolTo (World.push w (.cells a.cells 63)) w1 b r s' → cellsOf? w1 w.heap.size = some (#[n64 a.k, n64 a.f, n64 a.n, .bool a.yes], 63, (0, 0)) ∧ RefAt w1 x y s ∧ ∀ {w2 : World}, RefTo w1 w2 x y s' → BothTo w w2 b r x y s' := by
    intro w1 s' h1
    refine ⟨h1.2.cells hb0 (fun e => e.elim (fun e => by omega) (fun e => by omega)), both_mid h0 h1, fun h2 => ?_⟩
    obtain ⟨g1, g2⟩ := both_step h0 h1 h2
    exact ⟨g1, k0.trans g2 (fun _ _ h => h.elim) (fun _ _ h => h)⟩
  generalize hw0 : World.push w (.cells a.cells 63) = w0 at *
  by_cases c0 : a.k = 0
  · simp -implicitDefEqProofs [g38, hw0, hb0, c0]
    refine valA_of (hA.grow h0.p hs a.f) (fun v w1 hq => ?_)
    obtain ⟨hv, h1⟩ := hq
    simp only at hv h1
    obtain ⟨hb1, hr1, hfin⟩ := key h1
    subst hv
    simp -implicitDefEqProofs [hb1]
    refine valA_of (hA.rgrow hr1 hs a.f) (fun v w2 hq => ?_)
    obtain ⟨hv, h2⟩ := hq
    simp only at hv h2
    subst hv
    simp -implicitDefEqProofs [stepA, c0]
    exact hfin h2
  · by_cases c1 : a.k = 1
    · simp -implicitDefEqProofs [g38, hw0, hb0, c1]
      refine valA_of (hA.grow h0.p hs a.f) (fun v w1 hq => ?_)
      obtain ⟨hv, h1⟩ := hq
      simp only at hv h1
      obtain ⟨hb1, hr1, hfin⟩ := key h1
      subst hv
      simp -implicitDefEqProofs [hb1]
      refine valA_of (hA.rgrow hr1 hs a.f) (fun v w2 hq => ?_)
      obtain ⟨hv, h2⟩ := hq
      simp only at hv h2
      subst hv
      simp -implicitDefEqProofs [stepA, c1]
      exact hfin h2
    · by_cases c2 : a.k = 2
      · simp -implicitDefEqProofs [g38, hw0, hb0, c2]
        refine valA_of (hA.shrink h0.p hs) (fun v w1 hq => ?_)
        obtain ⟨hv, h1⟩ := hq
        simp only at hv h1
        obtain ⟨hb1, hr1, hfin⟩ := key h1
        subst hv
        simp -implicitDefEqProofs [hb1]
        refine valA_of (hA.rshrink hr1 hs) (fun v w2 hq => ?_)
        obtain ⟨hv, h2⟩ := hq
        simp only at hv h2
        subst hv
        simp -implicitDefEqProofs [stepA, c2]
        exact hfin h2
      · by_cases c3 : a.k = 3
        · simp -implicitDefEqProofs [g38, hw0, hb0, c3]
          refine valA_of (hA.promise h0.p hs a.n) (fun v w1 hq => ?_)
          obtain ⟨hv, h1⟩ := hq
          simp only at hv h1
          obtain ⟨hb1, hr1, hfin⟩ := key h1
          subst hv
          simp -implicitDefEqProofs [hb1]
          refine valA_of (hA.rpromise hr1 hs a.n) (fun v w2 hq => ?_)
          obtain ⟨hv, h2⟩ := hq
          simp only at hv h2
          subst hv
          simp -implicitDefEqProofs [stepA, c3]
          exact hfin h2
        · by_cases c4 : a.k = 4
          · simp -implicitDefEqProofs [g38, hw0, hb0, c4]
            refine valA_of (hA.unpromise h0.p hs a.n) (fun v w1 hq => ?_)
            obtain ⟨hv, h1⟩ := hq
            simp only at hv h1
            obtain ⟨hb1, hr1, hfin⟩ := key h1
            subst hv
            simp -implicitDefEqProofs [hb1]
            refine valA_of (hA.runpromise hr1 hs a.n) (fun v w2 hq => ?_)
            obtain ⟨hv, h2⟩ := hq
            simp only at hv h2
            subst hv
            simp -implicitDefEqProofs [stepA, c4]
            exact hfin h2
          · by_cases c5 : a.k = 5
            · simp -implicitDefEqProofs [g38, hw0, hb0, c5]
              refine valA_of (hA.take h0.p hs a.yes) (fun v w1 hq => ?_)
              obtain ⟨hv, h1⟩ := hq
              simp only at hv h1
              obtain ⟨hb1, hr1, hfin⟩ := key h1
              subst hv
              simp -implicitDefEqProofs [hb1]
              refine valA_of (hA.rtake hr1 hs a.yes) (fun v w2 hq => ?_)
              obtain ⟨hv, h2⟩ := hq
              simp only at hv h2
              subst hv
              simp -implicitDefEqProofs [stepA, c5]
              exact hfin h2
            · by_cases c6 : a.k = 6
              · simp -implicitDefEqProofs [g38, hw0, hb0, c6]
                refine valA_of (hA.take h0.p hs a.yes) (fun v w1 hq => ?_)
                obtain ⟨hv, h1⟩ := hq
                simp only at hv h1
                obtain ⟨hb1, hr1, hfin⟩ := key h1
                subst hv
                simp -implicitDefEqProofs [hb1]
                refine valA_of (hA.rtake hr1 hs a.yes) (fun v w2 hq => ?_)
                obtain ⟨hv, h2⟩ := hq
                simp only at hv h2
                subst hv
                simp -implicitDefEqProofs [stepA, c6]
                exact hfin h2
              · by_cases c7 : a.k = 7
                · simp -implicitDefEqProofs [g38, hw0, hb0, c7]
                  refine valA_of (hA.extra h0.p hs a.f) (fun v w1 hq => ?_)
                  obtain ⟨hv, h1⟩ := hq
                  simp only at hv h1
                  obtain ⟨hb1, hr1, hfin⟩ := key h1
                  subst hv
                  simp -implicitDefEqProofs [hb1]
                  refine valA_of (hA.rextra hr1 hs a.f) (fun v w2 hq => ?_)
                  obtain ⟨hv, h2⟩ := hq
                  simp only at hv h2
                  subst hv
                  simp -implicitDefEqProofs [stepA, c7]
                  exact hfin h2
                · simp -implicitDefEqProofs [g38, hw0, hb0, c0, c1, c2, c3, c4, c5, c6, c7]
                  refine valA_of (hA.give h0.p hs a.f a.yes) (fun v w1 hq => ?_)
                  obtain ⟨hv, h1⟩ := hq
                  simp only at hv h1
                  obtain ⟨hb1, hr1, hfin⟩ := key h1
                  subst hv
                  simp -implicitDefEqProofs [hb1]
                  refine valA_of (hA.rgive hr1 hs a.f a.yes) (fun v w2 hq => ?_)
                  obtain ⟨hv, h2⟩ := hq
                  simp only at hv h2
                  subst hv
                  simp -implicitDefEqProofs [stepA, c0, c1, c2, c3, c4, c5, c6, c7, bool_eqq]
                  exact hfin h2
end Go.Proofs.Ytkplodhjceieeaa
