/-
  Rmap: both behind some calls.
-/
import Derived.Test.YtcfhhfdkecbphaaRo
namespace Go.Proofs.Ytcfhhfdkecbphaa
open Go Go.Ideal

theorem nilNe {P : Program} {t : TypeId} {o1 o2 : Operand} {p : Option Addr} {w : World} (hu : P.underlying t = some (.pointer (P.pointee t))) (he : eqTy P 5 t = true) : binS P .neq t o1 o2 (.pointer p) (.pointer none) w = .ret (.bool (!p.isNone), w) := by
  have hf : binFit P .neq t (.pointer p) (.pointer none) = true := by cases p <;> simp [binFit, he, eqFit]
  unfold binS
  simp only [hf, if_true]
  rw [eqGuard_none _ _ _ _ _ _ (fun _ h => by cases h) (fun h => by cases h)]
  have h1 := run_eql_pointer_nil w t p hu
  have h2 : (binOp .neq t (.pointer p) (.pointer none)).run P w = .ok (.bool (!p.isNone)) w := by
    simp only [binOp] at h1 ⊢
    rw [Sem.run_bind] at h1 ⊢
    cases hr : (Op.equal t (.pointer p) (.pointer none)).run P w with
    | halt a b => rw [hr] at h1; cases h1
    | ok v w2 =>
      rw [hr] at h1
      simp only [Result.andThen, Sem.run_pure, Result.ok.injEq, Value.bool.injEq] at h1 ⊢
      exact ⟨by rw [h1.1], h1.2⟩
  simp only [Sem.run_bind, Sem.run_pure, Result.andThen, h2, ofRun]
theorem nilN39 {o1 o2 : Operand} {p : Option Addr} {w : World} : binS Try.prog .neq 39 o1 o2 (.pointer p) (.pointer none) w = .ret (.bool (!p.isNone), w) := nilNe (by kernel_rfl) (by kernel_rfl)

/-- What nobody writes stays. -/
def KeepX (w w' : World) : Prop := w.heap.size ≤ w'.heap.size ∧ ∀ j c e fz, cellsOf? w j = some (c, e, fz) → (fz ≠ (0, 0) ∨ e = 29) → cellsOf? w' j = some (c, e, fz)
theorem KeepX.refl (w : World) : KeepX w w := ⟨Nat.le_refl _, fun _ _ _ _ h _ => h⟩
theorem KeepX.trans {a b c : World} (h : KeepX a b) (k : KeepX b c) : KeepX a c := ⟨Nat.le_trans h.1 k.1, fun j c e fz h1 h2 => k.2 j c e fz (h.2 j c e fz h1 h2) h2⟩
theorem KeepT.x {w w' : World} (h : KeepT w w') : KeepX w w' := ⟨h.1, fun j c e fz h1 h2 => h.2 j c e fz h1 fun h e27 => h2.elim (fun g => g h) fun g => by rw [g] at e27; exact absurd e27 (by decide)⟩
theorem KeepX.new {w w' : World} (h : Keeps w w' (fun _ => False)) : KeepX w w' := (KeepT.of0 h).x
theorem ActsR.keepX {w w' : World} {v : Value} {xs : List ActR} (h : ActsR w v xs) (hk : KeepX w w') : ActsR w' v xs := by
  obtain ⟨vb, vc, hv, h⟩ := h
  refine ⟨vb, vc, hv, fun i hi => ?_⟩
  obtain ⟨b, o, c, e, fz, h1, h2, h3, h4⟩ := h i hi
  exact ⟨b, o, c, e, fz, h1, hk.2 _ _ _ _ h2 (.inl h3), h3, h4⟩
theorem DTo.x {w w' : World} {x : Nat} {L L' : List On} (h : DocAt w x L) (hd : DTo w w' x L') : KeepX w w' := ⟨hd.2.1, fun j c e fz hc hn => hd.2.cells hc fun e2 => by
  subst e2
  obtain ⟨v, h1, _⟩ := h
  rw [h1] at hc
  simp only [Option.some.injEq, Prod.mk.injEq] at hc
  exact hn.elim (fun g => g hc.2.2.symm) fun g => by rw [g] at hc; exact absurd hc.2.1 (by decide)⟩

structure Both (w : World) (b r x : Nat) (L : List On) : Prop where
  prog : ∃ m, MpAt w b r m L
  doc : DocAt w x L
theorem MpAt.keepD {w w' : World} {b r x : Nat} {m : MapL} {L M : List On} (h : MpAt w b r m L) (hx : DocAt w x M) (hk : Keeps w w' (fun j => j = x)) : MpAt w' b r m L := by
  obtain ⟨v, h1, _⟩ := hx
  refine h.keep hk (fun e => ?_) (fun e => ?_) (fun f u j hu hj e => ?_)
  · have := h.cell; rw [e, h1] at this
    simp at this
  · have := h.map.nocells; rw [e, h1] at this; cases this
  · obtain ⟨c, hc⟩ := rowTag (h.row f u hu) hj
    rw [e, h1] at hc
    simp [ESp] at hc
theorem Both.keep {w w' : World} {b r x : Nat} {L : List On} (h : Both w b r x L) (hk : Keeps w w' (fun _ => False)) : Both w' b r x L := by
  obtain ⟨⟨m, h1⟩, h2⟩ := h
  exact ⟨⟨m, h1.keep0 hk⟩, h2.keep hk⟩
/-- Both move. -/
theorem Both.go {w w1 w2 : World} {b r x : Nat} {L M : List On} (h : Both w b r x L) (h1 : RTo w w1 b r M) (h2 : DTo w1 w2 x M) : Both w2 b r x M ∧ KeepX w w2 := by
  obtain ⟨⟨m1, hm1⟩, hk1⟩ := h1
  have hd1 := h.doc.keepT hk1
  exact ⟨⟨⟨m1, hm1.keepD hd1 h2.2⟩, h2.1⟩, hk1.x.trans (h2.x hd1)⟩

theorem veqSp (s p : Int) : Ideal.veq 4 (.agg #[.int .i64 s, .int .i64 p]) (.agg #[.int .i64 s, .int .i64 p]) = true := by simp [Ideal.veq]

structure Two (K : Kont) : Prop where
  m : Maps K
  d : Docs K

theorem run20 {K : Kont} {fuel : Nat} (hK : Two K) {w : World} {b r x n : Nat} {L : List On} (h : Both w b r x L) (hok : Ok L n) (hn : n ≤ 80000) (a : ActR) : wpGFn Try.prog K fuel 20 g20 #[pt b, pt x, .agg a.cells] w fun z w' => z = .bool true ∧ Both w' b r x (stepR L a) ∧ KeepX w w' := by
  rw [gfn_start]
  obtain ⟨k, f, t, s, p⟩ := a
  have hLn := hok.len
  have hkb : Keeps w (World.push w (.cells #[.int .i64 k, .int .i64 f, .int .i64 t, .int .i64 s, .int .i64 p] 29)) (fun _ => False) := Keeps.push _ _ _
  have hb : cellsOf? (World.push w (.cells #[.int .i64 k, .int .i64 f, .int .i64 t, .int .i64 s, .int .i64 p] 29)) w.heap.size = some (#[.int .i64 k, .int .i64 f, .int .i64 t, .int .i64 s, .int .i64 p], 29, (0, 0)) := by simp
  have hB1 := h.keep hkb
  have fin : ∀ {w2 w3 : World} {M : List On}, RTo (World.push w (.cells #[.int .i64 k, .int .i64 f, .int .i64 t, .int .i64 s, .int .i64 p] 29)) w2 b r M → DTo w2 w3 x M → Both w3 b r x M ∧ KeepX w w3 := fun h1 h2 => by
    obtain ⟨g1, g2⟩ := hB1.go h1 h2
    exact ⟨g1, (KeepX.new hkb).trans g2⟩
  obtain ⟨m, hm⟩ := hB1.prog
  by_cases k3 : k = 3
  · subst k3
    simp -implicitDefEqProofs [g20]
    generalize World.push w (.cells #[.int .i64 3, .int .i64 f, .int .i64 t, .int .i64 s, .int .i64 p] 29) = w1 at *
    refine valA_of (hK.m.del hm hok.srt (by omega) f (s, p)) (fun u w2 hq => ?_)
    obtain ⟨hu, hr2⟩ := hq
    simp only at hu hr2
    subst hu
    have hb2 := hr2.2.2 _ _ _ _ hb (fun _ => by decide)
    simp -implicitDefEqProofs [hb2, veqSp]
    refine valA_of (hK.d.d.del (hB1.doc.keepT hr2.2) (by omega) f (s, p)) (fun u w3 hq => ?_)
    obtain ⟨hu, hd3⟩ := hq
    simp only at hu hd3
    subst hu
    simp -implicitDefEqProofs [stepR, ansR]
    exact fin hr2 hd3
  · by_cases k012 : k = 0 ∨ k = 1 ∨ k = 2
    · have hst : stepR L ⟨k, f, t, s, p⟩ = (addA L f (s, p)).2 := by simp only [stepR, ansR, if_pos k012]
      rw [hst]
      rcases k012 with k0 | k0 | k0
      all_goals
        subst k0
        simp -implicitDefEqProofs [g20]
        generalize World.push w _ = w1 at *
        refine valA_of (hK.m.add hm hok.srt (by omega) f (s, p)) (fun u w2 hq => ?_)
        obtain ⟨hu, hr2⟩ := hq
        simp only at hu hr2
        subst hu
        have hb2 := hr2.2.2 _ _ _ _ hb (fun _ => by decide)
        simp -implicitDefEqProofs [hb2, veqSp]
        refine valA_of (hK.d.d.add (hB1.doc.keepT hr2.2) (by omega) f (s, p)) (fun u w3 hq => ?_)
        obtain ⟨hu, hd3⟩ := hq
        simp only at hu hd3
        subst hu
        simp -implicitDefEqProofs
        exact fin hr2 hd3
    · have k0 : ¬ k = 0 := fun h => k012 (.inl h)
      have k1 : ¬ k = 1 := fun h => k012 (.inr (.inl h))
      have k2 : ¬ k = 2 := fun h => k012 (.inr (.inr h))
      have hst : stepR L ⟨k, f, t, s, p⟩ = (moveA L f t).2 := by simp only [stepR, ansR, if_neg k012, if_neg k3]
      rw [hst]
      simp -implicitDefEqProofs [g20, k0, k1, k2, k3]
      generalize World.push w _ = w1 at *
      refine valA_of (hK.m.move hm hok.srt f t) (fun u w2 hq => ?_)
      obtain ⟨hu, hm2, hkr⟩ := hq
      simp only at hu hm2 hkr
      subst hu
      have hkt : KeepT w1 w2 := hm.keepT (f := 0) (hkr.mono fun j _ h => .inl h)
      have hr2 : RTo w1 w2 b r (moveA L f t).2 := ⟨hm2, hkt⟩
      have hb2 := hr2.2.2 _ _ _ _ hb (fun _ => by decide)
      simp -implicitDefEqProofs [hb2, veqSp]
      refine valA_of (hK.d.move (hB1.doc.keepT hr2.2) hok (by omega) f t) (fun u w3 hq => ?_)
      obtain ⟨hu, hd3⟩ := hq
      simp only at hu hd3
      subst hu
      simp -implicitDefEqProofs
      exact fin hr2 hd3

def madeL (xs : List ActR) : List On := (xs.take 80).foldl stepR []
theorem fold_ok : ∀ (xs : List ActR) {L : List On} {n : Nat}, Ok L n → Ok (xs.foldl stepR L) (n + xs.length)
  | [], _, _, h => h
  | a :: xs, L, n, h => by
    have := fold_ok xs (h.step a)
    rw [List.length_cons, show n + (xs.length + 1) = n + 1 + xs.length by omega]
    exact this
theorem ok_nil : Ok [] 0 := ⟨.nil, fun o h => (by cases h), Nat.le_refl _⟩
theorem Ok.mono {L : List On} {n m : Nat} (h : Ok L n) (hm : n ≤ m) : Ok L m := ⟨h.srt, h.rng, Nat.le_trans h.len hm⟩
theorem take_ok (xs : List ActR) {q : Nat} (hq : q ≤ 80) : Ok ((xs.take q).foldl stepR []) 80 := (fold_ok (xs.take q) ok_nil).mono (by rw [List.length_take]; omega)
theorem madeL_ok (xs : List ActR) : Ok (madeL xs) 80 := take_ok xs (Nat.le_refl _)
theorem take_end (xs : List ActR) {q : Nat} (h : ¬ (q < xs.length ∧ q < 80)) (h1 : q ≤ xs.length) (h2 : q ≤ 80) : xs.take q = xs.take 80 := by
  by_cases e : q = 80
  · rw [e]
  · have : q = xs.length := by omega
    subst this
    rw [List.take_length, List.take_of_length_le (by omega)]

structure Top (K : Kont) : Prop where
  t : Two K
  do_ : ∀ {w : World} {b r x n : Nat} {L : List On}, Both w b r x L → Ok L n → n ≤ 80000 → ∀ a : ActR, (K.enter 20 #[pt b, pt x, .agg a.cells] w).all fun z => z.1 = .bool true ∧ Both z.2 b r x (stepR L a) ∧ KeepX w z.2

theorem run15 {K : Kont} {fuel : Nat} (hK : Top K) (hf : 2000000 ≤ fuel) {w : World} {v : Value} {xs : List ActR} (hv : ActsR w v xs) : wpGFn Try.prog K fuel 15 g15 #[v] w fun z w' => ∃ b r x, z = .tuple #[pt b, pt x, .bool true] ∧ Both w' b r x (madeL xs) ∧ KeepX w w' := by
  rw [gfn_start]
  simp -implicitDefEqProofs [g15]
  refine valA_of (hK.t.m.new w) (fun u w1 hq => ?_)
  obtain ⟨b, r, hu, hp1, hk1⟩ := hq
  simp only at hu hp1 hk1
  subst hu
  simp -implicitDefEqProofs [nil23, fillS, Instr.fill]
  have hkb : Keeps w1 (World.push w1 (.cells #[.slice none 0 0] 60)) (fun _ => False) := Keeps.push _ _ _
  have hB : Both (World.push w1 (.cells #[.slice none 0 0] 60)) b r w1.heap.size [] := ⟨⟨_, hp1.keep0 hkb⟩, _, by simp, RowE.nil _⟩
  have hx : KeepX w (World.push w1 (.cells #[.slice none 0 0] 60)) := (KeepX.new hk1).trans (KeepX.new hkb)
  generalize World.push w1 (.cells #[.slice none 0 0] 60) = w2 at *
  generalize w1.heap.size = x at *
  refine loop_go (fun i ρ w' => ∃ q : Nat, i = 80 - q ∧ q ≤ 80 ∧ q ≤ xs.length ∧ ρ 0 = v ∧ ρ 5 = pt b ∧ ρ 6 = pt x ∧ ρ 7 = n64 q ∧ Both w' b r x ((xs.take q).foldl stepR []) ∧ KeepX w w') ?_ (i := 80) ?_ (by show 80 < fuel; omega)
  · rintro i ρ w' ⟨q, rfl, hq, hql, e0, e5, e6, e7, hB', hx'⟩
    have hv' := hv.keepX hx'
    have x1 : IntKind.i64.wrap ((q : Int) + 1) = (q : Int) + 1 := by rw [IntKind.wrap_i64]; omega
    by_cases h1 : q < xs.length ∧ q < 80
    · obtain ⟨h1, h2⟩ := h1
      have h1' : (q : Int) < xs.length := by omega
      have h2' : (q : Int) < 80 := by omega
      obtain ⟨bb, o, cap, c, e, fz, hve, hc, hsz, hext, _⟩ := hv'.at h1
      have hfold : (xs.take (q + 1)).foldl stepR [] = stepR ((xs.take q).foldl stepR []) xs[q] := by
        rw [List.take_succ_eq_append_getElem h1, List.foldl_append]; rfl
      simp -implicitDefEqProofs [e0, e5, e6, e7, h1', h2', hve, hc, hsz, hext, h1]
      refine valA_of (hK.do_ hB' (take_ok xs hq) (by omega) xs[q]) (fun u w3 hq3 => ?_)
      obtain ⟨hu, hB3, hx3⟩ := hq3
      simp only at hu hB3 hx3
      subst hu
      simp -implicitDefEqProofs [e0, e5, e6, e7, x1]
      refine ⟨80 - (q + 1), by omega, q + 1, rfl, by omega, h1, hve, by omega, ?_, hx'.trans hx3⟩
      rw [hfold]; exact hB3
    · have he := take_end xs h1 hql hq
      have hB2 : Both w' b r x (madeL xs) := by unfold madeL; rw [← he]; exact hB'
      by_cases h1 : q < xs.length
      · have h2 : q = 80 := by omega
        subst h2
        have h1' : (80 : Int) < xs.length := by omega
        simp -implicitDefEqProofs [e0, e5, e6, e7, h1', hv'.len]
        exact ⟨b, r, x, ⟨rfl, rfl⟩, hB2, hx'⟩
      · have h1' : ¬ (q : Int) < xs.length := by omega
        simp -implicitDefEqProofs [e0, e5, e6, e7, h1', hv'.len]
        exact ⟨b, r, x, ⟨rfl, rfl⟩, hB2, hx'⟩
  · exact ⟨0, by simp, by omega, Nat.zero_le _, by simp, by simp, by simp, by simp, hB, hx⟩

theorem run21 {K : Kont} {fuel : Nat} (hK : Docs K) (hf : 2000000 ≤ fuel) {w : World} {v : Value} {xs : List ActR} (hv : ActsR w v xs) : wpGFn Try.prog K fuel 21 g21 #[v] w fun z w' => ∃ y, z = pt y ∧ DocAt w' y (madeL xs) ∧ Keeps w w' (fun _ => False) := by
  rw [gfn_start]
  simp -implicitDefEqProofs [g21, fillS, Instr.fill]
  have hkb : Keeps w (World.push w (.cells #[.slice none 0 0] 60)) (fun _ => False) := Keeps.push _ _ _
  have hD : DocAt (World.push w (.cells #[.slice none 0 0] 60)) w.heap.size [] := ⟨_, by simp, RowE.nil _⟩
  generalize World.push w (.cells #[.slice none 0 0] 60) = w1 at *
  refine loop_go (fun i ρ w' => ∃ q : Nat, i = 80 - q ∧ q ≤ 80 ∧ q ≤ xs.length ∧ ρ 0 = v ∧ ρ 3 = pt w.heap.size ∧ ρ 4 = n64 q ∧ DTo w1 w' w.heap.size ((xs.take q).foldl stepR [])) ?_ (i := 80) ?_ (by show 80 < fuel; omega)
  · rintro i ρ w' ⟨q, rfl, hq, hql, e0, e3, e4, hd⟩
    have hkw : Keeps w w' (fun _ => False) := hkb.trans hd.2 (fun _ _ h => h) (fun j hj h => by omega)
    have hv' := hv.keepX (KeepX.new hkw)
    have x1 : IntKind.i64.wrap ((q : Int) + 1) = (q : Int) + 1 := by rw [IntKind.wrap_i64]; omega
    by_cases h1 : q < xs.length ∧ q < 80
    · obtain ⟨h1, h2⟩ := h1
      have h1' : (q : Int) < xs.length := by omega
      have h2' : (q : Int) < 80 := by omega
      obtain ⟨bb, o, cap, c, e, fz, hve, hc, hsz, hext, c0, c1, c2, c3⟩ := hv'.at h1
      have hfold : (xs.take (q + 1)).foldl stepR [] = stepR ((xs.take q).foldl stepR []) xs[q] := by
        rw [List.take_succ_eq_append_getElem h1, List.foldl_append]; rfl
      have hok := take_ok xs hq
      generalize (xs.take q).foldl stepR [] = L at *
      have hLn := hok.len
      generalize xs[q] = a at *
      obtain ⟨k, f, t, s, p⟩ := a
      simp only at c0 c1 c2 c3
      have nx : ∀ (w3 : World), DTo w' w3 w.heap.size (stepR L ⟨k, f, t, s, p⟩) → DTo w1 w3 w.heap.size ((xs.take (q + 1)).foldl stepR []) := fun w3 h3 => by
        rw [hfold]; exact ⟨h3.1, hd.2.trans h3.2 (fun _ _ h => h) (fun _ _ h => h)⟩
      by_cases k3 : k = 3
      · subst k3
        simp -implicitDefEqProofs [e0, e3, e4, h1', h2', hve, hc, hsz, hext, h1, c0, c1, c2, c3]
        refine valA_of (hK.d.del hd.1 (by omega) f (s, p)) (fun u w3 hq3 => ?_)
        obtain ⟨hu, hr3⟩ := hq3
        simp only at hu hr3
        have := nx w3 (by simpa [stepR, ansR] using hr3)
        simp -implicitDefEqProofs [e0, e3, e4, x1]
        exact ⟨80 - (q + 1), by omega, q + 1, rfl, by omega, h1, hve, by omega, this⟩
      · by_cases k012 : k = 0 ∨ k = 1 ∨ k = 2
        · have hst : stepR L ⟨k, f, t, s, p⟩ = (addA L f (s, p)).2 := by simp only [stepR, ansR, if_pos k012]
          rw [hst] at nx
          rcases k012 with k0 | k0 | k0
          all_goals
            subst k0
            simp -implicitDefEqProofs [e0, e3, e4, h1', h2', hve, hc, hsz, hext, h1, c0, c1, c2, c3]
            refine valA_of (hK.d.add hd.1 (by omega) f (s, p)) (fun u w3 hq3 => ?_)
            obtain ⟨hu, hr3⟩ := hq3
            simp only at hu hr3
            have := nx w3 hr3
            simp -implicitDefEqProofs [e0, e3, e4, x1]
            exact ⟨80 - (q + 1), by omega, q + 1, rfl, by omega, h1, hve, by omega, this⟩
        · have k0 : ¬ k = 0 := fun h => k012 (.inl h)
          have k1 : ¬ k = 1 := fun h => k012 (.inr (.inl h))
          have k2 : ¬ k = 2 := fun h => k012 (.inr (.inr h))
          have hst : stepR L ⟨k, f, t, s, p⟩ = (moveA L f t).2 := by simp only [stepR, ansR, if_neg k012, if_neg k3]
          rw [hst] at nx
          simp -implicitDefEqProofs [e0, e3, e4, h1', h2', hve, hc, hsz, hext, h1, c0, c1, c2, c3, k0, k1, k2, k3]
          refine valA_of (hK.move hd.1 hok (by omega) f t) (fun u w3 hq3 => ?_)
          obtain ⟨hu, hr3⟩ := hq3
          simp only at hu hr3
          have := nx w3 hr3
          simp -implicitDefEqProofs [e0, e3, e4, x1]
          exact ⟨80 - (q + 1), by omega, q + 1, rfl, by omega, h1, hve, by omega, this⟩
    · have he := take_end xs h1 hql hq
      have hD2 : DocAt w' w.heap.size (madeL xs) := by unfold madeL; rw [← he]; exact hd.1
      by_cases h1 : q < xs.length
      · have h2 : q = 80 := by omega
        subst h2
        have h1' : (80 : Int) < xs.length := by omega
        simp -implicitDefEqProofs [e0, e3, e4, h1', hv'.len]
        exact ⟨hD2, hkw⟩
      · have h1' : ¬ (q : Int) < xs.length := by omega
        simp -implicitDefEqProofs [e0, e3, e4, h1', hv'.len]
        exact ⟨hD2, hkw⟩
  · exact ⟨0, by simp, by omega, Nat.zero_le _, by simp, by simp, by simp, hD, Keeps.refl _ _⟩

structure TopR (K : Kont) : Prop where
  t : Top K
  made : ∀ {w : World} {v : Value} {xs : List ActR}, ActsR w v xs → (K.enter 15 #[v] w).all fun z => ∃ b r x, z.1 = .tuple #[pt b, pt x, .bool true] ∧ Both z.2 b r x (madeL xs) ∧ KeepX w z.2
  made2 : ∀ {w : World} {v : Value} {xs : List ActR}, ActsR w v xs → (K.enter 21 #[v] w).all fun z => ∃ y, z.1 = pt y ∧ DocAt z.2 y (madeL xs) ∧ Keeps w z.2 (fun _ => False)

theorem twoM (m : Nat) (hm : 2000000 ≤ m) : Two (KM (m + 4)) := ⟨maps m hm, docsM (m + 1) (by omega)⟩
theorem topM (m : Nat) (hm : 2000000 ≤ m) : Top (KM (m + 5)) := ⟨twoM (m + 1) (by omega), fun h hok hn a => enter_okH (m := m + 4) low20 (m0 (by decide) (by decide) (by decide) (by decide)) (run20 (twoM m hm) h hok hn a)⟩
theorem topR (m : Nat) (hm : 2000000 ≤ m) : TopR (KM (m + 6)) where
  t := topM (m + 1) (by omega)
  made := fun hv => enter_okH (m := m + 5) low15 (m0 (by decide) (by decide) (by decide) (by decide)) (run15 (topM m hm) (by omega) hv)
  made2 := fun hv => enter_okH (m := m + 5) low21 (m0 (by decide) (by decide) (by decide) (by decide)) (run21 (docsM (m + 2) (by omega)) (by omega) hv)
end Go.Proofs.Ytcfhhfdkecbphaa
