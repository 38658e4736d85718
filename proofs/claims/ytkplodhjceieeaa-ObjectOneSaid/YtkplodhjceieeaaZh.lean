/-
  Objects: both behind some calls; ObjectNumbers.
-/
import Derived.Test.YtkplodhjceieeaaZg
namespace Go.Proofs.Ytkplodhjceieeaa
open Go Go.Ideal

def ActsO (w : World) (v : Value) (xs : List ActO) : Prop := Elems w v 5 (xs.map ActO.cells)
theorem ActsO.lenS {w w' : World} {v : Value} {xs : List ActO} (h : ActsO w v xs) : Ideal.lenS v w' = .ret (.int .i64 (xs.length : Int), w') := by
  obtain ⟨vb, vc, rfl, _⟩ := h
  simp [Ideal.lenS]
theorem ActsO.at {w : World} {v : Value} {xs : List ActO} (h : ActsO w v xs) {i : Nat} (hi : i < xs.length) : ∃ b o cap c e fz, v = .slice (some ⟨b, o, none⟩) xs.length cap ∧ cellsOf? w b = some (c, e, fz) ∧ o + i * 5 + 5 ≤ c.size ∧ c.extract (o + i * 5) (o + i * 5 + 5) = xs[i].cells := by
  obtain ⟨vb, vc, rfl, h2⟩ := h
  obtain ⟨b, o, c, e, fz, rfl, g2, g3, g4⟩ := h2 i (by simpa using hi)
  exact ⟨b, o, vc, c, e, fz, by simp, g2, g3, by simpa using g4⟩

noncomputable def runO (s : OS) : List ActO → OS
  | [] => s
  | a :: l => runO (stepO s a) l
theorem runO_ok : ∀ (l : List ActO) {s : OS} {B : Nat}, s.ok B → (runO s l).ok (B + l.length)
  | [], _, _, h => h
  | a :: l, s, B, h => by
    have := runO_ok l (stepO_ok h a)
    rw [List.length_cons, show B + (l.length + 1) = B + 1 + l.length by omega]
    exact this
theorem runO_snoc : ∀ (l : List ActO) (s : OS) (a : ActO), runO s (l ++ [a]) = stepO (runO s l) a
  | [], _, _ => rfl
  | b :: l, s, a => runO_snoc l (stepO s b) a
noncomputable def madeO (xs : List ActO) : OS := runO ⟨[], []⟩ (xs.take 60)
theorem ok0 : (⟨[], []⟩ : OS).ok 0 := ⟨by simp, by simp, fun o ho => by simp at ho, Nat.le_refl _, fun h hh => by simp at hh⟩
theorem made_ok (xs : List ActO) : (madeO xs).ok 60 := ok_mono (runO_ok (xs.take 60) ok0) (by simp; omega)

theorem run22 {K : Kont} {fuel : Nat} (hK : Objs K) (hD : ∀ {w : World} {b l r x : Nat} {s : OS} {B : Nat}, BothO w b l r x s → s.ok B → B ≤ 1000 → ∀ a : ActO, (K.enter 51 #[pt b, pt x, .agg a.cells] w).all fun z => z.1 = .bool true ∧ BothO z.2 b l r x (stepO s a) ∧ KeepZ w z.2) (hf : 4000 ≤ fuel) {w : World} {v : Value} {xs : List ActO} (hv : ActsO w v xs) (hz : Froz w v) :
    wpGFn Try.prog K fuel 22 g22 #[v] w fun u w' => ∃ b l r x, u = .tuple #[pt b, pt x, .bool true] ∧ BothO w' b l r x (madeO xs) ∧ KeepZ w w' := by
  rw [gfn_start]
  simp -implicitDefEqProofs [g22]
  refine valA_of (hK.new w) (fun u w1 hq => ?_)
  obtain ⟨b, l, r, hu, hp1, hk1⟩ := hq
  simp only at hu hp1 hk1
  subst hu
  have k2 : Keeps w1 (World.push w1 (.cells #[.slice none 0 0, .slice none 0 0] 40)) (fun _ => False) := Keeps.push _ _ _
  have hB : BothO (World.push w1 (.cells #[.slice none 0 0, .slice none 0 0] 40)) b l r w1.heap.size ⟨[], []⟩ := ⟨_, _, .slice none 0 0, .slice none 0 0, hp1.keep k2, ⟨by simp, RowE.nil _, RowE.nil _⟩⟩
  have hkw : KeepZ w (World.push w1 (.cells #[.slice none 0 0, .slice none 0 0] 40)) := (KeepT.of0 hk1).z.trans (KeepT.of0 k2).z
  simp -implicitDefEqProofs [fillS, Instr.fill, nil23]
  generalize World.push w1 (.cells #[.slice none 0 0, .slice none 0 0] 40) = w2 at *
  generalize w1.heap.size = x at *
  refine loop_go (fun i ρ w' => ∃ (q : Nat), i = 60 - q ∧ q ≤ 60 ∧ q ≤ xs.length ∧ ρ 0 = v ∧ ρ 5 = pt b ∧ ρ 6 = pt x ∧ ρ 7 = n64 q ∧ BothO w' b l r x (runO ⟨[], []⟩ (xs.take q)) ∧ KeepZ w w') ?_ (i := 60) ?_ (by show 60 < fuel; omega)
  · rintro i ρ w' ⟨q, rfl, hq, hql, e0, e5, e6, e7, hB', hk'⟩
    have hv' : ActsO w' v xs := elems_keepZ hv (by decide) hz hk'
    have w1 : IntKind.i64.wrap ((q : Int) + 1) = (q : Int) + 1 := by rw [IntKind.wrap_i64]; omega
    have hok : (runO ⟨[], []⟩ (xs.take q)).ok 60 := ok_mono (runO_ok (xs.take q) ok0) (by simp; omega)
    by_cases h1 : q < xs.length
    · have h1' : (q : Int) < xs.length := by omega
      by_cases h2 : q < 60
      · have h2' : (q : Int) < 60 := by omega
        obtain ⟨bb, o, cap, c, e, fz, hve, hc, hsz, hext⟩ := hv'.at h1
        simp -implicitDefEqProofs [e0, e5, e6, e7, hv'.lenS, h1', h2', hve, hc, hsz, hext, h1]
        refine valA_of (hD hB' hok (by omega) xs[q]) (fun u w3 hq3 => ?_)
        obtain ⟨hu, hB3, hk3⟩ := hq3
        simp only at hu hB3 hk3
        subst hu
        simp -implicitDefEqProofs [e7, w1]
        refine ⟨60 - (q + 1), by omega, q + 1, rfl, by omega, h1, by rw [e0, hve], e5, e6, by omega, ?_, hk'.trans hk3⟩
        rw [List.take_succ_eq_append_getElem h1, runO_snoc]
        exact hB3
      · have : q = 60 := by omega
        subst this
        have h5 : (60 : Int) < xs.length := by omega
        simp -implicitDefEqProofs [e0, e5, e6, e7, hv'.lenS, h5]
        exact ⟨b, l, r, x, ⟨rfl, rfl⟩, hB', hk'⟩
    · have h1' : ¬ (q : Int) < xs.length := by omega
      have hqe : q = xs.length := by omega
      simp -implicitDefEqProofs [e0, e5, e6, e7, hv'.lenS, h1']
      refine ⟨b, l, r, x, ⟨rfl, rfl⟩, ?_, hk'⟩
      have : xs.take 60 = xs.take q := by rw [List.take_of_length_le (by omega), List.take_of_length_le (by omega)]
      unfold madeO
      rw [this]; exact hB'
  · exact ⟨0, rfl, by omega, Nat.zero_le _, by simp, by simp, by simp, by simp, hB, hkw⟩

structure TopO (K : Kont) : Prop where
  o : Objs K
  r : Refs K
  both : ∀ {w : World} {b l r x : Nat} {s : OS} {B : Nat}, BothO w b l r x s → s.ok B → B ≤ 1000 → ∀ a : ActO, (K.enter 51 #[pt b, pt x, .agg a.cells] w).all fun z => z.1 = .bool true ∧ BothO z.2 b l r x (stepO s a) ∧ KeepZ w z.2
  made : ∀ {w : World} {v : Value} {xs : List ActO}, ActsO w v xs → Froz w v → (K.enter 22 #[v] w).all fun z => ∃ b l r x, z.1 = .tuple #[pt b, pt x, .bool true] ∧ BothO z.2 b l r x (madeO xs) ∧ KeepZ w z.2
theorem topO (m : Nat) (hm : 4000 ≤ m) : TopO (KO (m + 6)) where
  o := objs (m + 2) (by omega)
  r := refs (m + 3) (by omega)
  both := fun h hs hB a => enter_okH (m := m + 5) low51 (o0 (by decide) (by decide)) (run51 (objs (m + 1) (by omega)) (refs (m + 2) (by omega)) h hs hB a)
  made := fun hv hz => enter_okH (m := m + 5) low22 (o0 (by decide) (by decide)) (run22 (objs (m + 1) (by omega)) (fun h hs hB a => enter_okH (m := m + 4) low51 (o0 (by decide) (by decide)) (run51 (objs m hm) (refs (m + 1) (by omega)) h hs hB a)) (by omega) hv hz)

theorem len_gone (s : OS) : lenA (goneL (makeA s) s.held.length) = lenA s ∧ (goneL (makeA s) s.held.length).held.length = s.held.length + 1 := by
  have hl : (goneL (makeA s) s.held.length).held.length = s.held.length + 1 := by simp [goneL, makeA]
  have h0 : 0 < heldA (makeA s) s.held.length := by rw [held_make, if_pos rfl]; decide
  refine ⟨?_, hl⟩
  unfold lenA
  rw [hl, lenN, held_gone h0, if_pos rfl, if_neg (by omega), Nat.add_zero]
  congr 1
  apply List.filter_congr
  intro i hi
  have hi := List.mem_range.1 hi
  rw [held_gone h0, if_neg (by omega), held_make, if_neg (by omega)]

theorem run4 {K : Kont} {fuel : Nat} (hT : TopO K) (hf : 4000 ≤ fuel) {w : World} {v : Value} {xs : List ActO} (hv : ActsO w v xs) (hz : Froz w v) : wpGFn Try.prog K fuel 4 g4 #[v] w fun u _ => u = .bool true := by
  rw [gfn_start]
  simp -implicitDefEqProofs [g4]
  refine valA_of (hT.made hv hz) (fun u w1 hq => ?_)
  obtain ⟨b, l, r, x, hu, hB1, _⟩ := hq
  simp only at hu hB1
  subst hu
  have hs := made_ok xs
  generalize madeO xs = s at *
  obtain ⟨pb, pf, vh, vl, hp, hq⟩ := hB1
  simp -implicitDefEqProofs
  refine valA_of (hT.o.awake _) (fun u w2 hq2 => ?_)
  obtain ⟨hu, hw⟩ := hq2
  simp only at hu hw
  subst hu hw
  have hlen := hs.len
  simp -implicitDefEqProofs [hq.cell, hq.held.lenS]
  refine loop_go (fun i ρ w' => ∃ (q : Nat) (sP : OS) (pb pf : Int → Nat), i = 3 - q ∧ q ≤ 3 ∧ ObjAt w' b l r pb pf sP ∧ sP.ok (60 + q) ∧ sP.held.length = s.held.length + q ∧ lenA sP = lenA s ∧ RefO w' x vh vl s ∧ ρ 3 = pt b ∧ ρ 4 = pt x ∧ ρ 6 = n64 s.held.length ∧ ρ 7 = n64 q) ?_ (i := 3) ?_ (by show 3 < fuel; omega)
  · rintro i ρ w' ⟨q, sP, pb, pf, rfl, hq3, hp', hsP, hlP, hnP, hr', e3, e4, e6, e7⟩
    have w1 : IntKind.i64.wrap ((q : Int) + 1) = (q : Int) + 1 := by rw [IntKind.wrap_i64]; omega
    have wn : IntKind.i64.wrap ((s.held.length : Int) + q) = (s.held.length : Int) + q := by rw [IntKind.wrap_i64]; omega
    by_cases hlt : q < 3
    · have hlt' : (q : Int) < 3 := by omega
      simp -implicitDefEqProofs [e3, e7, hlt']
      refine valA_of (hT.o.make hp' hsP (by omega)) (fun u w3 hq3 => ?_)
      obtain ⟨hu, ⟨x1, y1, hp3⟩, hk3⟩ := hq3
      simp only at hu hp3 hk3
      subst hu
      have hid : (sP.held.length : Int) = (s.held.length : Int) + q := by omega
      have hs3 := make_ok hsP
      simp -implicitDefEqProofs [e3, e6, e7, wn, hid]
      rw [← hid]
      refine valA_of (hT.o.drop hp3 hs3 (by omega) sP.held.length) (fun u w4 hq4 => ?_)
      obtain ⟨vr, hu, _, _, hp4, hk4⟩ := hq4
      simp only at hu hp4 hk4
      subst hu
      have hhm : heldA (makeA sP) sP.held.length = 1 := by rw [held_make, if_pos rfl]
      have hd : (dropO (makeA sP) sP.held.length).2 = goneL (makeA sP) sP.held.length := by
        unfold dropO
        rw [hhm, if_neg (by omega), if_neg (by omega)]
      rw [hd] at hp4
      obtain ⟨g1, g2⟩ := len_gone sP
      have hg := gone_ok hs3 (id := sP.held.length) (by rw [hhm]; decide)
      simp -implicitDefEqProofs [e7, w1]
      exact ⟨3 - (q + 1), by omega, q + 1, rfl, by omega, goneL (makeA sP) sP.held.length, ⟨_, _, hp4⟩, ok_mono hg (by omega), by rw [g2]; omega, by rw [g1]; exact hnP, (hr'.keepT hk3).keepT hk4, e3, e4, e6, by omega⟩
    · have hqe : q = 3 := by omega
      subst hqe
      simp -implicitDefEqProofs [e3, e7]
      refine valA_of (hT.o.len hp') (fun u w3 hq3 => ?_)
      obtain ⟨hu, hw⟩ := hq3
      simp only at hu hw
      subst hu hw
      simp -implicitDefEqProofs [e4]
      refine valA_of (hT.r.len hr' hs (by omega)) (fun u w4 hq4 => ?_)
      obtain ⟨hu, hw⟩ := hq4
      simp only at hu hw
      subst hu hw
      simp -implicitDefEqProofs [hnP]
  · exact ⟨0, s, pb, pf, rfl, by omega, hp, hs, by omega, rfl, hq, by simp, by simp, by simp, by simp⟩
end Go.Proofs.Ytkplodhjceieeaa
