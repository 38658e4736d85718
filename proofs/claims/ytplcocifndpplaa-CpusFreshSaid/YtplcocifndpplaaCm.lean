/-
  Processors: the document's Flush, End, Behind, Quiet, New.
-/
import Derived.Test.YtplcocifndpplaaCl
namespace Go.Proofs.Ytplcocifndpplaa
open Go Go.Ideal

/-- A flush is noted. -/
theorem late_go {w : World} {x : Nat} {r : Rd} {s : CS} {C : Nat} (h : RefAt w x r s C) {f : Fl} (hf : 1 ≤ f.n ∧ 0 ≤ f.s) (hl : s.A.length ≤ 1000) {Q : Value × World → Prop}
    (hq : ∀ v' w', cellsOf? w' x = some (#[r.bv, r.av, r.sv], 114, (0, 0)) → x < w'.heap.size → v'.cells = #[v'] → one1 v' = true → (RefAt (World.set w' x (.cells #[r.bv, v', r.sv] 114)) x { r with av := v' } (flushA s f) C ∧ MvR w (World.set w' x (.cells #[r.bv, v', r.sv] 114)) s r) → Q (v', w')) :
    (appendS 117 4 32 r.av (.slice (some ⟨w.heap.size, 0, none⟩) 1 1) (World.push w (.cells #[i64 f.s, i64 f.p, i64 f.n, i64 ((s.time f.s : Int) + 1)] 117))).all Q := by
  obtain ⟨xs, h1, h2, h3⟩ := h.all
  have kp : Keeps w (World.push w (.cells #[i64 f.s, i64 f.p, i64 f.n, i64 ((s.time f.s : Int) + 1)] 117)) (fun _ => False) := Keeps.push _ _ _
  refine appE (E := EA) (by_ := 32) (h1.keep kp (fun _ _ h => h)) (src_lt (q := (f, (s.time f.s : Int) + 1)) (t := 117) (by simp)) (by simp; omega) (by decide) (fun v4 w4 hr4 hk4 _ hb4 => ?_)
  have hb4 := hb4 (by simp)
  have nx : ∀ b, blkOf r.av = some b → ¬ b = x := fun b hb e => by
    obtain ⟨_, hc⟩ := h1.tag hb
    rw [e, h.cell] at hc; simp [EA] at hc
  have k4 : Keeps w w4 (fun b => blkOf r.av = some b) := kp.trans hk4 (fun _ _ h => h.elim) (fun _ _ h => h)
  have c4 := k4.cells h.cell (fun hb => nx _ hb rfl)
  have hlt4 := cells_lt c4
  have ks : Keeps w4 (World.set w4 x (.cells #[r.bv, v4, r.sv] 114)) (fun b => b = x) := Keeps.set _ _ _ fun _ => rfl
  have hxlt := cells_lt h.cell
  have e : flushA s f = { s with A := s.A ++ [f] } := by unfold flushA; rw [if_pos hf]
  refine hq v4 w4 c4 hlt4 hr4.cells1 hr4.one ?_
  refine h.rows (F := fun b => b = x ∨ blkOf r.av = some b) (k4.trans ks (fun _ _ h => .inr h) (fun _ _ h => .inl h)) (fun b hb => hb.imp (fun h => h) fun hb => ?_) (by simp [hlt4]) (by simp) (by simp) (by simp) ⟨xs ++ [(f, (s.time f.s : Int) + 1)], hr4.keep ks (fun b hb e => by rw [hb4] at hb; simp at hb; omega), by rw [e]; simp [h2], ?_⟩ ?_
  · obtain ⟨_, hc⟩ := h1.tag hb
    exact ⟨_, _, hc, .inl rfl⟩
  · rw [e]
    intro k hk hk'
    simp only [List.length_append, List.length_singleton] at hk hk'
    by_cases hkl : k < s.A.length
    · rw [List.getElem_append_left (by omega)]
      simp only [List.getElem_append_left hkl]
      rw [h3 k (by omega) hkl, List.take_append_of_le_length (by omega)]
    · have : k = s.A.length := by omega
      subst this
      rw [List.getElem_append_right (by omega)]
      simp only [List.getElem_append_right (Nat.le_refl _)]
      simp only [Nat.sub_self, List.getElem_singleton]
      rw [List.take_of_length_le (by simp), flo_snoc, if_pos rfl]
      simp [h2, CS.time]
  · obtain ⟨sl, g1, g2, g3⟩ := h.saw
    refine ⟨sl, g1.keep (k4.trans ks (H := fun b => b = x ∨ blkOf r.av = some b) (fun _ _ h => .inr h) (fun _ _ h => .inl h)) fun b hb hh => ?_, g2, fun i sp => by rw [flushA_seen]; exact g3 i sp⟩
    obtain ⟨_, hc⟩ := g1.tag hb
    rcases hh with rfl | hh
    · rw [h.cell] at hc; simp [EW] at hc
    · obtain ⟨_, hc2⟩ := h1.tag hh
      rw [hc2] at hc; simp [EA, EW] at hc

theorem run59 {K : Kont} {fuel : Nat} (hD : Doc K) {w : World} {x : Nat} {r : Rd} {s : CS} {B C : Nat} (hp : RefAt w x r s C) (hs : s.ok B) (hB : B ≤ 1000) (sp p n : Int) :
    wpGFn Try.prog K fuel 59 g59 #[ptr x, i64 sp, i64 p, i64 n] w fun _ w' => (∃ r', r'.pb = r.pb ∧ RefAt w' x r' (flushA s ⟨sp, p, n⟩) C) ∧ MvR w w' s r := by
  rw [gfn_start]
  have hlA := hs.len
  by_cases h1 : 1 ≤ n
  · by_cases h2 : 0 ≤ sp
    · have htl := hs.time_le sp
      have w1 : IntKind.i64.wrap ((s.time sp : Int) + 1) = (s.time sp : Int) + 1 := by rw [IntKind.wrap_i64]; omega
      have nx : ¬ x = w.heap.size := Nat.ne_of_lt (cells_lt hp.cell)
      have hx := hp.cell
      obtain ⟨xs, hxs, _⟩ := hp.all
      have hve := hxs.veq
      simp -implicitDefEqProofs [g59, h1, h2, hx, hve]
      refine valA_of (hD.time hp hs hB sp) (fun u w2 hq => ?_)
      obtain ⟨hu, hw⟩ := hq
      simp only at hu hw
      subst hu hw
      simp -implicitDefEqProofs [hx, w1, fillS, Instr.fill, row_lt, hve, nx]
      refine late_go hp (f := ⟨sp, p, n⟩) ⟨h1, h2⟩ (by omega) (fun v4 w4 c4 l4 cel4 one4 hfin => ?_)
      simp -implicitDefEqProofs [c4, l4, cel4, one4]
      exact ⟨⟨{ r with av := v4 }, rfl, hfin.1⟩, hfin.2⟩
    · have e : flushA s ⟨sp, p, n⟩ = s := by unfold flushA; exact if_neg (fun h => h2 h.2)
      rw [e]
      simp -implicitDefEqProofs [g59, h1, h2]
      exact ⟨⟨r, rfl, hp⟩, MoveC.refl _ _ _ _ _⟩
  · have e : flushA s ⟨sp, p, n⟩ = s := by unfold flushA; exact if_neg (fun h => h1 h.1)
    rw [e]
    simp -implicitDefEqProofs [g59, h1]
    exact ⟨⟨r, rfl, hp⟩, MoveC.refl _ _ _ _ _⟩

theorem run60 {K : Kont} {fuel : Nat} (hD : Doc K) (hf : 2000 ≤ fuel) {w : World} {x : Nat} {r : Rd} {s : CS} {B C : Nat} (hp : RefAt w x r s C) (hs : s.ok B) (hB : B ≤ 1000) (hC : C < 20000) (sp : Int) :
    wpGFn Try.prog K fuel 60 g60 #[ptr x, i64 sp] w fun _ w' => (∃ r', r'.pb = r.pb ∧ RefAt w' x r' (endA s s.N sp) (C + 8)) ∧ MvR w w' s r := by
  rw [gfn_start]
  have hN := hs.n
  simp -implicitDefEqProofs [g60]
  refine loop_go (fun k ρ w' => ∃ (q : Nat) (r' : Rd), k = s.N - q ∧ q ≤ s.N ∧ ρ 0 = ptr x ∧ ρ 1 = i64 sp ∧ ρ 4 = i64 q ∧ r'.pb = r.pb ∧ RefAt w' x r' (endA s q sp) (C + q) ∧ MvR w w' s r) ?_ (i := s.N) ?_ (by show s.N < fuel; omega)
  · rintro k ρ w' ⟨q, r', rfl, hq, e0, e1, e4, hr', hp', mv⟩
    have w1 : IntKind.i64.wrap ((q : Int) + 1) = (q : Int) + 1 := by rw [IntKind.wrap_i64]; omega
    have hl := fun w' => hp'.row.lenS (w' := w')
    simp only [List.length_map, List.length_range, endA_N] at hl
    by_cases hqN : q < s.N
    · have hql' : (q : Int) < s.N := by omega
      obtain ⟨b, o, cap, cs, hv, hc, hsz, hat⟩ := hp'.row.ptr (i := q) (by simpa using hqN)
      have hv2 : r'.bv = .slice (some ⟨b, o, none⟩) s.N cap := by simpa using hv
      simp only [List.getElem_map, List.getElem_range] at hat
      have hs' := end_ok hs q sp
      have hqi : q < (endA s q sp).N := hqN
      simp -implicitDefEqProofs [e0, e1, e4, hp'.cell, hv2, hc, hat, hql', hqN]
      refine valA_of (hD.a.flush9.go (hp'.buf q hqi) (hs'.right hqi) (by have := hs'.ll hqi; omega) sp 0 4096 ⟨by omega, by omega⟩ ⟨by omega, by omega⟩) (fun u w3 hq3 => ?_)
      obtain ⟨hu, hlay⟩ := hq3
      simp only at hu hlay
      obtain ⟨hp3, m3⟩ := hp'.lay hqi hlay
      have hs3 : (setLn (endA s q sp) q (flushL ((endA s q sp).L q) sp 0 4096)).ok B := hs'.setLn ((hs'.good q hqi).sub (flush_sub _ _ _ _))
      obtain ⟨sl, hsl, _⟩ := hp3.saw
      have hve := hsl.veq
      have hx3 := hp3.cell
      have nx : ¬ x = w3.heap.size := Nat.ne_of_lt (cells_lt hx3)
      simp -implicitDefEqProofs [e0, e1, e4, hx3, hve]
      refine valA_of (hD.time hp3 hs3 hB sp) (fun u4 w4 hq4 => ?_)
      obtain ⟨hu, hw⟩ := hq4
      simp only at hu hw
      subst hu hw
      simp -implicitDefEqProofs [e0, e1, e4, hx3, hve, nx, fillS, Instr.fill, row_sw]
      refine saw_go hp3 (by omega) (i := q) (sp := sp) (t := s.time sp) (fun v5 w5 c5 l5 cel5 one5 hfin => ?_)
      have this : setSeen (setLn (endA s q sp) q (flushL ((endA s q sp).L q) sp 0 4096)) q sp (s.time sp) = endA s (q + 1) sp := endA_step s q sp
      rw [this] at hfin
      obtain ⟨h1, h2⟩ := hfin
      unfold MvR at m3 h2
      rw [hr'] at m3 h2
      simp -implicitDefEqProofs [e0, e1, e4, c5, l5, cel5, one5, w1]
      exact ⟨s.N - (q + 1), by omega, q + 1, rfl, hqN, by omega, { r' with sv := v5 }, hr', h1, (mv.trans m3).trans h2⟩
    · have : q = s.N := by omega
      rw [this] at hp' e4
      simp -implicitDefEqProofs [e0, e4, hp'.cell, hl]
      exact ⟨⟨r', hr', hp'.mono (by omega)⟩, mv⟩
  · refine ⟨0, r, rfl, Nat.zero_le _, by simp, by simp, by simp, rfl, ?_, MoveC.refl _ _ _ _ _⟩
    rw [endA_zero]; exact hp

theorem run56 {K : Kont} {fuel : Nat} (hD : Doc K) {w : World} {x : Nat} {r : Rd} {s : CS} {B C : Nat} (hp : RefAt w x r s C) (hs : s.ok B) (hB : B ≤ 1000) (hC : C < 20000) {i : Nat} (hi : i < s.N) (sp : Int) :
    wpGFn Try.prog K fuel 56 g56 #[ptr x, i64 i, i64 sp] w fun v w' => v = i64 (behindA s i sp) ∧ w' = w := by
  rw [gfn_start]
  unfold g56
  simp -implicitDefEqProofs
  refine valA_of (hD.is hp i) (fun u w2 hq => ?_)
  obtain ⟨hu, hw⟩ := hq
  simp only at hu hw
  subst hu hw
  have hn : isN s (i : Int) := ⟨by omega, by omega⟩
  simp -implicitDefEqProofs [hn]
  refine valA_of (hD.time hp hs hB sp) (fun u4 w4 hq4 => ?_)
  obtain ⟨hu, hw⟩ := hq4
  simp only at hu hw
  subst hu hw
  simp -implicitDefEqProofs
  refine valA_of (hD.seen hp hC i sp) (fun u4 w4 hq4 => ?_)
  obtain ⟨hu, hw⟩ := hq4
  simp only at hu hw
  subst hu hw
  have htl := hs.time_le sp
  have hle := hs.seen i sp hi
  have w1 : IntKind.i64.wrap ((s.time sp : Int) - (s.seen i sp : Int)) = (s.time sp : Int) - (s.seen i sp : Int) := by rw [IntKind.wrap_i64]; omega
  simp -implicitDefEqProofs [w1, behindA]
end Go.Proofs.Ytplcocifndpplaa
