/-
  Processors: the document's Look, Put, Flush, End, Drop, Sync, Quiet.
-/
import Derived.Test.YtplcocifndpplaaCk
namespace Go.Proofs.Ytplcocifndpplaa
open Go Go.Ideal

theorem run58 {K : Kont} {fuel : Nat} (hD : Doc K) {w : World} {x : Nat} {r : Rd} {s : CS} {B C : Nat} (hp : RefAt w x r s C) (hs : s.ok B) (hB : B ≤ 1000) (hC : C < 20000) (n sp p : Int) :
    wpGFn Try.prog K fuel 58 g58 #[ptr x, i64 n, i64 sp, i64 p] w fun v w' => ∃ r', r'.pb = r.pb ∧ (isN s n → v = lookV (lookL ((catchA s n.toNat sp).L n.toNat) sp p) ∧ RefAt w' x r' (catchA s n.toNat sp) (C + 1)) ∧ (¬ isN s n → v = lookV none ∧ RefAt w' x r' s (C + 1)) ∧ MvR w w' s r := by
  rw [gfn_start]
  have kz : Keeps w (World.push w (.cells zeroL.cells 31)) (fun _ => False) := Keeps.push _ _ _
  obtain ⟨hp1, hf1⟩ := hp.keep kz (fun _ _ h => h)
  have m1 : MvR w (World.push w (.cells zeroL.cells 31)) s r := MoveC.newR hp kz
  have c0 : cellsOf? (World.push w (.cells zeroL.cells 31)) w.heap.size = some (zeroL.cells, 31, (0, 0)) := by simp
  have nf : ∀ i, i < s.N → ¬ foot (World.push w (.cells zeroL.cells 31)) (r.pb i) w.heap.size := fun i hi hf => by
    have := (hp.buf i hi).foot_lt ((hf1 i hi _).1 hf); omega
  have hz : (#[i64 0, i64 0, i64 0, i64 0, .bool false] : Array Value) = zeroL.cells := rfl
  have hlt1 : w.heap.size < (World.push w (.cells zeroL.cells 31)).heap.size := by simp
  unfold g58
  rw [hz]
  simp -implicitDefEqProofs
  generalize World.push w (.cells zeroL.cells 31) = w1 at *
  refine valA_of (hD.is hp1 n) (fun u w2 hq => ?_)
  obtain ⟨hu, hw⟩ := hq
  simp only at hu hw
  subst hu hw
  by_cases hn : isN s n
  · have hi := hn.lt
    have hnn := isN_n hn
    simp -implicitDefEqProofs [hn]
    have hgo := hD.go hp1 hs hB hC hi sp
    rw [hnn] at hgo
    refine valA_of hgo (fun u w3 hq => ?_)
    obtain ⟨r', hr', hp3, m3⟩ := hq
    simp only at hp3 m3
    have m13 : MvR w w3 s r := m1.trans m3
    have c03 := m3.1.cells c0 (fun h => by
      rcases h with ⟨i, hi, hf⟩ | ⟨h, _⟩ | ⟨_, _, hc, ht⟩
      · exact nf i hi hf
      · exact h
      · rw [c0] at hc; simp at hc; rw [← hc.2] at ht; simp [TRW] at ht)
    obtain ⟨b, o, cap, cs, hv, hc, hsz, hat⟩ := hp3.row.ptr (i := n.toNat) (by simpa using hi)
    have hv2 : r'.bv = .slice (some ⟨b, o, none⟩) s.N cap := by simpa using hv
    simp only [List.getElem_map, List.getElem_range] at hat
    have hs3 := hs.catchA hi sp
    have hn1 : 0 ≤ n := hn.1
    have hn2 : n < s.N := hn.2
    simp -implicitDefEqProofs [hp3.cell, hv2, hc, hat, hn1, hn2]
    refine valA_of (hD.a.look9 (hp3.buf _ hi) (hs3.right hi) (by have := hs3.ll hi; omega) sp p) (fun u w4 hq => ?_)
    obtain ⟨hu, hk4⟩ := hq
    simp only at hu hk4
    obtain ⟨hp4, hf4⟩ := hp3.keep hk4 (fun _ _ h => h)
    have m34 := MoveC.newR (T := TRW) (M := False) hp3 hk4
    rw [hr'] at m34
    have m4 : MvR w w4 s r := m13.trans m34
    have c04 := hk4.cells c03 (fun h => h)
    have nf4 : ∀ i, i < (catchA s n.toNat sp).N → ¬ foot w4 (r'.pb i) w.heap.size := fun i hi hf => by
      have h5 := (hf4 i hi _).1 hf
      rw [hr'] at h5
      rcases m3.2 i hi _ h5 with h5 | h5
      · exact nf i hi h5
      · omega
    subst hu
    simp -implicitDefEqProofs [lookV, Line.val, c04, cells_lt c04]
    obtain ⟨hp5, hf5⟩ := hp4.box (o := .cells ((lookL ((catchA s n.toNat sp).L n.toNat) sp p).getD zeroL).cells 31) c04 (by simp [TR]) nf4
    exact ⟨r', hr', hp5, m4.late (Keeps.set _ _ _ (F := fun j => j = w.heap.size) fun _ => rfl) (fun b hb => by omega) fun i hi b hb => by rw [← hr'] at hb ⊢; exact (hf5 i hi b).1 hb⟩
  · simp -implicitDefEqProofs [hn, c0, cells_lt c0, fillS, Instr.fill, lookV, Line.val]
    obtain ⟨hp5, hf5⟩ := hp1.box (o := .cells zeroL.cells 31) c0 (by simp [TR]) nf
    exact ⟨r, rfl, hp5.mono (by omega), m1.late (Keeps.set _ _ _ (F := fun j => j = w.heap.size) fun _ => rfl) (fun b hb => by omega) fun i hi b hb => (hf5 i hi b).1 hb⟩

theorem run57 {K : Kont} {fuel : Nat} (hD : Doc K) {w : World} {x : Nat} {r : Rd} {s : CS} {B C : Nat} (hp : RefAt w x r s C) (hs : s.ok B) (hB : B ≤ 1000) (hC : C < 20000) (n : Int) (y : Line) :
    wpGFn Try.prog K fuel 57 g57 #[ptr x, i64 n, .agg y.cells] w fun v w' => v = i64 (putE s n y) ∧ (∃ r', r'.pb = r.pb ∧ RefAt w' x r' (if isN s n then putA s n.toNat y else s) (C + 1)) ∧ MvR w w' s r := by
  rw [gfn_start]
  have kz : Keeps w (World.push w (.cells y.cells 31)) (fun _ => False) := Keeps.push _ _ _
  obtain ⟨hp1, hf1⟩ := hp.keep kz (fun _ _ h => h)
  have m1 : MvR w (World.push w (.cells y.cells 31)) s r := MoveC.newR hp kz
  have c0 : cellsOf? (World.push w (.cells y.cells 31)) w.heap.size = some (y.cells, 31, (0, 0)) := by simp
  have nf : ∀ i, i < s.N → ¬ foot (World.push w (.cells y.cells 31)) (r.pb i) w.heap.size := fun i hi hf => by
    have := (hp.buf i hi).foot_lt ((hf1 i hi _).1 hf); omega
  have hlt1 : w.heap.size < (World.push w (.cells y.cells 31)).heap.size := by simp
  unfold g57
  simp -implicitDefEqProofs
  generalize World.push w (.cells y.cells 31) = w1 at *
  refine valA_of (hD.is hp1 n) (fun u w2 hq => ?_)
  obtain ⟨hu, hw⟩ := hq
  simp only at hu hw
  subst hu hw
  by_cases hn : isN s n
  · have hi := hn.lt
    have hnn := isN_n hn
    simp -implicitDefEqProofs [hn, c0]
    have hgo := hD.go hp1 hs hB hC hi y.s
    rw [hnn] at hgo
    refine valA_of hgo (fun u w3 hq => ?_)
    obtain ⟨r', hr', hp3, m3⟩ := hq
    simp only at hp3 m3
    have m13 : MvR w w3 s r := m1.trans m3
    have c03 := m3.1.cells c0 (fun h => by
      rcases h with ⟨i, hi, hf⟩ | ⟨h, _⟩ | ⟨_, _, hc, ht⟩
      · exact nf i hi hf
      · exact h
      · rw [c0] at hc; simp at hc; rw [← hc.2] at ht; simp [TRW] at ht)
    obtain ⟨b, o, cap, cs, hv, hc, hsz, hat⟩ := hp3.row.ptr (i := n.toNat) (by simpa using hi)
    have hv2 : r'.bv = .slice (some ⟨b, o, none⟩) s.N cap := by simpa using hv
    simp only [List.getElem_map, List.getElem_range] at hat
    have hs3 := hs.catchA hi y.s
    have hn1 : 0 ≤ n := hn.1
    have hn2 : n < s.N := hn.2
    simp -implicitDefEqProofs [hp3.cell, hv2, hc, hat, hn1, hn2, c03]
    refine valA_of (hD.a.put9 (hp3.buf _ hi) (hs3.right hi) (by have := hs3.ll hi; omega) hs.sz.1 y) (fun u w4 hq => ?_)
    simp only at hq
    rcases hq with ⟨hr, hu, hlay⟩ | ⟨hr, hu, hlay⟩
    · subst hu
      obtain ⟨hp4, m34⟩ := hp3.lay hi hlay
      rw [setLn_self] at hp4
      unfold MvR at m34
      rw [hr'] at m34
      simp -implicitDefEqProofs [putE, putA, hn, hr]
      exact ⟨⟨r', hr', hp4⟩, m13.trans m34⟩
    · subst hu
      obtain ⟨hp4, m34⟩ := hp3.lay hi hlay
      unfold MvR at m34
      rw [hr'] at m34
      simp -implicitDefEqProofs [putE, putA, hn, hr]
      exact ⟨⟨r', hr', hp4⟩, m13.trans m34⟩
  · simp -implicitDefEqProofs [hn, putE]
    exact ⟨⟨r, rfl, hp1.mono (by omega)⟩, m1⟩

theorem run61 {K : Kont} {fuel : Nat} (hD : Doc K) {w : World} {x : Nat} {r : Rd} {s : CS} {B C : Nat} (hp : RefAt w x r s C) (hs : s.ok B) (n i : Int) (hin : In64 i) :
    wpGFn Try.prog K fuel 61 g61 #[ptr x, i64 n, i64 i] w fun v w' => v = i64 (dropE s n i) ∧ RefAt w' x r (if isN s n then dropA s n.toNat i else s) C ∧ MvR w w' s r := by
  rw [gfn_start]
  unfold g61
  simp -implicitDefEqProofs
  refine valA_of (hD.is hp n) (fun u w2 hq => ?_)
  obtain ⟨hu, hw⟩ := hq
  simp only at hu hw
  subst hu hw
  by_cases hn : isN s n
  · have hi := hn.lt
    obtain ⟨b, o, cap, cs, hv, hc, hsz, hat⟩ := hp.row.ptr (i := n.toNat) (by simpa using hi)
    have hv2 : r.bv = .slice (some ⟨b, o, none⟩) s.N cap := by simpa using hv
    simp only [List.getElem_map, List.getElem_range] at hat
    have hn1 : 0 ≤ n := hn.1
    have hn2 : n < s.N := hn.2
    simp -implicitDefEqProofs [hn, hp.cell, hv2, hc, hat, hn1, hn2]
    refine valA_of (hD.a.drop9 (hp.buf _ hi) (by have := hs.ll hi; omega) i hin) (fun u w4 hq => ?_)
    simp only at hq
    rcases hq with ⟨hr, hu, hlay⟩ | ⟨hr, hu, hlay⟩
    · subst hu
      obtain ⟨hp4, m4⟩ := hp.lay hi hlay
      rw [setLn_self] at hp4
      have hr' : ¬ (0 ≤ i ∧ i < (s.L n.toNat).length) := by omega
      simp -implicitDefEqProofs [dropE, dropA, hn, hr']
      exact ⟨hp4, m4⟩
    · subst hu
      obtain ⟨hp4, m4⟩ := hp.lay hi hlay
      simp -implicitDefEqProofs [dropE, dropA, hn, hr]
      exact ⟨hp4, m4⟩
  · simp -implicitDefEqProofs [hn, dropE]
    exact ⟨hp, MoveC.refl _ _ _ _ _⟩

theorem run39 {K : Kont} {fuel : Nat} (hD : Doc K) (hf : 2000 ≤ fuel) {w : World} {x : Nat} {r : Rd} {s : CS} {B C : Nat} (hp : RefAt w x r s C) (hs : s.ok B) (hB : B ≤ 1000) (hC : C + B < 20000) (n : Int) :
    wpGFn Try.prog K fuel 39 g39 #[ptr x, i64 n] w fun v w' => v = i64 (if isN s n then 0 else 3) ∧ (∃ r', r'.pb = r.pb ∧ RefAt w' x r' (if isN s n then syncA s n.toNat else s) (C + B)) ∧ MvR w w' s r := by
  rw [gfn_start]
  unfold g39
  simp -implicitDefEqProofs
  refine valA_of (hD.is hp n) (fun u w2 hq => ?_)
  obtain ⟨hu, hw⟩ := hq
  simp only at hu hw
  subst hu hw
  have hlA := hs.len
  by_cases hn : isN s n
  · have hi := hn.lt
    have hnn := isN_n hn
    simp -implicitDefEqProofs [hn]
    refine loop_go (fun k ρ w' => ∃ (q : Nat) (r' : Rd), k = s.A.length - q ∧ q ≤ s.A.length ∧ ρ 0 = ptr x ∧ ρ 1 = i64 n ∧ ρ 5 = i64 q ∧ r'.pb = r.pb ∧ RefAt w' x r' (syncD s n.toNat ((s.A.take q).map (·.s))) (C + q) ∧ MvR w2 w' s r) ?_ (i := s.A.length) ?_ (by show s.A.length < fuel; omega)
    · rintro k ρ w' ⟨q, r', rfl, hq, e0, e1, e5, hr', hp', mv⟩
      have w1 : IntKind.i64.wrap ((q : Int) + 1) = (q : Int) + 1 := by rw [IntKind.wrap_i64]; omega
      obtain ⟨xs, hxs, hxl, hxa⟩ := hp'.all
      replace hxl : xs.length = s.A.length := hxl
      by_cases hql : q < s.A.length
      · have hql' : (q : Int) < s.A.length := by omega
        obtain ⟨ab, ao, acap, ac, hav, hac, hasz, _, ha⟩ := hxs.at (i := q) (by omega)
        have a0 := ha 0 (by decide)
        have hxq : xs[q] = (s.A[q], _) := hxa q (by omega) hql
        rw [hxq] at a0
        rw [hxl] at hav
        simp [EA] at a0
        simp -implicitDefEqProofs [e0, e1, e5, hp'.cell, hav, hac, a0, hql', hql]
        have hgo := hD.go hp' (hs.syncD hi _) hB (by omega) hi s.A[q].s
        rw [hnn] at hgo
        refine valA_of hgo (fun u w3 hq3 => ?_)
        obtain ⟨r3, hr3, hp3, m3⟩ := hq3
        simp only at hp3 m3
        rw [syncD_catch hs] at hp3
        have htake : (s.A.take q).map (·.s) ++ [s.A[q].s] = (s.A.take (q + 1)).map (·.s) := by rw [List.take_succ_eq_append_getElem hql, List.map_append]; rfl
        rw [htake] at hp3
        unfold MvR at m3
        rw [hr'] at m3
        simp -implicitDefEqProofs [e0, e1, e5, w1]
        exact ⟨s.A.length - (q + 1), by omega, q + 1, rfl, hql, by omega, r3, hr3.trans hr', by rw [← List.map_take]; exact hp3, mv.trans m3⟩
      · have : q = s.A.length := by omega
        have hl := fun w' => hxs.lenS (w' := w')
        simp only [hxl] at hl
        rw [this, List.take_length] at hp'
        rw [this] at e5
        simp -implicitDefEqProofs [e0, e5, hp'.cell, hl, hn]
        rw [syncD_all hs hi (fun sp h => time_pos h)] at hp'
        exact ⟨⟨r', hr', hp'.mono (by omega)⟩, mv⟩
    · refine ⟨0, r, rfl, Nat.zero_le _, by simp, by simp, by simp, rfl, ?_, MoveC.refl _ _ _ _ _⟩
      rw [List.take_zero, List.map_nil, syncD_nil]; exact hp
  · simp -implicitDefEqProofs [hn]
    exact ⟨⟨r, rfl, hp.mono (by omega)⟩, MoveC.refl _ _ _ _ _⟩
end Go.Proofs.Ytplcocifndpplaa
