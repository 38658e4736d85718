/-
  Processors: the program's Sync, End, Quiet.
-/
import Derived.Test.YtplcocifndpplaaCg
namespace Go.Proofs.Ytplcocifndpplaa
open Go Go.Ideal

theorem len_sub : ∀ {l m : List Int}, l.Nodup → (∀ x ∈ l, x ∈ m) → l.length ≤ m.length
  | [], _, _, _ => Nat.zero_le _
  | a :: l, m, hn, hs => by
    have ham : a ∈ m := hs a (by simp)
    have h1 := len_sub (l := l) (m := m.erase a) (List.nodup_cons.1 hn).2 (fun x hx => by
      have hxa : x ≠ a := fun e => by subst e; exact (List.nodup_cons.1 hn).1 hx
      exact (List.mem_erase_of_ne hxa).2 (hs x (by simp [hx])))
    rw [List.length_erase_of_mem ham] at h1
    have := List.length_pos_of_mem ham
    simp only [List.length_cons]
    omega
theorem time_pos {s : CS} {sp : Int} (h : 0 < s.time sp) : sp ∈ s.A.map (·.s) := by
  unfold CS.time at h
  obtain ⟨f, hf⟩ := List.exists_mem_of_length_pos h
  obtain ⟨h1, h2⟩ := flo_mem.1 hf
  exact List.mem_map.2 ⟨f, h1, h2⟩

theorem run32 {K : Kont} {fuel : Nat} (hC : Catch K) (hfu : 2000 ≤ fuel) {w : World} {c : Nat} {a : Ad} {s : CS} {B : Nat} (hp : CpuAt w c a s) (hs : s.ok B) (hB : B ≤ 1000) (n : Int) :
    wpGFn Try.prog K fuel 32 g32 #[ptr c, i64 n] w fun v w' => v = i64 (if isN s n then 0 else 3) ∧ CpuAt w' c a (if isN s n then syncA s n.toNat else s) ∧ MvC w w' s a := by
  rw [gfn_start]
  unfold g32
  simp -implicitDefEqProofs
  refine valA_of (hC.t.find hp n) (fun u w2 hq => ?_)
  obtain ⟨hu, hw⟩ := hq
  simp only at hu hw
  subst hu hw
  by_cases hn : isN s n
  · have hi := hn.lt
    obtain ⟨m, hm, hget⟩ := hp.sm
    simp -implicitDefEqProofs [findV, hn, hp.cell]
    refine mrange_go (m := m) (r := a.sm) under91 (by simp) rfl hm (fun o hit hno hk1 => ?_)
    simp -implicitDefEqProofs
    generalize hw2 : World.push w2 o = w3 at *
    obtain ⟨hp3, _⟩ := hp.keep hk1 (fun _ _ h => h)
    have m3 : MvC w2 w3 s a := MoveC.new hp hk1
    have hkey : ∀ k, k ∈ keysM m ↔ 0 < s.time k := fun k => by
      have h1 := hget k
      by_cases h2 : 0 < s.time k
      · rw [if_pos h2] at h1
        exact ⟨fun _ => h2, fun _ => Classical.byContradiction fun h3 => by rw [getM_none.2 h3] at h1; cases h1⟩
      · rw [if_neg h2] at h1
        exact ⟨fun h3 => absurd h3 (getM_none.1 h1), fun h3 => absurd h3 h2⟩
    have hml : m.length ≤ 1000 := by
      have h1 := len_sub (l := keysM m) (m := s.A.map (·.s)) hm.nodup (fun x hx => time_pos ((hkey x).1 hx))
      simp only [keysM, List.length_map] at h1
      have := hs.len
      omega
    have hlt3 : w2.heap.size < w3.heap.size := by rw [← hw2]; simp
    refine loop_go (fun i ρ w' => ∃ (done : List Int), i = m.length - done.length ∧ Iter w' w2.heap.size a.sm m done ∧ CpuAt w' c a (syncD s n.toNat done) ∧ MvC w2 w' s a ∧ ρ 21 = ptr w2.heap.size ∧ ρ 0 = ptr c ∧ ρ 5 = ptr (a.pc n.toNat)) ?_ (i := m.length) ?_ (by show m.length < fuel; omega)
    · rintro i ρ w' ⟨done, rfl, hit, hp', mv, e21, e0, e5⟩
      simp -implicitDefEqProofs
      refine next_go (m := m) (it := w2.heap.size) (r := a.sm) (done := done) (by simp [e21]) rfl hit (fun hall => ?_) (fun k u w4 hg hkn hit2 hk2 => ?_)
      · simp -implicitDefEqProofs [hn]
        rw [syncD_all hs hi (fun sp h => hall sp ((hkey sp).2 h))] at hp'
        exact ⟨hp', mv⟩
      · have hdl : done.length < m.length := by
          have h1 := len_sub (l := done ++ [k]) (m := keysM m) hit2.nodup hit2.sub
          simp [keysM] at h1
          omega
        have itm : ∀ {b mm}, MapAt w' b mm → ¬ b = w2.heap.size := fun hmm e => by
          obtain ⟨es, nn, seen, _, _, _, _, _, h6, _⟩ := hit.ex
          obtain ⟨es', nn', h7, _⟩ := hmm
          subst e
          have := mapOf?_spec h7
          rw [h6] at this; cases this
        have itc : cellsOf? w' w2.heap.size = none := by
          obtain ⟨es, nn, seen, _, _, _, _, _, h6, _⟩ := hit.ex
          unfold cellsOf?; rw [h6]
        have itf : ∀ b, Mine w' s.N a.pb TC False b → ¬ b = w2.heap.size := fun b hb e => by
          subst e
          rcases hb with ⟨j, hj, hf⟩ | ⟨h, _⟩ | ⟨_, _, hc, _⟩
          · obtain ⟨_, _, h1, _⟩ := (hp'.buf j hj).tag hf
            rw [itc] at h1; cases h1
          · exact h
          · rw [itc] at hc; cases hc
        obtain ⟨hp4, hf4⟩ := hp'.keepM hk2 itf (fun b mm hmm => itm hmm)
        have m4 : MvC w2 w4 s a := mv.late hk2 (fun b hb => by omega) (fun j hj b hb => (hf4 j hj b).1 hb)
        simp -implicitDefEqProofs
        refine entry_go (m := m) (it := w2.heap.size) (r := a.sm) (done := done) (k := k) (v := u) (by simp [e21]) rfl hit2 hg ?_
        simp -implicitDefEqProofs [e0, e5]
        refine valA_of (hC.go hp4 (hs.syncD hi done) hB hi k) (fun u5 w5 hq5 => ?_)
        obtain ⟨hp5, ho5⟩ := hq5
        simp only at hp5 ho5
        rw [syncD_catch hs] at hp5
        have m45 := One.mvs hp4 hi ho5
        have itc4 : cellsOf? w4 w2.heap.size = none := by
          obtain ⟨es, nn, seen, _, _, _, _, _, h6, _⟩ := hit2.ex
          unfold cellsOf?; rw [h6]
        have hit5 : Iter w5 w2.heap.size a.sm m (done ++ [k]) := hit2.keep ho5.1 (fun h => by
          rcases h with h | h
          · obtain ⟨_, _, h1, _⟩ := (hp4.buf _ hi).tag h
            rw [hit2.at.nocells] at h1; cases h1
          · exact hp4.nes _ hi h.symm) (fun h => by
          rcases h with h | h
          · obtain ⟨_, _, h1, _⟩ := (hp4.buf _ hi).tag h
            rw [itc4] at h1; cases h1
          · obtain ⟨ms, hms, _⟩ := hp.seen _ hi
            have := hms.lt
            omega)
        simp -implicitDefEqProofs [e21, e0, e5]
        exact ⟨m.length - (done ++ [k]).length, by simp; omega, done ++ [k], by simp, hit5, hp5, m4.trans m45⟩
    · refine ⟨[], rfl, hit, ?_, m3, by simp, by simp, by simp⟩
      rw [syncD_nil]; exact hp3
  · simp -implicitDefEqProofs [findV, hn]
    exact ⟨hp, MoveC.refl _ _ _ _ _⟩

theorem endA_zero (s : CS) (sp : Int) : endA s 0 sp = s := by
  refine CS.ext rfl rfl rfl (fun j => ?_) fun j q => ?_ <;> simp [endA]
theorem endA_step (s : CS) (q : Nat) (sp : Int) : setSeen (setLn (endA s q sp) q (flushL ((endA s q sp).L q) sp 0 4096)) q sp ((endA s q sp).time sp) = endA s (q + 1) sp := by
  refine CS.ext rfl rfl rfl (fun j => ?_) fun j r => ?_
  · simp only [setSeen_L, setLn_L, endA]
    by_cases h : j = q
    · subst h; simp
    · rw [if_neg h]
      by_cases h2 : j < q
      · rw [if_pos h2, if_pos (by omega)]
      · rw [if_neg h2, if_neg (by omega)]
  · rw [setSeen_at]
    show (if j = q ∧ r = sp then s.time sp else if j < q ∧ r = sp then s.time sp else s.seen j r) = if j < q + 1 ∧ r = sp then s.time sp else s.seen j r
    by_cases h2 : r = sp
    · by_cases h : j = q
      · simp [h, h2]
      · by_cases h3 : j < q
        · simp [h, h2, h3]; omega
        · simp [h, h2, h3]; omega
    · simp [h2]

theorem run33 {K : Kont} {fuel : Nat} (hT : Told K) (hfu : 2000 ≤ fuel) {w : World} {c : Nat} {a : Ad} {s : CS} {B : Nat} (hp : CpuAt w c a s) (hs : s.ok B) (hB : B ≤ 1000) (sp : Int) :
    wpGFn Try.prog K fuel 33 g33 #[ptr c, i64 sp] w fun _ w' => CpuAt w' c a (endA s s.N sp) ∧ MvC w w' s a := by
  rw [gfn_start]
  have hl := fun w' => hp.row.lenS (w' := w')
  simp only [List.length_map, List.length_range] at hl
  simp -implicitDefEqProofs [g33, nil57, hp.cell, hl]
  have hN := hs.n
  refine loop_go (fun k ρ w' => ∃ q : Nat, k = s.N - q ∧ q ≤ s.N ∧ ρ 0 = ptr c ∧ ρ 1 = i64 sp ∧ ρ 11 = a.v ∧ ρ 12 = i64 s.N ∧ ρ 13 = i64 q ∧ CpuAt w' c a (endA s q sp) ∧ MvC w w' s a) ?_ (i := s.N) ?_ (by show s.N < fuel; omega)
  · rintro k ρ w' ⟨q, rfl, hq, e0, e1, e11, e12, e13, hp', mv⟩
    have w1 : IntKind.i64.wrap ((q : Int) + 1) = (q : Int) + 1 := by rw [IntKind.wrap_i64]; omega
    by_cases hqN : q < s.N
    · obtain ⟨b, o, cap, cs, hv, hc, hsz, hat⟩ := hp'.row.ptr (i := q) (by simpa using hqN)
      have hv2 : a.v = .slice (some ⟨b, o, none⟩) s.N cap := by simpa using hv
      have hs' := end_ok hs q sp
      have hqi : q < (endA s q sp).N := hqN
      have hcpu := hp'.cpu q hqi
      have hql' : (q : Int) < s.N := by omega
      simp only [List.getElem_map, List.getElem_range] at hat
      simp -implicitDefEqProofs [e0, e1, e11, e12, e13, hv2, hc, hat, hql', hqN, hcpu]
      refine valA_of (hT.a.flushS (hp'.buf q hqi) (hs'.right hqi) (by have := hs'.ll hqi; omega) sp) (fun u w3 hq3 => ?_)
      obtain ⟨hu, hlay⟩ := hq3
      simp only at hu hlay
      obtain ⟨hp3, ho3⟩ := hp'.lay hqi hlay
      have hcpu3 := hp3.cpu q hqi
      have m3 := One.mv hp' hqi ho3
      simp -implicitDefEqProofs [e0, e1, e11, e12, e13, hcpu3]
      refine valA_of (hT.time hp3 sp) (fun u4 w4 hq4 => ?_)
      obtain ⟨hu, hw⟩ := hq4
      simp only at hu hw
      subst hu hw
      simp -implicitDefEqProofs [e0, e1, e11, e12, e13, hcpu3]
      obtain ⟨ms, hms, hgs⟩ := hp3.seen q hqi
      refine updateA hms (fun es nn hmm => ?_)
      obtain ⟨hp5, ho5⟩ := hp3.note hqi hgs hmm hms.nocells
      have m5 := One.mvs hp3 hqi ho5
      have this : setSeen (setLn (endA s q sp) q (flushL ((endA s q sp).L q) sp 0 4096)) q sp (s.time sp) = endA s (q + 1) sp := endA_step s q sp
      rw [this] at hp5
      simp -implicitDefEqProofs [e0, e1, e11, e12, e13, w1]
      exact ⟨s.N - (q + 1), by omega, q + 1, rfl, hqN, hv2, by omega, hp5, (mv.trans m3).trans m5⟩
    · have : q = s.N := by omega
      rw [this] at hp' e13
      simp -implicitDefEqProofs [e12, e13]
      exact ⟨hp', mv⟩
  · refine ⟨0, rfl, Nat.zero_le _, by simp, by simp, by simp, by simp, by simp, ?_, MoveC.refl _ _ _ _ _⟩
    rw [endA_zero]; exact hp
end Go.Proofs.Ytplcocifndpplaa
