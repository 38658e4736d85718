/-
  Processors: the program's Quiet, New.
-/
import Derived.Test.YtplcocifndpplaaCh
namespace Go.Proofs.Ytplcocifndpplaa
open Go Go.Ideal

theorem quiet_step (s : CS) (q : Nat) (sp : Int) : quietA s (q + 1) sp = (quietA s q sp && (decide (s.seen q sp = s.time sp) || (s.L q).all fun c => !decide (c.s = sp))) := by
  unfold quietA
  rw [List.range_succ, List.all_append]
  simp
theorem quiet_false {s : CS} {q : Nat} {sp : Int} (hq : q < s.N) (h : s.seen q sp ≠ s.time sp) {c : Line} (hc : c ∈ s.L q) (hs : c.s = sp) : quietA s s.N sp = false := by
  unfold quietA
  rw [List.all_eq_false]
  refine ⟨q, List.mem_range.2 hq, ?_⟩
  simp only [Bool.not_eq_true, Bool.or_eq_false_iff, decide_eq_false_iff_not]
  refine ⟨h, ?_⟩
  rw [List.all_eq_false]
  exact ⟨c, hc, by simp [hs]⟩

theorem run36 {K : Kont} {fuel : Nat} (hT : Told K) (hfu : 2000 ≤ fuel) {w : World} {c : Nat} {a : Ad} {s : CS} {B : Nat} (hp : CpuAt w c a s) (hs : s.ok B) (sp : Int) :
    wpGFn Try.prog K fuel 36 g36 #[ptr c, i64 sp] w fun v w' => v = .bool (quietA s s.N sp) ∧ Keeps w w' (fun _ => False) := by
  rw [gfn_start]
  have hl := fun w' => hp.row.lenS (w' := w')
  simp only [List.length_map, List.length_range] at hl
  simp -implicitDefEqProofs [g36, nil57, hp.cell, hl]
  have hN := hs.n
  refine loop_go (fun k ρ w' => ∃ q : Nat, k = s.N - q ∧ q ≤ s.N ∧ ρ 0 = ptr c ∧ ρ 1 = i64 sp ∧ ρ 14 = a.v ∧ ρ 15 = i64 s.N ∧ ρ 16 = i64 q ∧ quietA s q sp = true ∧ Keeps w w' (fun _ => False)) ?_ (i := s.N) ?_ (by show s.N < fuel; omega)
  · rintro k ρ w' ⟨q, rfl, hq, e0, e1, e14, e15, e16, hqu, hk⟩
    have w1 : IntKind.i64.wrap ((q : Int) + 1) = (q : Int) + 1 := by rw [IntKind.wrap_i64]; omega
    obtain ⟨hp', _⟩ := hp.keep hk (fun _ _ h => h)
    by_cases hqN : q < s.N
    · obtain ⟨b, o, cap, cs, hv, hc, hsz, hat⟩ := hp'.row.ptr (i := q) (by simpa using hqN)
      have hv2 : a.v = .slice (some ⟨b, o, none⟩) s.N cap := by simpa using hv
      have hcpu := hp'.cpu q hqN
      have hql' : (q : Int) < s.N := by omega
      simp only [List.getElem_map, List.getElem_range] at hat
      obtain ⟨ms, hms, hgs⟩ := hp'.seen q hqN
      have lseen := lookD (z := i64 0) (v := i64 (s.seen q sp)) (i := sp) hms (hgs sp)
      simp -implicitDefEqProofs [e0, e1, e14, e15, e16, hv2, hc, hat, hql', hqN, hcpu, lseen]
      refine valA_of (hT.time hp' sp) (fun u4 w4 hq4 => ?_)
      obtain ⟨hu, hw⟩ := hq4
      simp only at hu hw
      subst hu hw
      by_cases heq : s.seen q sp = s.time sp
      · simp -implicitDefEqProofs [e0, e1, e14, e15, e16, hcpu, lseen, heq, w1]
        exact ⟨s.N - (q + 1), by omega, q + 1, rfl, hqN, hv2, by omega, by rw [quiet_step, hqu, heq]; simp, hk⟩
      · have heq' : ¬ (s.seen q sp : Int) = (s.time sp : Int) := by omega
        simp -implicitDefEqProofs [e0, e1, e14, e15, e16, hcpu, lseen, heq, heq']
        refine valA_of (hT.a.lines (hp'.buf q hqN) (by have := hs.ll hqN; omega)) (fun u w5 hq5 => ?_)
        obtain ⟨hln, hk5, _⟩ := hq5
        simp only at hln hk5
        have hll := hs.ll hqN
        have hlenS := fun w' => hln.len (w' := w')
        simp -implicitDefEqProofs [hlenS]
        refine loop_go (fun k ρ w' => ∃ r : Nat, k = (s.L q).length - r ∧ r ≤ (s.L q).length ∧ ρ 0 = ptr c ∧ ρ 1 = i64 sp ∧ ρ 14 = a.v ∧ ρ 15 = i64 s.N ∧ ρ 16 = i64 q ∧ ρ 34 = u ∧ ρ 35 = i64 (s.L q).length ∧ ρ 36 = i64 r ∧ (∀ x ∈ (s.L q).take r, x.s ≠ sp) ∧ Keeps w5 w' (fun _ => False)) ?_ (i := (s.L q).length) ?_ (by show (s.L q).length < fuel; omega)
        · rintro k2 ρ2 w6 ⟨r, rfl, hr, e0, e1, e14, e15, e16, e34, e35, e36, hno, hk6⟩
          have w2 : IntKind.i64.wrap ((r : Int) + 1) = (r : Int) + 1 := by rw [IntKind.wrap_i64]; omega
          by_cases hrl : r < (s.L q).length
          · obtain ⟨lb, lo, lcap, lc, hve, hlc, hlsz, hext⟩ := (hln.keep hk6 (fun _ _ h => h)).line hrl
            have hrl' : (r : Int) < (s.L q).length := by omega
            have kb : Keeps w6 (World.set (World.push w6 (.cells zeroL.cells 31)) w6.heap.size (.cells (s.L q)[r].cells 31)) (fun _ => False) :=
              (Keeps.push w6 _ (fun _ => False)).trans (Keeps.set _ w6.heap.size _ (F := fun j => j = w6.heap.size) (fun _ => rfl)) (fun _ _ h => h) (fun j hj h => by omega)
            by_cases hsp : (s.L q)[r].s = sp
            · simp -implicitDefEqProofs [e0, e1, e14, e15, e16, e34, e35, e36, hve, hlc, hlsz, hext, hrl', hrl, hsp]
              exact ⟨(quiet_false hqN heq (List.getElem_mem hrl) hsp).symm ▸ rfl, ((hk.trans hk5 (fun _ _ h => h) (fun _ _ h => h)).trans hk6 (fun _ _ h => h) (fun _ _ h => h)).trans kb (fun _ _ h => h) (fun _ _ h => h)⟩
            · simp -implicitDefEqProofs [e0, e1, e14, e15, e16, e34, e35, e36, hve, hlc, hlsz, hext, hrl', hrl, hsp, w2]
              refine ⟨(s.L q).length - (r + 1), by omega, r + 1, rfl, hrl, by omega, fun x hx => ?_, hk6.trans kb (fun _ _ h => h) (fun _ _ h => h)⟩
              rw [List.take_succ_eq_append_getElem hrl, List.mem_append, List.mem_singleton] at hx
              rcases hx with hx | rfl
              · exact hno x hx
              · exact hsp
          · have hre : r = (s.L q).length := by omega
            subst hre
            rw [List.take_length] at hno
            simp -implicitDefEqProofs [e0, e1, e14, e15, e16, e35, e36, w1]
            refine ⟨s.N - (q + 1), by omega, q + 1, rfl, hqN, hv2, by omega, ?_, (hk.trans hk5 (fun _ _ h => h) (fun _ _ h => h)).trans hk6 (fun _ _ h => h) (fun _ _ h => h)⟩
            rw [quiet_step, hqu]
            simp only [Bool.true_and, Bool.or_eq_true, List.all_eq_true, Bool.not_eq_true', decide_eq_false_iff_not]
            exact .inr hno
        · exact ⟨0, rfl, Nat.zero_le _, by simp [e0], by simp [e1], by simp [e14], by simp [e15], by simp [e16], by simp, by simp, by simp, by simp, Keeps.refl _ _⟩
    · have : q = s.N := by omega
      rw [this] at hqu e16
      simp -implicitDefEqProofs [e15, e16, hqu]
      exact hk
  · exact ⟨0, rfl, Nat.zero_le _, by simp, by simp, by simp, by simp, by simp, by simp [quietA], Keeps.refl _ _⟩

/-! ### New -/
def newA (N : Nat) (size : Int) : CS := ⟨N, size, [], fun _ => [], fun _ _ => 0⟩
def updP (f : Nat → Nat) (i x : Nat) : Nat → Nat := fun j => if j = i then x else f j
theorem updP_at (f : Nat → Nat) (i x : Nat) : updP f i x i = x := by simp [updP]
theorem updP_ne (f : Nat → Nat) {i j : Nat} (x : Nat) (h : j ≠ i) : updP f i x j = f j := by simp [updP, h]
theorem range_upd (f : Nat → Nat) (q x : Nat) : (List.range (q + 1)).map (updP f q x) = (List.range q).map f ++ [x] := by
  rw [List.range_succ, List.map_append]
  congr 1
  · refine List.map_congr_left fun j hj => updP_ne f x ?_
    have := List.mem_range.1 hj; omega
  · simp [updP]

theorem CpuAt.grow {w w4 : World} {c : Nat} {a : Ad} {q : Nat} {size : Int} (h : CpuAt w c a (newA q size)) {b' p' m' : Nat} {v' : Value} (hk : Keeps w w4 (fun b => b = c ∨ blkOf a.v = some b)) (hb : Buf w4 89 b' size []) (hf : ∀ j, foot w4 b' j → w.heap.size ≤ j) (hp : cellsOf? w4 p' = some (#[ptr b', .map (some m')], 98, (0, 0))) (hm : MapAt w4 m' []) (hml : w.heap.size ≤ m')
    (hc : cellsOf? w4 c = some (#[v', .map (some a.sm)], 94, (0, 0))) (hr : RowE (EP 95) w4 v' ((List.range q).map a.pc ++ [p'])) :
    CpuAt w4 c { a with v := v', pc := updP a.pc q p', pb := updP a.pb q b', ps := updP a.ps q m' } (newA (q + 1) size) := by
  have ht : ∀ sp, ¬ 0 < (newA (q + 1) size).time sp := fun sp => by simp [newA, CS.time, flo]
  have hx : ∀ {b cs t}, cellsOf? w b = some (cs, t, (0, 0)) → t ≠ 94 → t ≠ 95 → ¬ (b = c ∨ blkOf a.v = some b) := by
    intro b cs t hb h1 h2 hh
    rcases hh with rfl | hh
    · rw [h.cell] at hb; simp at hb; exact h1 hb.2.symm
    · obtain ⟨_, hc2⟩ := h.row.tag hh
      rw [hc2] at hb; simp [EP] at hb; exact h2 hb.2.symm
  have hn : ∀ {b m}, MapAt w b m → ¬ (b = c ∨ blkOf a.v = some b) := by
    intro b m hb hh
    rcases hh with rfl | hh
    · have := h.cell; rw [hb.nocells] at this; cases this
    · obtain ⟨_, hc2⟩ := h.row.tag hh
      rw [hb.nocells] at hc2; cases hc2
  have hbuf : ∀ i, i < q → Buf w4 89 (a.pb i) size [] ∧ ∀ b, foot w4 (a.pb i) b ↔ foot w (a.pb i) b := fun i hi => (h.buf i hi).keep hk (fun j hj => by
    obtain ⟨cs, t, h1, h2⟩ := (h.buf i hi).tag hj
    exact hx h1 (by rintro rfl; simp at h2) (by rintro rfl; simp at h2))
  have old : ∀ i, i < q + 1 → i = q ∨ (i ≠ q ∧ i < q) := fun i hi => by omega
  refine ⟨hc, ?_, fun i hi => ?_, fun i hi => ?_, fun i hi => ?_, ?_, fun sp hp => absurd hp (ht sp), fun i j hi hj he => ?_, fun i hi => ?_, fun p q hp _ _ => absurd hp (ht p), fun p q b hp _ _ _ => absurd hp (ht p), fun i j hi hj hne b h1 h2 => ?_⟩
  · show RowE (EP 95) w4 v' ((List.range (q + 1)).map (updP a.pc q p'))
    rw [range_upd]; exact hr
  · rcases old i hi with rfl | ⟨hne, hl⟩
    · simp only [updP_at]; exact hp
    · simp only [updP_ne _ _ hne]
      have := h.cpu i hl
      exact hk.cells this (hx this (by decide) (by decide))
  · rcases old i hi with rfl | ⟨hne, hl⟩
    · simp only [updP_at]; exact hb
    · simp only [updP_ne _ _ hne]; exact (hbuf i hl).1
  · rcases old i hi with rfl | ⟨hne, hl⟩
    · simp only [updP_at]; exact ⟨[], hm, fun sp => rfl⟩
    · simp only [updP_ne _ _ hne]
      obtain ⟨ms, h1, h2⟩ := h.seen i hl
      exact ⟨ms, h1.keep hk (hn h1), h2⟩
  · obtain ⟨ms, h1, h2⟩ := h.sm
    exact ⟨ms, h1.keep hk (hn h1), h2⟩
  · have lt : ∀ i, i < q → a.ps i < w.heap.size := fun i hi => by obtain ⟨_, h1, _⟩ := h.seen i hi; exact h1.lt
    rcases old i hi with rfl | ⟨hne, hl⟩ <;> rcases old j hj with rfl | ⟨hne', hl'⟩
    · rfl
    · simp only [updP_at, updP_ne _ _ hne'] at he; have := lt j hl'; omega
    · simp only [updP_at, updP_ne _ _ hne] at he; have := lt i hl; omega
    · simp only [updP_ne _ _ hne, updP_ne _ _ hne'] at he; exact h.injs i j hl hl' he
  · rcases old i hi with rfl | ⟨hne, hl⟩
    · simp only [updP_at]
      obtain ⟨_, h1, _⟩ := h.sm
      have := h1.lt; omega
    · simp only [updP_ne _ _ hne]; exact h.nes i hl
  · have lt : ∀ i, i < q → ∀ b, foot w (a.pb i) b → b < w.heap.size := fun i hi b hf => (h.buf i hi).foot_lt hf
    rcases old i hi with rfl | ⟨hn1, hl⟩ <;> rcases old j hj with rfl | ⟨hn2, hl'⟩
    · exact hne rfl
    · simp only [updP_at, updP_ne _ _ hn2] at h1 h2
      have := hf b h1; have := lt j hl' b (((hbuf j hl').2 b).1 h2); omega
    · simp only [updP_at, updP_ne _ _ hn1] at h1 h2
      have := hf b h2; have := lt i hl b (((hbuf i hl).2 b).1 h1); omega
    · simp only [updP_ne _ _ hn1, updP_ne _ _ hn2] at h1 h2
      exact h.apart i j hl hl' hne b (((hbuf i hl).2 b).1 h1) (((hbuf j hl').2 b).1 h2)

theorem row_pt (te : TypeId) (b : Nat) (w : World) : rowS te 1 1 #[.pointer none] [(0, ptr b)] w = .ret (.slice (some ⟨w.heap.size, 0, none⟩) 1 1, World.push w (.cells #[ptr b] te)) := by
  simp [rowS, Instr.fill]
theorem src_pt {te : TypeId} {w : World} {r b : Nat} {t : TypeId} (h : cellsOf? w r = some (#[ptr b], t, (0, 0))) : SrcE (EP te) w (.slice (some ⟨r, 0, none⟩) 1 1) [b] :=
  .inr ⟨r, 0, 1, _, t, (0, 0), rfl, h, by simp [EP], by simp [EP, flat]⟩

theorem run27 {K : Kont} {fuel : Nat} (hA : Api K) (hfu : 2000 ≤ fuel) {w : World} {n : Nat} {size : Int} (hn : 1 ≤ n ∧ n ≤ 8) (hsz : 1 ≤ size ∧ size ≤ 64) :
    wpGFn Try.prog K fuel 27 g27 #[i64 n, i64 size] w fun v w' => ∃ c a, v = .tuple #[ptr c, i64 0] ∧ CpuAt w' c a (newA n size) ∧ Keeps w w' (fun _ => False) ∧ ∀ i, i < n → ∀ b, foot w' (a.pb i) b → w.heap.size ≤ b := by
  rw [gfn_start]
  have h1 : ¬ (n : Int) < 1 := by omega
  have h2 : ¬ (8 : Int) < n := by omega
  obtain ⟨W, hW⟩ : ∃ W, W = World.push (World.push w (.map #[] 0)) (.cells #[.slice none 0 0, .map (some w.heap.size)] 94) := ⟨_, rfl⟩
  have kW : Keeps w W (fun _ => False) := by rw [hW]; exact (Keeps.push _ _ _).trans (Keeps.push _ _ _) (fun _ _ h => h) (fun _ _ h => h)
  have cW : cellsOf? W (w.heap.size + 1) = some (#[.slice none 0 0, .map (some w.heap.size)], 94, (0, 0)) := by rw [hW]; simp
  have mW : MapAt W w.heap.size [] := by rw [hW]; exact (MapAt.push w).keep (Keeps.push _ _ (fun _ => False)) (fun h => h)
  have hp0 : CpuAt W (w.heap.size + 1) ⟨w.heap.size, .slice none 0 0, fun _ => 0, fun _ => 0, fun _ => 0, fun _ => 0, fun _ => .slice none 0 0⟩ (newA 0 size) := by
    have ht : ∀ sp, ¬ 0 < (newA 0 size).time sp := fun sp => by simp [newA, CS.time, flo]
    have hz : ∀ i, ¬ i < (newA 0 size).N := fun i => Nat.not_lt_zero i
    exact ⟨cW, RowE.nil _, fun i hi => absurd hi (hz i), fun i hi => absurd hi (hz i), fun i hi => absurd hi (hz i), ⟨[], mW, fun sp => by rw [if_neg (ht sp)]; rfl⟩, fun sp h => absurd h (ht sp), fun i j hi => absurd hi (hz i), fun i hi => absurd hi (hz i), fun p q h => absurd h (ht p), fun p q b h => absurd h (ht p), fun i j hi => absurd hi (hz i)⟩
  simp -implicitDefEqProofs [g27, h1, h2, fillS, Instr.fill]
  rw [← hW]
  refine loop_go (fun k ρ w' => ∃ (q : Nat) (a : Ad), k = n - q ∧ q ≤ n ∧ ρ 1 = i64 size ∧ ρ 6 = ptr (w.heap.size + 1) ∧ ρ 18 = i64 n ∧ ρ 19 = i64 q ∧ CpuAt w' (w.heap.size + 1) a (newA q size) ∧ Keeps w w' (fun _ => False) ∧ (∀ i, i < q → ∀ b, foot w' (a.pb i) b → w.heap.size ≤ b) ∧ ∀ b, blkOf a.v = some b → w.heap.size ≤ b) ?_ (i := n) ?_ (by show n < fuel; omega)
  · rintro k ρ w' ⟨q, a, rfl, hq, e1, e6, e18, e19, hp', hk, hft, hvb⟩
    have w1 : IntKind.i64.wrap ((q : Int) + 1) = (q : Int) + 1 := by rw [IntKind.wrap_i64]; omega
    by_cases hqN : q < n
    · have hql' : (q : Int) < n := by omega
      simp -implicitDefEqProofs [e1, e6, e18, e19, hql']
      refine valA_of (hA.new size) (fun u w2 hq => ?_)
      simp only at hq
      rcases hq with ⟨hbad, _⟩ | ⟨_, hu, hb, hk2, hf2⟩
      · omega
      subst hu
      have hc2 := hk2.cells hp'.cell (fun h => h)
      have hr2 := hp'.row.keep hk2 (fun _ _ h => h)
      have hsz2 := hk2.1
      have hbl : w'.heap.size < w2.heap.size := by obtain ⟨_, h, _⟩ := hb; exact cells_lt h
      obtain ⟨W3, hW3⟩ : ∃ W3, W3 = World.push (World.push (World.push w2 (.map #[] 0)) (.cells #[ptr w'.heap.size, .map (some w2.heap.size)] 98)) (.cells #[ptr (w2.heap.size + 1)] 95) := ⟨_, rfl⟩
      have k3 : Keeps w2 W3 (fun _ => False) := by rw [hW3]; exact ((Keeps.push _ _ _).trans (Keeps.push _ _ _) (fun _ _ h => h) (fun _ _ h => h)).trans (Keeps.push _ _ _) (fun _ _ h => h) (fun _ _ h => h)
      have n3 : ¬ w.heap.size + 1 = w2.heap.size := Nat.ne_of_lt (cells_lt hc2)
      have n4 : ¬ w.heap.size + 1 = w2.heap.size + 1 := by have := cells_lt hc2; omega
      have n5 : ¬ w.heap.size + 1 = w2.heap.size + 1 + 1 := by have := cells_lt hc2; omega
      have m3 : MapAt W3 w2.heap.size [] := by rw [hW3]; exact ((MapAt.push w2).keep (Keeps.push _ _ (fun _ => False)) (fun h => h)).keep (Keeps.push _ _ (fun _ => False)) (fun h => h)
      have c3 : cellsOf? W3 (w2.heap.size + 1) = some (#[ptr w'.heap.size, .map (some w2.heap.size)], 98, (0, 0)) := by rw [hW3]; simp
      have s3 : cellsOf? W3 (w2.heap.size + 2) = some (#[ptr (w2.heap.size + 1)], 95, (0, 0)) := by rw [hW3]; simp
      have hr3 := hr2.keep k3 (fun _ _ h => h)
      have hc3 := k3.cells hc2 (fun h => h)
      have z3 : W3.heap.size = w2.heap.size + 3 := by rw [hW3]; simp
      simp -implicitDefEqProofs [e1, e6, e18, e19, hc2, fillS, Instr.fill, row_pt, n3, n4, n5]
      rw [← hW3]
      refine appE (E := EP 95) (by_ := 8) hr3 (src_pt s3) (by simp [newA]; omega) (by decide) (fun v4 w4 hr4 hk4 _ hb4 => ?_)
      have hb4 := hb4 (by simp)
      have hb4s : ∀ b, blkOf v4 = some b → b = W3.heap.size := fun b hb => by rw [hb4] at hb; exact (Option.some.inj hb).symm
      have nv : ∀ b, blkOf a.v = some b → ¬ b = w.heap.size + 1 := fun b hb e => by
        obtain ⟨_, h⟩ := hp'.row.tag hb
        rw [e, hp'.cell] at h; simp [EP] at h
      have hc4 := hk4.cells hc3 (fun h => nv _ h rfl)
      have hlt4 := cells_lt hc4
      have one4 := hr4.one
      have cel4 := hr4.cells1
      have ks : Keeps w4 (World.set w4 (w.heap.size + 1) (.cells #[v4, .map (some a.sm)] 94)) (fun b => b = w.heap.size + 1) := Keeps.set _ _ _ fun _ => rfl
      have k34 : Keeps W3 (World.set w4 (w.heap.size + 1) (.cells #[v4, .map (some a.sm)] 94)) (fun b => b = w.heap.size + 1 ∨ blkOf a.v = some b) := hk4.trans ks (fun _ _ h => .inr h) (fun _ _ h => .inl h)
      have kfin : Keeps w' (World.set w4 (w.heap.size + 1) (.cells #[v4, .map (some a.sm)] 94)) (fun b => b = w.heap.size + 1 ∨ blkOf a.v = some b) := (hk2.trans k3 (fun _ _ h => h) (fun _ _ h => h)).trans k34 (fun _ _ h => h.elim) (fun _ _ h => h)
      have big : ∀ b, (b = w.heap.size + 1 ∨ blkOf a.v = some b) → b < w'.heap.size := fun b h => by
        rcases h with rfl | h
        · exact cells_lt hp'.cell
        · exact hp'.row.block_lt h
      have hbuf : Buf (World.set w4 (w.heap.size + 1) (.cells #[v4, .map (some a.sm)] 94)) 89 w'.heap.size size [] ∧ ∀ j, foot (World.set w4 (w.heap.size + 1) (.cells #[v4, .map (some a.sm)] 94)) w'.heap.size j ↔ foot w2 w'.heap.size j := hb.keep (k3.trans k34 (H := fun b => b = w.heap.size + 1 ∨ blkOf a.v = some b) (fun _ _ h => h.elim) (fun _ _ h => h)) (fun j hj h => by
        have := hf2 j hj; have := big j h; omega)
      have hnew : ∀ j, foot (World.set w4 (w.heap.size + 1) (.cells #[v4, .map (some a.sm)] 94)) w'.heap.size j → w'.heap.size ≤ j := fun j hj => by have := hf2 j ((hbuf.2 j).1 hj); omega
      have hgrow := hp'.grow (b' := w'.heap.size) (p' := w2.heap.size + 1) (m' := w2.heap.size) (v' := v4) kfin hbuf.1 hnew (k34.cells c3 (fun h => by have := big _ h; omega)) (m3.keep k34 (fun h => by have := big _ h; omega)) (by omega) (by simp [hlt4]) (hr4.keep ks (fun b hb e => by have := hb4s b hb; have := cells_lt hc3; omega))
      simp -implicitDefEqProofs [e1, e6, e18, e19, hc4, hlt4, one4, cel4, w1]
      refine ⟨n - (q + 1), by omega, q + 1, rfl, hqN, by omega, _, hgrow, hk.trans kfin (fun _ _ h => h) (fun j hj h => ?_), fun i hi b hb => ?_, fun b hb => ?_⟩
      · rcases h with h | h
        · omega
        · have := hvb j h; omega
      · by_cases he : i = q
        · subst he
          simp only [updP_at] at hb
          have := hnew b hb; have := hk.1; omega
        · simp only [updP_ne _ _ he] at hb
          have hbi := (hp'.buf i (show i < q by omega)).keep kfin (fun j hj h => by
            obtain ⟨cs, t, g1, g2⟩ := (hp'.buf i (show i < q by omega)).tag hj
            rcases h with h | h
            · rw [h, hp'.cell] at g1; simp at g1; rw [← g1.2] at g2; simp at g2
            · obtain ⟨_, g3⟩ := hp'.row.tag h
              rw [g3] at g1; simp [EP] at g1; rw [← g1.2] at g2; simp at g2)
          exact hft i (by omega) b ((hbi.2 b).1 hb)
      · simp only at hb
        rw [hb4] at hb; simp at hb; have := hk.1; omega
    · have : q = n := by omega
      subst this
      simp -implicitDefEqProofs [e6, e18, e19]
      exact ⟨a, hp', hk, hft⟩
  · exact ⟨0, _, rfl, Nat.zero_le _, by simp, by simp, by simp, by simp, hp0, kW, fun i hi => absurd hi (Nat.not_lt_zero i), fun b hb => by cases hb⟩
end Go.Proofs.Ytplcocifndpplaa
