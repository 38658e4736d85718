/-
  Processors: the document's Catch.
-/
import Derived.Test.YtplcocifndpplaaCj
namespace Go.Proofs.Ytplcocifndpplaa
open Go Go.Ideal

def t55 : GC := (.ops [.grp none [⟨some 72, none, .move (.tmp 0), []⟩, ⟨some 73, none, .move (.tmp 0), []⟩, ⟨some 74, none, .nonnil (.tmp 73), []⟩, ⟨some 75, none, .faddr 2 (.tmp 74), []⟩, ⟨some 76, none, .load none (.tmp 75), []⟩, ⟨some 77, none, .move (.tmp 1), []⟩, ⟨some 78, none, .move (.tmp 2), []⟩, ⟨some 79, none, .move (.tmp 6), []⟩, ⟨some 80, none, .build #[(0, 1), (1, 1), (2, 1)] #[.int .i64 0, .int .i64 0, .int .i64 0] [(0, .tmp 77), (1, .tmp 78), (2, .tmp 79)], []⟩, ⟨some 81, none, .row 122 3 1 #[.int .i64 0, .int .i64 0, .int .i64 0] [(0, .tmp 80)], []⟩, ⟨some 82, none, .append 122 3 24 (.tmp 76) (.tmp 81), []⟩, ⟨some 83, none, .nonnil (.tmp 72), []⟩, ⟨some 84, none, .faddr 2 (.tmp 83), []⟩, ⟨none, none, .store 1 (.tmp 84) (.tmp 82), []⟩]])
theorem g55_eq : g55 = ⟨85, [], .seq (.ops [.grp none [⟨some 10, none, .move (.tmp 0), []⟩, ⟨some 11, none, .move (.tmp 2), []⟩, ⟨some 12, none, .call 67 #[.tmp 10, .tmp 11], []⟩, ⟨some 6, none, .move (.tmp 12), []⟩]]) 
 (.seq (.ops [.grp none [⟨some 13, none, .move (.tmp 0), []⟩, ⟨some 14, none, .move (.tmp 1), []⟩, ⟨some 15, none, .move (.tmp 2), []⟩, ⟨some 16, none, .call 68 #[.tmp 13, .tmp 14, .tmp 15], []⟩, ⟨some 7, none, .move (.tmp 16), []⟩]]) 
 (.seq 
 (.seq (.ops [.grp none [⟨some 17, none, .move (.tmp 6), []⟩, ⟨some 18, none, .move (.tmp 7), []⟩, ⟨some 19, none, .bin .eql 3 (.tmp 17) (.tmp 18), []⟩]]) 
 (.cond (.tmp 19) .ret .skip)) 
 (.seq 
 (.seq (.ops [.grp none [⟨some 20, none, .move (.tmp 6), []⟩, ⟨some 21, none, .move (.tmp 7), []⟩, ⟨some 22, none, .bin .sub 3 (.tmp 20) (.tmp 21), []⟩, ⟨some 23, none, .bin .gtr 3 (.tmp 22) (.const (.int .i64 8)), []⟩]]) 
 (.cond (.tmp 23) (.ops [.grp none [⟨some 24, none, .move (.tmp 0), []⟩, ⟨some 25, none, .nonnil (.tmp 24), []⟩, ⟨some 26, none, .faddr 0 (.tmp 25), []⟩, ⟨some 27, none, .load none (.tmp 26), []⟩, ⟨some 28, none, .move (.tmp 1), []⟩, ⟨some 29, none, .iaddr 1 (.tmp 27) (.tmp 28), []⟩, ⟨some 30, none, .load none (.tmp 29), []⟩, ⟨some 31, none, .move (.tmp 2), []⟩, ⟨some 32, none, .call 23 #[.tmp 30, .tmp 31, .const (.int .i64 0), .const (.int .i64 4096)], []⟩]]) 
 (.seq (.ops [.grp none [⟨some 8, none, .move (.const (.int .i64 0)), []⟩]]) 
 (.block 0 
 (.loop 
 (.seq 
 (.seq (.ops [.grp none [⟨some 33, none, .move (.tmp 8), []⟩, ⟨some 34, none, .move (.tmp 0), []⟩, ⟨some 35, none, .nonnil (.tmp 34), []⟩, ⟨some 36, none, .faddr 1 (.tmp 35), []⟩, ⟨some 37, none, .load none (.tmp 36), []⟩, ⟨some 38, none, .len (.tmp 37), []⟩, ⟨some 39, none, .bin .lss 3 (.tmp 33) (.tmp 38), []⟩]]) 
 (.cond (.tmp 39) .skip (.exit 0))) 
 (.seq 
 (.block 1 
 (.seq (.ops [.grp none [⟨some 42, none, .move (.tmp 0), []⟩, ⟨some 43, none, .nonnil (.tmp 42), []⟩, ⟨some 44, none, .faddr 1 (.tmp 43), []⟩, ⟨some 45, none, .load none (.tmp 44), []⟩, ⟨some 46, none, .move (.tmp 8), []⟩, ⟨some 47, none, .iaddr 4 (.tmp 45) (.tmp 46), []⟩, ⟨some 48, none, .load (some 4) (.tmp 47), []⟩, ⟨some 9, none, .zero 117 #[.int .i64 0, .int .i64 0, .int .i64 0, .int .i64 0], []⟩, ⟨none, none, .store 4 (.tmp 9) (.tmp 48), []⟩]]) 
 (.seq (.ops [.grp none [⟨some 49, none, .faddr 0 (.tmp 9), []⟩, ⟨some 50, none, .load none (.tmp 49), []⟩, ⟨some 51, none, .move (.tmp 2), []⟩, ⟨some 52, none, .bin .eql 3 (.tmp 50) (.tmp 51), []⟩, ⟨some 53, none, .move (.tmp 52), []⟩],
  .grp (some (some 53, true)) [⟨some 54, none, .faddr 3 (.tmp 9), []⟩, ⟨some 55, none, .load none (.tmp 54), []⟩, ⟨some 56, none, .move (.tmp 7), []⟩, ⟨some 57, none, .bin .gtr 3 (.tmp 55) (.tmp 56), []⟩],
  .grp none [⟨some 58, none, .pick (.tmp 53) (.tmp 57) (.const (.bool false)), []⟩]]) 
 (.cond (.tmp 58) (.ops [.grp none [⟨some 59, none, .move (.tmp 0), []⟩, ⟨some 60, none, .nonnil (.tmp 59), []⟩, ⟨some 61, none, .faddr 0 (.tmp 60), []⟩, ⟨some 62, none, .load none (.tmp 61), []⟩, ⟨some 63, none, .move (.tmp 1), []⟩, ⟨some 64, none, .iaddr 1 (.tmp 62) (.tmp 63), []⟩, ⟨some 65, none, .load none (.tmp 64), []⟩, ⟨some 66, none, .move (.tmp 2), []⟩, ⟨some 67, none, .faddr 1 (.tmp 9), []⟩, ⟨some 68, none, .load none (.tmp 67), []⟩, ⟨some 69, none, .faddr 2 (.tmp 9), []⟩, ⟨some 70, none, .load none (.tmp 69), []⟩, ⟨some 71, none, .call 23 #[.tmp 65, .tmp 66, .tmp 68, .tmp 70], []⟩]]) .skip)))) (.ops [.grp none [⟨some 40, none, .move (.tmp 8), []⟩, ⟨some 41, none, .bin .add 3 (.tmp 40) (.const (.int .i64 1)), []⟩, ⟨some 8, none, .move (.tmp 41), []⟩]])))))))) t55)))⟩ := rfl

theorem row_sw (a b c : Int) (w : World) : rowS 122 3 1 #[.int .i64 0, .int .i64 0, .int .i64 0] [(0, .agg #[.int .i64 a, .int .i64 b, .int .i64 c])] w = .ret (.slice (some ⟨w.heap.size, 0, none⟩) 1 1, World.push w (.cells #[i64 a, i64 b, i64 c] 122)) := by
  simp [rowS, Instr.fill]
theorem row_lt (a b c d : Int) (w : World) : rowS 117 4 1 #[.int .i64 0, .int .i64 0, .int .i64 0, .int .i64 0] [(0, .agg #[.int .i64 a, .int .i64 b, .int .i64 c, .int .i64 d])] w = .ret (.slice (some ⟨w.heap.size, 0, none⟩) 1 1, World.push w (.cells #[i64 a, i64 b, i64 c, i64 d] 117)) := by
  simp [rowS, Instr.fill]
theorem src_sw {w : World} {r : Nat} {q : Sw} {t : TypeId} (h : cellsOf? w r = some (#[i64 q.c, i64 q.s, i64 q.t], t, (0, 0))) : SrcE EW w (.slice (some ⟨r, 0, none⟩) 1 1) [q] :=
  .inr ⟨r, 0, 1, _, t, (0, 0), rfl, h, by simp [EW], by simp [EW, flat]⟩
theorem src_lt {w : World} {r : Nat} {q : Fl × Int} {t : TypeId} (h : cellsOf? w r = some (#[i64 q.1.s, i64 q.1.p, i64 q.1.n, i64 q.2], t, (0, 0))) : SrcE EA w (.slice (some ⟨r, 0, none⟩) 1 1) [q] :=
  .inr ⟨r, 0, 1, _, t, (0, 0), rfl, h, by simp [EA], by simp [EA, flat]⟩

/-- A time that was seen is noted. -/
theorem saw_go {w : World} {x : Nat} {r : Rd} {s : CS} {C : Nat} (h : RefAt w x r s C) (hC : C ≤ 100000) {i : Nat} {sp : Int} {t : Nat} {Q : Value × World → Prop}
    (hq : ∀ v' w', cellsOf? w' x = some (#[r.bv, r.av, r.sv], 114, (0, 0)) → x < w'.heap.size → v'.cells = #[v'] → one1 v' = true → (RefAt (World.set w' x (.cells #[r.bv, r.av, v'] 114)) x { r with sv := v' } (setSeen s i sp t) (C + 1) ∧ MvR w (World.set w' x (.cells #[r.bv, r.av, v'] 114)) s r) → Q (v', w')) :
    (appendS 122 3 24 r.sv (.slice (some ⟨w.heap.size, 0, none⟩) 1 1) (World.push w (.cells #[i64 i, i64 sp, i64 t] 122))).all Q := by
  obtain ⟨sl, h1, h2, h3⟩ := h.saw
  have kp : Keeps w (World.push w (.cells #[i64 i, i64 sp, i64 t] 122)) (fun _ => False) := Keeps.push _ _ _
  refine appE (E := EW) (by_ := 24) (h1.keep kp (fun _ _ h => h)) (src_sw (q := ⟨i, sp, t⟩) (t := 122) (by simp)) (by simp; omega) (by decide) (fun v4 w4 hr4 hk4 _ hb4 => ?_)
  have hb4 := hb4 (by simp)
  have nx : ∀ b, blkOf r.sv = some b → ¬ b = x := fun b hb e => by
    obtain ⟨_, hc⟩ := h1.tag hb
    rw [e, h.cell] at hc; simp [EW] at hc
  have k4 : Keeps w w4 (fun b => blkOf r.sv = some b) := kp.trans hk4 (fun _ _ h => h.elim) (fun _ _ h => h)
  have c4 := k4.cells h.cell (fun hb => nx _ hb rfl)
  have hlt4 := cells_lt c4
  have ks : Keeps w4 (World.set w4 x (.cells #[r.bv, r.av, v4] 114)) (fun b => b = x) := Keeps.set _ _ _ fun _ => rfl
  have hxlt := cells_lt h.cell
  refine hq v4 w4 c4 hlt4 hr4.cells1 hr4.one ?_
  refine h.rows (F := fun b => b = x ∨ blkOf r.sv = some b) (k4.trans ks (fun _ _ h => .inr h) (fun _ _ h => .inl h)) (fun b hb => hb.imp (fun h => h) fun hb => ?_) (by simp [hlt4]) rfl rfl rfl ?_ ⟨sl ++ [⟨i, sp, t⟩], hr4.keep ks (fun b hb e => by rw [hb4] at hb; simp at hb; omega), by simp; exact h2, fun j q => ?_⟩
  · obtain ⟨_, hc⟩ := h1.tag hb
    exact ⟨_, _, hc, .inr rfl⟩
  · obtain ⟨xs, g1, g2⟩ := h.all
    refine ⟨xs, g1.keep (k4.trans ks (H := fun b => b = x ∨ blkOf r.sv = some b) (fun _ _ h => .inr h) (fun _ _ h => .inl h)) fun b hb hh => ?_, g2⟩
    obtain ⟨_, hc⟩ := g1.tag hb
    rcases hh with rfl | hh
    · rw [h.cell] at hc; simp [EA] at hc
    · obtain ⟨_, hc2⟩ := h1.tag hh
      rw [hc2] at hc; simp [EA, EW] at hc
  · rw [sawL_snoc, setSeen_at, h3]
    by_cases e : j = i
    · subst e
      by_cases e2 : q = sp
      · simp [e2]
      · have e3 : ¬ sp = q := fun h => e2 h.symm
        simp [e2, e3]
    · have e3 : ¬ (i : Int) = (j : Int) := by omega
      simp [e, e3]

theorem foldF_drop {s : CS} {i : Nat} {sp : Int} {was q : Nat} (hq : q < s.A.length) : foldF (s.L i) sp ((flo (s.A.take (q + 1)) sp).drop was) =
    if s.A[q].s = sp ∧ was < (flo (s.A.take (q + 1)) sp).length then flushL (foldF (s.L i) sp ((flo (s.A.take q) sp).drop was)) sp s.A[q].p s.A[q].n else foldF (s.L i) sp ((flo (s.A.take q) sp).drop was) := by
  have htake : s.A.take (q + 1) = s.A.take q ++ [s.A[q]] := by rw [List.take_succ_eq_append_getElem hq]
  rw [htake, flo_snoc]
  by_cases h : s.A[q].s = sp
  · rw [if_pos h]
    by_cases h2 : was ≤ (flo (s.A.take q) sp).length
    · rw [if_pos ⟨h, by simp; omega⟩, List.drop_append_of_le_length h2, foldF_snoc]
    · rw [if_neg (by simp; omega), List.drop_eq_nil_of_le (by simp; omega), List.drop_eq_nil_of_le (by omega)]
  · rw [if_neg h, if_neg (fun hh => h hh.1)]

theorem run55 {K : Kont} {fuel : Nat} (hA : Api K) (hT : ∀ {w : World} {x : Nat} {r : Rd} {s : CS} {B C : Nat}, RefAt w x r s C → s.ok B → B ≤ 1000 → ∀ sp, (K.enter 67 #[ptr x, i64 sp] w).all fun r => r.1 = i64 (s.time sp) ∧ r.2 = w)
    (hS : ∀ {w : World} {x : Nat} {r : Rd} {s : CS} {C : Nat}, RefAt w x r s C → C < 20000 → ∀ (i : Nat) sp, (K.enter 68 #[ptr x, i64 i, i64 sp] w).all fun r => r.1 = i64 (s.seen i sp) ∧ r.2 = w) (hf : 2000 ≤ fuel)
    {w : World} {x : Nat} {r : Rd} {s : CS} {B C : Nat} (hp : RefAt w x r s C) (hs : s.ok B) (hB : B ≤ 1000) (hC : C < 20000) {i : Nat} (hi : i < s.N) (sp : Int) :
    wpGFn Try.prog K fuel 55 g55 #[ptr x, i64 i, i64 sp] w fun _ w' => ∃ r', r'.pb = r.pb ∧ RefAt w' x r' (catchA s i sp) (C + 1) ∧ MvR w w' s r := by
  rw [gfn_start]
  simp -implicitDefEqProofs [g55_eq]
  refine valA_of (hT hp hs hB sp) (fun u w1 hq => ?_)
  obtain ⟨hu, hw⟩ := hq
  simp only at hu hw
  subst hu hw
  simp -implicitDefEqProofs
  refine valA_of (hS hp hC i sp) (fun u w1 hq => ?_)
  obtain ⟨hu, hw⟩ := hq
  simp only at hu hw
  subst hu hw
  have hle := hs.seen i sp hi
  have htl := hs.time_le sp
  have hlA := hs.len
  by_cases heq : s.seen i sp = s.time sp
  · have heq2 : (s.time sp : Int) = (s.seen i sp : Int) := by omega
    simp -implicitDefEqProofs [heq]
    rw [catchA_same heq]
    exact ⟨r, rfl, hp.mono (by omega), MoveC.refl _ _ _ _ _⟩
  have hne : ¬ ((s.time sp : Int) = (s.seen i sp : Int)) := by omega
  have hne' : ¬ s.time sp = s.seen i sp := fun h => heq h.symm
  have wd : IntKind.i64.wrap ((s.time sp : Int) - (s.seen i sp : Int)) = (s.time sp : Int) - (s.seen i sp : Int) := by rw [IntKind.wrap_i64]; omega
  obtain ⟨b, o, cap, cs, hv, hc, hsz, hat⟩ := hp.row.ptr (i := i) (by simpa using hi)
  have hv2 : r.bv = .slice (some ⟨b, o, none⟩) s.N cap := by simpa using hv
  simp only [List.getElem_map, List.getElem_range] at hat
  have hi' : (i : Int) < s.N := by omega
  have fin : ∀ {w3 : World} {X : List Line} {ρ : Env}, RefAt w3 x r (setLn s i X) C → MvR w1 w3 s r → X = catchL (s.L i) sp (flo s.A sp) (s.seen i sp) → ρ 0 = ptr x → ρ 1 = i64 i → ρ 2 = i64 sp → ρ 6 = i64 (s.time sp) →
      codeR ⟨Try.prog, K, fuel, 55, none, 85, finPost Try.prog [] fun _ w' => ∃ r', r'.pb = r.pb ∧ RefAt w' x r' (catchA s i sp) (C + 1) ∧ MvR w1 w' s r⟩ t55 [] ρ [] w3 := by
    intro w3 X ρ hp3 mv hX e0 e1 e2 e6
    have nx : ¬ x = w3.heap.size := Nat.ne_of_lt (cells_lt hp3.cell)
    simp -implicitDefEqProofs [t55, e0, e1, e2, e6, hp3.cell, fillS, Instr.fill, row_sw]
    refine saw_go hp3 (by omega) (i := i) (sp := sp) (t := s.time sp) (fun v4 w4 c4 l4 cel4 one4 hfin => ?_)
    simp -implicitDefEqProofs [e0, c4, l4, cel4, one4]
    obtain ⟨h1, h2⟩ := hfin
    subst hX
    exact ⟨{ r with sv := v4 }, rfl, h1, mv.trans h2⟩
  by_cases h8 : 8 < s.time sp - s.seen i sp
  · have h8' : (8 : Int) < (s.time sp : Int) - (s.seen i sp : Int) := by omega
    simp -implicitDefEqProofs [hne, hne', wd, h8', hp.cell, hv2, hc, hat, hi', hi]
    refine valA_of (hA.flush9.go (hp.buf i hi) (hs.right hi) (by have := hs.ll hi; omega) sp 0 4096 ⟨by omega, by omega⟩ ⟨by omega, by omega⟩) (fun u w3 hq3 => ?_)
    obtain ⟨hu, hlay⟩ := hq3
    simp only at hu hlay
    obtain ⟨hp3, m3⟩ := hp.lay hi hlay
    simp -implicitDefEqProofs
    exact fin hp3 m3 (by unfold catchL; rw [if_neg (show ¬ s.seen i sp = (flo s.A sp).length from heq), if_pos (show 8 < (flo s.A sp).length - s.seen i sp from h8)]) (by simp) (by simp) (by simp) (by simp)
  · have h8' : ¬ (8 : Int) < (s.time sp : Int) - (s.seen i sp : Int) := by omega
    simp -implicitDefEqProofs [hne, hne', wd, h8']
    refine loop_go (fun k ρ w' => ∃ q : Nat, k = s.A.length - q ∧ q ≤ s.A.length ∧ ρ 0 = ptr x ∧ ρ 1 = i64 i ∧ ρ 2 = i64 sp ∧ ρ 6 = i64 (s.time sp) ∧ ρ 7 = i64 (s.seen i sp) ∧ ρ 8 = i64 q ∧ RefAt w' x r (setLn s i (foldF (s.L i) sp ((flo (s.A.take q) sp).drop (s.seen i sp)))) C ∧ MvR w1 w' s r) ?_ (i := s.A.length) ?_ (by show s.A.length < fuel; omega)
    · rintro k ρ w' ⟨q, rfl, hq, e0, e1, e2, e6, e7, e8, hp', mv⟩
      have w1' : IntKind.i64.wrap ((q : Int) + 1) = (q : Int) + 1 := by rw [IntKind.wrap_i64]; omega
      obtain ⟨xs, hxs, hxl, hxa⟩ := hp'.all
      simp only [setLn_A] at hxl hxa
      by_cases hql : q < s.A.length
      · have hql' : (q : Int) < s.A.length := by omega
        obtain ⟨ab, ao, acap, ac, hav, hac, hasz, hext, _⟩ := hxs.at (i := q) (by omega)
        rw [hxa q (by omega) hql] at hext
        rw [hxl] at hav
        simp only [EA] at hac hasz hext
        have hstep := foldF_drop (s := s) (i := i) (sp := sp) (was := s.seen i sp) hql
        obtain ⟨tt, htt⟩ : ∃ tt, tt = (flo (s.A.take (q + 1)) s.A[q].s).length := ⟨_, rfl⟩
        rw [← htt] at hext
        have kb : Keeps w' (World.set (World.push w' (.cells #[i64 0, i64 0, i64 0, i64 0] 117)) w'.heap.size (.cells #[i64 s.A[q].s, i64 s.A[q].p, i64 s.A[q].n, i64 tt] 117)) (fun _ => False) :=
          (Keeps.push w' _ (fun _ => False)).trans (Keeps.set _ w'.heap.size _ (F := fun j => j = w'.heap.size) (fun _ => rfl)) (fun _ _ h => h) (fun j hj h => by omega)
        obtain ⟨hp2, hf2⟩ := hp'.keep kb (fun _ _ h => h)
        have m2 := MoveC.newR (T := TRW) (M := False) hp' kb
        have n0 : ¬ x = w'.heap.size := Nat.ne_of_lt (cells_lt hp'.cell)
        have hx' := hp'.cell
        obtain ⟨b, o, cap, cs, hv, hc, hsz, hat⟩ := hp'.row.ptr (i := i) (by simpa using hi)
        have hv2 : r.bv = .slice (some ⟨b, o, none⟩) s.N cap := by simpa using hv
        simp only [List.getElem_map, List.getElem_range] at hat
        have nb : ¬ b = w'.heap.size := Nat.ne_of_lt (cells_lt hc)
        by_cases hsp : s.A[q].s = sp
        · by_cases hw : s.seen i sp < tt
          · have hw' : (s.seen i sp : Int) < (tt : Int) := by omega
            rw [if_pos ⟨hsp, by rw [hsp] at htt; omega⟩] at hstep
            have hin := hs.fl s.A[q] (List.getElem_mem hql)
            have hok : (setLn s i (foldF (s.L i) sp ((flo (s.A.take q) sp).drop (s.seen i sp)))).ok B := hs.setLn ((hs.good i hi).sub (foldF_sub _ _ _))
            simp -implicitDefEqProofs [e0, e1, e2, e6, e7, e8, hx', hav, hac, hasz, hext, hql', hql, n0, hsp, hw, hw', hv2, hc, hat, hi', hi, nb]
            rw [hsp] at hp2 kb
            refine valA_of (hA.flush9.go (hp2.buf i hi) (hok.right hi) (by have := hok.ll hi; omega) sp s.A[q].p s.A[q].n hin.1 hin.2.1) (fun u w3 hq3 => ?_)
            obtain ⟨hu, hlay⟩ := hq3
            simp only at hu hlay
            obtain ⟨hp3, m3⟩ := hp2.lay hi hlay
            rw [setLn_twice, setLn_at, ← hstep] at hp3
            rw [hsp] at m2
            simp -implicitDefEqProofs [e0, e1, e2, e6, e7, e8, w1']
            exact ⟨s.A.length - (q + 1), by omega, q + 1, rfl, hql, by omega, hp3, (mv.trans m2).trans m3⟩
          · have hw' : ¬ (s.seen i sp : Int) < (tt : Int) := by omega
            rw [if_neg (fun h => by have := h.2; rw [hsp] at htt; omega)] at hstep
            simp -implicitDefEqProofs [e0, e1, e2, e6, e7, e8, hx', hav, hac, hasz, hext, hql', hql, n0, hsp, hw, hw', w1']
            rw [hsp] at hp2 m2
            exact ⟨s.A.length - (q + 1), by omega, q + 1, rfl, hql, by omega, by rw [hstep]; exact hp2, mv.trans m2⟩
        · rw [if_neg (fun h => hsp h.1)] at hstep
          simp -implicitDefEqProofs [e0, e1, e2, e6, e7, e8, hx', hav, hac, hasz, hext, hql', hql, n0, hsp, w1']
          exact ⟨s.A.length - (q + 1), by omega, q + 1, rfl, hql, by omega, by rw [hstep]; exact hp2, mv.trans m2⟩
      · have : q = s.A.length := by omega
        have hl := fun w' => hxs.lenS (w' := w')
        simp only [hxl] at hl
        rw [this, List.take_length] at hp'
        rw [this] at e8
        simp -implicitDefEqProofs [e0, e8, hp'.cell, hl]
        exact fin hp' mv (by unfold catchL; rw [if_neg (show ¬ s.seen i sp = (flo s.A sp).length from heq), if_neg (show ¬ 8 < (flo s.A sp).length - s.seen i sp from h8)]) e0 e1 e2 e6
    · refine ⟨0, rfl, Nat.zero_le _, by simp, by simp, by simp, by simp, by simp, by simp, ?_, MoveC.refl _ _ _ _ _⟩
      have e : (flo (s.A.take 0) sp).drop (s.seen i sp) = [] := by simp [flo]
      rw [e]
      show RefAt w1 x r (setLn s i (s.L i)) C
      rw [setLn_self]; exact hp

structure Doc (K : Kont) : Prop where
  a : Api K
  is : ∀ {w : World} {x : Nat} {r : Rd} {s : CS} {C : Nat}, RefAt w x r s C → ∀ n, (K.enter 54 #[ptr x, i64 n] w).all fun y => y.1 = .bool (decide (isN s n)) ∧ y.2 = w
  time : ∀ {w : World} {x : Nat} {r : Rd} {s : CS} {B C : Nat}, RefAt w x r s C → s.ok B → B ≤ 1000 → ∀ sp, (K.enter 67 #[ptr x, i64 sp] w).all fun r => r.1 = i64 (s.time sp) ∧ r.2 = w
  seen : ∀ {w : World} {x : Nat} {r : Rd} {s : CS} {C : Nat}, RefAt w x r s C → C < 20000 → ∀ (i : Nat) sp, (K.enter 68 #[ptr x, i64 i, i64 sp] w).all fun r => r.1 = i64 (s.seen i sp) ∧ r.2 = w
  go : ∀ {w : World} {x : Nat} {r : Rd} {s : CS} {B C : Nat}, RefAt w x r s C → s.ok B → B ≤ 1000 → C < 20000 → ∀ {i : Nat}, i < s.N → ∀ sp, (K.enter 55 #[ptr x, i64 i, i64 sp] w).all fun y => ∃ r', r'.pb = r.pb ∧ RefAt y.2 x r' (catchA s i sp) (C + 1) ∧ MvR w y.2 s r
theorem docs (m : Nat) (hm : 20000 ≤ m) : Doc (runA Try.prog sp5 (m + 7)) where
  a := api (m + 2) (by omega)
  is := fun hp n => enter_ok (m := m + 6) low54 rfl (run54 hp n)
  time := fun hp hs hB sp => enter_ok (m := m + 6) low67 rfl (run67 (by omega) hp hs hB sp)
  seen := fun hp hC i sp => enter_ok (m := m + 6) low68 rfl (run68 (by omega) hp hC i sp)
  go := fun hp hs hB hC _ hi sp => enter_ok (m := m + 6) low55 rfl (run55 (api (m + 1) (by omega)) (fun hp hs hB sp => enter_ok (m := m + 5) low67 rfl (run67 (by omega) hp hs hB sp)) (fun hp hC i sp => enter_ok (m := m + 5) low68 rfl (run68 (by omega) hp hC i sp)) (by omega) hp hs hB hC hi sp)
end Go.Proofs.Ytplcocifndpplaa
