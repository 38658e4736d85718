/-
  Processors: a processor catches up.
-/
import Derived.Test.YtplcocifndpplaaCd
namespace Go.Proofs.Ytplcocifndpplaa
open Go Go.Ideal

theorem run51 {K : Kont} {fuel : Nat} (hT : Told K) {w : World} {c : Nat} {a : Ad} {s : CS} {B : Nat} (hp : CpuAt w c a s) (hs : s.ok B) (hB : B ≤ 1000) {i : Nat} (hi : i < s.N) (sp : Int) :
    wpGFn Try.prog K fuel 51 g51 #[ptr c, ptr (a.pc i), i64 sp] w fun _ w' => CpuAt w' c a (catchA s i sp) ∧ One w w' a i (fun b => b = a.ps i) := by
  rw [gfn_start]
  obtain ⟨W, hW⟩ : ∃ W, W = World.push (World.push w (.cells #[ptr (a.pc i)] 95)) (.cells #[i64 sp] 3) := ⟨_, rfl⟩
  have k2 : Keeps w W (fun _ => False) := by rw [hW]; exact (Keeps.push _ _ _).trans (Keeps.push _ _ _) (fun _ _ h => h) (fun _ _ h => h)
  have c4 : cellsOf? W w.heap.size = some (#[ptr (a.pc i)], 95, (0, 0)) := by rw [hW]; simp
  have c5 : cellsOf? W (w.heap.size + 1) = some (#[i64 sp], 3, (0, 0)) := by rw [hW]; simp
  obtain ⟨hp2, _⟩ := hp.keep k2 (fun _ _ h => h)
  have ho2 : One w W a i (fun b => b = a.ps i) := One.new hp hi k2
  obtain ⟨m, hm, hget⟩ := hp2.sm
  obtain ⟨ms, hms, hgs⟩ := hp2.seen i hi
  have hcpu := hp2.cpu i hi
  have hle := hs.seen i sp hi
  have htl := hs.time_le sp
  have lseen := lookD (z := i64 0) (v := i64 (s.seen i sp)) (i := sp) hms (hgs sp)
  by_cases h : 0 < s.time sp
  · have hl := lookD (z := .pointer none) (v := ptr (a.px sp)) (i := sp) hm (by rw [hget, if_pos h]; rfl)
    obtain ⟨hx, hrow⟩ := hp2.spc sp h
    by_cases heq : s.seen i sp = s.time sp
    · have heq' : (s.seen i sp : Int) = (s.time sp : Int) := by omega
      simp -implicitDefEqProofs [g51, ← hW, hp2.cell, c4, c5, hl, nil102, hcpu, lseen, hx, heq]
      rw [catchA_same heq]
      exact ⟨hp2, ho2⟩
    · have hlt : s.seen i sp < s.time sp := by omega
      have w1 : IntKind.i64.wrap ((s.time sp : Int) - (s.seen i sp : Int)) = (s.time sp : Int) - (s.seen i sp : Int) := by rw [IntKind.wrap_i64]; omega
      have hne : ¬ ((s.seen i sp : Int) = (s.time sp : Int)) := by omega
      have hne' : ¬ s.seen i sp = s.time sp := heq
      obtain ⟨xs, hxs⟩ : ∃ xs, xs = (flo s.A sp).drop (s.time sp - 8) := ⟨_, rfl⟩
      have hxl : xs.length = min (s.time sp) 8 := by rw [hxs, List.length_drop]; show s.time sp - (s.time sp - 8) = _; omega
      rw [← hxs] at hrow
      have hlen := fun w' => hrow.lenS (w' := w')
      have tail : ∀ {w3 : World} {X : List Line}, CpuAt w3 c a (setLn s i X) → One w w3 a i (fun b => b = a.ps i) → X = catchL (s.L i) sp (flo s.A sp) (s.seen i sp) → ∃ m3, MapAt w3 (a.ps i) m3 ∧ ∀ es n, MapAt (World.set w3 (a.ps i) (.map es n)) (a.ps i) (putM m3 sp (i64 (s.time sp))) →
          CpuAt (World.set w3 (a.ps i) (.map es n)) c a (catchA s i sp) ∧ One w (World.set w3 (a.ps i) (.map es n)) a i (fun b => b = a.ps i) := by
        intro w3 X hp3 ho3 hX
        obtain ⟨m3, hm3, hg3⟩ := hp3.seen i hi
        refine ⟨m3, hm3, fun es n hmm => ?_⟩
        obtain ⟨hp4, ho4⟩ := hp3.note hi (t := s.time sp) hg3 hmm hm3.nocells
        subst hX
        exact ⟨hp4, ho3.trans ho4⟩
      have n4 : ¬ w.heap.size = a.ps i := fun e => by rw [e] at c4; rw [hms.nocells] at c4; cases c4
      have n5 : ¬ w.heap.size + 1 = a.ps i := fun e => by rw [e] at c5; rw [hms.nocells] at c5; cases c5
      by_cases h8 : 8 < s.time sp - s.seen i sp
      · have h8' : ((xs.length : Nat) : Int) < (s.time sp : Int) - (s.seen i sp : Int) := by omega
        simp -implicitDefEqProofs [g51, ← hW, hp2.cell, c4, c5, hl, nil102, hcpu, lseen, hx, hne, hne', w1, hlen, h8']
        refine valA_of (hT.a.flushS (hp2.buf i hi) (hs.right hi) (by have := hs.ll hi; omega) sp) (fun u w3 hq3 => ?_)
        obtain ⟨hu, hlay⟩ := hq3
        simp only at hu hlay
        obtain ⟨hp3, ho3⟩ := hp2.lay hi hlay
        have c43 := One.keepT hp2 hi ho3 c4 (by decide) (by decide) (fun h => h)
        have c53 := One.keepT hp2 hi ho3 c5 (by decide) (by decide) (fun h => h)
        have hcpu3 := hp3.cpu i hi
        have hx3 := (hp3.spc sp h).1
        obtain ⟨m3, hm3, hfin⟩ := tail hp3 (ho2.trans (ho3.mono fun _ h => h.elim)) (by unfold catchL; rw [if_neg (show ¬ s.seen i sp = (flo s.A sp).length from heq), if_pos (show 8 < (flo s.A sp).length - s.seen i sp from h8)])
        simp -implicitDefEqProofs [c43, c53, hcpu3, hx3]
        refine updateA hm3 (fun es n hmm => ?_)
        simp -implicitDefEqProofs
        exact hfin es n hmm
      · have h8' : ¬ ((xs.length : Nat) : Int) < (s.time sp : Int) - (s.seen i sp : Int) := by omega
        have w2 : IntKind.i64.wrap ((xs.length : Int) - ((s.time sp : Int) - (s.seen i sp : Int))) = (xs.length : Int) - ((s.time sp : Int) - (s.seen i sp : Int)) := by rw [IntKind.wrap_i64]; omega
        have hk : xs.length - (s.time sp - s.seen i sp) ≤ xs.length := by omega
        have hsl : ∀ w', RowE EF w' (a.pv sp) xs → sliceS 107 2 (a.pv sp) (some (.int .i64 ((xs.length : Int) - ((s.time sp : Int) - (s.seen i sp : Int))))) none none w' = .ret (tailV 2 (a.pv sp) (xs.length - (s.time sp - s.seen i sp)), w') := fun w' h => tail_eq (E := EF) h hk (by omega) (by omega)
        obtain ⟨htr, _⟩ := tail_row hrow hk
        have hdr : xs.drop (xs.length - (s.time sp - s.seen i sp)) = (flo s.A sp).drop (s.seen i sp) := by
          rw [hxs, List.drop_drop, List.length_drop]
          congr 1
          show s.time sp - 8 + (s.time sp - (s.time sp - 8) - (s.time sp - s.seen i sp)) = _
          omega
        rw [hdr] at htr
        simp -implicitDefEqProofs [g51, ← hW, hp2.cell, c4, c5, hl, nil102, hcpu, lseen, hx, hne, hne', w1, hlen, h8', w2, hsl _ hrow, callF 66 body66]
        refine valA_of (hT.told hp2 hs hi htr (fun f hf => ?_) (by rw [List.length_drop]; show s.time sp - _ ≤ _; omega) c4 c5) (fun u w3 hq3 => ?_)
        · have := hs.fl f (flo_mem.1 (List.mem_of_mem_drop hf)).1
          exact ⟨this.1, this.2.1⟩
        obtain ⟨hp3, ho3⟩ := hq3
        simp only at hp3 ho3
        have c43 := One.keepT hp2 hi ho3 c4 (by decide) (by decide) (fun h => h)
        have c53 := One.keepT hp2 hi ho3 c5 (by decide) (by decide) (fun h => h)
        have hcpu3 := hp3.cpu i hi
        have hx3 := (hp3.spc sp h).1
        obtain ⟨m3, hm3, hfin⟩ := tail hp3 (ho2.trans (ho3.mono fun _ h => h.elim)) (by unfold catchL; rw [if_neg (show ¬ s.seen i sp = (flo s.A sp).length from heq), if_neg (show ¬ 8 < (flo s.A sp).length - s.seen i sp from h8)])
        simp -implicitDefEqProofs [c43, c53, hcpu3, hx3]
        refine updateA hm3 (fun es n hmm => ?_)
        simp -implicitDefEqProofs
        exact hfin es n hmm
  · have hl := lookD (z := .pointer none) (v := .pointer none) (i := sp) hm (by rw [hget, if_neg h]; rfl)
    simp -implicitDefEqProofs [g51, ← hW, hp2.cell, c4, c5, hl, nil102]
    rw [catchA_same (by omega)]
    exact ⟨hp2, ho2⟩

structure Catch (K : Kont) : Prop where
  t : Told K
  go : ∀ {w : World} {c : Nat} {x : Ad} {s : CS} {B : Nat}, CpuAt w c x s → s.ok B → B ≤ 1000 → ∀ {i : Nat}, i < s.N → ∀ sp, (K.enter 51 #[ptr c, ptr (x.pc i), i64 sp] w).all fun r => CpuAt r.2 c x (catchA s i sp) ∧ One w r.2 x i (fun b => b = x.ps i)
theorem catches (m : Nat) (hm : 2000 ≤ m) : Catch (runA Try.prog sp5 (m + 7)) where
  t := told (m + 1) (by omega)
  go := fun hp hs hB _ hi sp => enter_ok (m := m + 6) low51 rfl (run51 (told m hm) hp hs hB hi sp)

/-- What calls of the program move. -/
abbrev MvC (w w' : World) (s : CS) (a : Ad) : Prop := MoveC w w' s.N a.pb TW True
theorem One.mv {w w' : World} {c : Nat} {a : Ad} {s : CS} {i : Nat} (h : CpuAt w c a s) (hi : i < s.N) (ho : One w w' a i (fun _ => False)) : MvC w w' s a := One.move h hi ho fun _ h => h.elim
theorem One.mvs {w w' : World} {c : Nat} {a : Ad} {s : CS} {i : Nat} (h : CpuAt w c a s) (hi : i < s.N) (ho : One w w' a i (fun b => b = a.ps i)) : MvC w w' s a := One.move h hi ho fun b hb => by
  obtain ⟨m, hm, _⟩ := h.seen i hi
  subst hb
  refine ⟨.inr (.inl ⟨trivial, hm.nocells⟩), fun j hj hf => ?_⟩
  obtain ⟨_, _, h1, _⟩ := (h.buf j hj).tag hf
  rw [hm.nocells] at h1; cases h1

theorem isN_n {s : CS} {n : Int} (h : isN s n) : ((n.toNat : Nat) : Int) = n := by unfold isN at h; omega


theorem MoveC.late {w w3 w4 : World} {N : Nat} {pb : Nat → Nat} {T : TypeId → Prop} {M : Prop} {F : Nat → Prop} (h : MoveC w w3 N pb T M) (hk : Keeps w3 w4 F) (hF : ∀ b, F b → w.heap.size ≤ b) (hf : ∀ i, i < N → ∀ b, foot w4 (pb i) b → foot w3 (pb i) b) : MoveC w w4 N pb T M :=
  ⟨h.1.trans hk (fun _ _ h => h) (fun j hj hF' => absurd (hF j hF') (by omega)), fun i hi b hb => h.2 i hi b (hf i hi b hb)⟩

theorem CpuAt.box {w : World} {c : Nat} {a : Ad} {s : CS} (h : CpuAt w c a s) {b : Nat} {cs : Array Value} {t : TypeId} {o : Obj} (hb : cellsOf? w b = some (cs, t, (0, 0))) (ht : ¬ TC t) (hn : ∀ i, i < s.N → ¬ foot w (a.pb i) b) : CpuAt (World.set w b o) c a s ∧ ∀ i, i < s.N → ∀ x, foot (World.set w b o) (a.pb i) x ↔ foot w (a.pb i) x := by
  refine h.keep (Keeps.set w b o (F := fun j => j = b) (fun _ => rfl)) fun x hx e => ?_
  subst e
  rcases hx with ⟨i, hi, hf⟩ | ⟨_, h0⟩ | ⟨_, t', hc, ht'⟩
  · exact hn i hi hf
  · rw [hb] at h0; cases h0
  · rw [hb] at hc
    simp only [Option.some.injEq, Prod.mk.injEq] at hc
    rw [hc.2.1] at ht
    exact ht ht'
end Go.Proofs.Ytplcocifndpplaa
