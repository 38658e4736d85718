/-
  Processors: the program's Flush.
-/
import Derived.Test.YtplcocifndpplaaCf
namespace Go.Proofs.Ytplcocifndpplaa
open Go Go.Ideal

def t31 : GC := (.seq (.ops [.grp none [⟨some 35, none, .move (.tmp 8), []⟩, ⟨some 36, none, .nonnil (.tmp 35), []⟩, ⟨some 37, none, .faddr 0 (.tmp 36), []⟩, ⟨some 38, none, .load none (.tmp 37), []⟩, ⟨some 39, none, .bin .add 3 (.tmp 38) (.const (.int .i64 1)), []⟩, ⟨some 40, none, .nonnil (.tmp 35), []⟩, ⟨some 41, none, .faddr 0 (.tmp 40), []⟩, ⟨none, none, .store 1 (.tmp 41) (.tmp 39), []⟩]]) 
 (.seq (.ops [.grp none [⟨some 42, none, .move (.tmp 8), []⟩, ⟨some 43, none, .move (.tmp 8), []⟩, ⟨some 44, none, .nonnil (.tmp 43), []⟩, ⟨some 45, none, .faddr 1 (.tmp 44), []⟩, ⟨some 46, none, .load none (.tmp 45), []⟩, ⟨some 47, none, .move (.tmp 2), []⟩, ⟨some 48, none, .move (.tmp 3), []⟩, ⟨some 49, none, .build #[(0, 1), (1, 1)] #[.int .i64 0, .int .i64 0] [(0, .tmp 47), (1, .tmp 48)], []⟩, ⟨some 50, none, .row 107 2 1 #[.int .i64 0, .int .i64 0] [(0, .tmp 49)], []⟩, ⟨some 51, none, .append 107 2 16 (.tmp 46) (.tmp 50), []⟩, ⟨some 52, none, .nonnil (.tmp 42), []⟩, ⟨some 53, none, .faddr 1 (.tmp 52), []⟩, ⟨none, none, .store 1 (.tmp 53) (.tmp 51), []⟩]]) 
 (.seq (.ops [.grp none [⟨some 54, none, .move (.tmp 8), []⟩, ⟨some 55, none, .nonnil (.tmp 54), []⟩, ⟨some 56, none, .faddr 1 (.tmp 55), []⟩, ⟨some 57, none, .load none (.tmp 56), []⟩, ⟨some 58, none, .len (.tmp 57), []⟩, ⟨some 59, none, .bin .gtr 3 (.tmp 58) (.const (.int .i64 8)), []⟩]]) 
 (.cond (.tmp 59) (.ops [.grp none [⟨some 60, none, .move (.tmp 8), []⟩, ⟨some 61, none, .row 107 2 0 #[] [], []⟩, ⟨some 62, none, .move (.tmp 8), []⟩, ⟨some 63, none, .nonnil (.tmp 62), []⟩, ⟨some 64, none, .faddr 1 (.tmp 63), []⟩, ⟨some 65, none, .load none (.tmp 64), []⟩, ⟨some 66, none, .slice 107 2 (.tmp 65) (some (.const (.int .i64 1))) none none, []⟩, ⟨some 67, none, .append 107 2 16 (.tmp 61) (.tmp 66), []⟩, ⟨some 68, none, .nonnil (.tmp 60), []⟩, ⟨some 69, none, .faddr 1 (.tmp 68), []⟩, ⟨none, none, .store 1 (.tmp 69) (.tmp 67), []⟩]]) .skip))))
theorem g31_eq : g31 = ⟨70, [], .seq 
 (.seq (.ops [.grp none [⟨some 9, none, .move (.tmp 0), []⟩, ⟨some 10, none, .bin .eql 57 (.tmp 9) (.const (.pointer none)), []⟩, ⟨some 11, none, .move (.tmp 10), []⟩],
  .grp (some (some 11, false)) [⟨some 12, none, .move (.tmp 3), []⟩, ⟨some 13, none, .bin .lss 3 (.tmp 12) (.const (.int .i64 1)), []⟩],
  .grp none [⟨some 14, none, .pick (.tmp 11) (.const (.bool true)) (.tmp 13), []⟩, ⟨some 15, none, .move (.tmp 14), []⟩],
  .grp (some (some 15, false)) [⟨some 16, none, .move (.tmp 1), []⟩, ⟨some 17, none, .bin .lss 3 (.tmp 16) (.const (.int .i64 0)), []⟩],
  .grp none [⟨some 18, none, .pick (.tmp 15) (.const (.bool true)) (.tmp 17), []⟩]]) 
 (.cond (.tmp 18) .ret .skip)) 
 (.seq (.ops [.grp none [⟨some 19, none, .move (.tmp 0), []⟩, ⟨some 20, none, .nonnil (.tmp 19), []⟩, ⟨some 21, none, .faddr 1 (.tmp 20), []⟩, ⟨some 22, none, .load none (.tmp 21), []⟩, ⟨some 23, none, .move (.tmp 1), []⟩, ⟨some 24, none, .lookup .i64 (.pointer none) (.tmp 22) (.tmp 23) false, []⟩, ⟨some 8, none, .move (.tmp 24), []⟩]]) 
 (.seq 
 (.seq (.ops [.grp none [⟨some 25, none, .move (.tmp 8), []⟩, ⟨some 26, none, .bin .eql 102 (.tmp 25) (.const (.pointer none)), []⟩]]) 
 (.cond (.tmp 26) 
 (.seq (.ops [.grp none [⟨some 27, none, .build #[(0, 1), (1, 1)] #[.int .i64 0, .slice none 0 0] [], []⟩, ⟨some 28, none, .box 105 (.tmp 27), []⟩, ⟨some 8, none, .move (.tmp 28), []⟩]]) (.ops [.grp none [⟨some 29, none, .move (.tmp 0), []⟩, ⟨some 30, none, .nonnil (.tmp 29), []⟩, ⟨some 31, none, .faddr 1 (.tmp 30), []⟩, ⟨some 32, none, .load none (.tmp 31), []⟩, ⟨some 33, none, .move (.tmp 1), []⟩, ⟨some 34, none, .move (.tmp 8), []⟩, ⟨none, none, .update .i64 (.tmp 32) (.tmp 33) (.tmp 34), []⟩]])) .skip)) 
 t31))⟩ := rfl

theorem row_fl (p n : Int) (w : World) : rowS 107 2 1 #[.int .i64 0, .int .i64 0] [(0, .agg #[.int .i64 p, .int .i64 n])] w = .ret (.slice (some ⟨w.heap.size, 0, none⟩) 1 1, World.push w (.cells #[i64 p, i64 n] 107)) := by
  simp [rowS, Instr.fill]
theorem row_fl0 (w : World) : rowS 107 2 0 #[] [] w = .ret (.slice (some ⟨w.heap.size, 0, none⟩) 0 0, World.push w (.cells #[] 107)) := by
  simp [rowS, Instr.fill]
theorem src_fl {w : World} {r : Nat} {f : Fl} {t : TypeId} (h : cellsOf? w r = some (#[i64 f.p, i64 f.n], t, (0, 0))) : SrcE EF w (.slice (some ⟨r, 0, none⟩) 1 1) [f] :=
  .inr ⟨r, 0, 1, _, t, (0, 0), rfl, h, by simp [EF], by simp [EF, flat]⟩
def last8 (l : List Fl) : List Fl := if 8 < l.length then l.drop 1 else l

theorem tail31 {K : Kont} {fuel : Nat} {w1 : World} {X : Nat} {T : Nat} {v0 : Value} {xs : List Fl} {sp p n : Int} {ρ : Env} {Q : Value → World → Prop} (e8 : ρ 8 = ptr X) (e2 : ρ 2 = i64 p) (e3 : ρ 3 = i64 n) (hX : cellsOf? w1 X = some (#[i64 T, v0], 105, (0, 0))) (hv : RowE EF w1 v0 xs) (hxl : xs.length ≤ 8) (hT : T ≤ 2000)
    (hQ : ∀ v w4 lv, Keeps w1 w4 (fun b => b = X ∨ blkOf v0 = some b) → cellsOf? w4 X = some (#[i64 ((T + 1 : Nat) : Int), lv], 105, (0, 0)) → RowE EF w4 lv (last8 (xs ++ [⟨sp, p, n⟩])) → (∀ b, blkOf lv = some b → w1.heap.size ≤ b) → Q v w4) :
    codeR ⟨Try.prog, K, fuel, 31, none, 70, finPost Try.prog [] Q⟩ t31 [] ρ [] w1 := by
  have hlt := cells_lt hX
  have w1' : IntKind.i64.wrap ((T : Int) + 1) = (T : Int) + 1 := by rw [IntKind.wrap_i64]; omega
  have nv : ∀ b, blkOf v0 = some b → ¬ b = X := fun b hb e => by
    obtain ⟨_, hc⟩ := hv.tag hb
    rw [e, hX] at hc; simp [EF] at hc
  obtain ⟨W, hW⟩ : ∃ W, W = World.push (World.set w1 X (.cells #[i64 ((T : Int) + 1), v0] 105)) (.cells #[i64 p, i64 n] 107) := ⟨_, rfl⟩
  have k1 : Keeps w1 (World.set w1 X (.cells #[i64 ((T : Int) + 1), v0] 105)) (fun b => b = X) := Keeps.set _ _ _ fun _ => rfl
  have k2 : Keeps w1 W (fun b => b = X) := by rw [hW]; exact k1.trans (Keeps.push _ _ (fun _ => False)) (fun _ _ h => h) (fun _ _ h => h.elim)
  have hne : ¬ X = w1.heap.size := Nat.ne_of_lt hlt
  have hvW := hv.keep k2 nv
  have cW : cellsOf? W w1.heap.size = some (#[i64 p, i64 n], 107, (0, 0)) := by rw [hW]; simp
  have xW : cellsOf? W X = some (#[i64 ((T : Int) + 1), v0], 105, (0, 0)) := by rw [hW]; simp [hne, hlt]
  have szW : W.heap.size = w1.heap.size + 1 := by rw [hW]; simp
  simp -implicitDefEqProofs [t31, e8, e2, e3, hX, hlt, w1', fillS, Instr.fill, row_fl]
  rw [← hW]
  refine appE (E := EF) (by_ := 16) hvW (src_fl (f := ⟨sp, p, n⟩) cW) (by simp; omega) (by decide) (fun v4 w4 hr4 hk4 _ hb4 => ?_)
  have hb4 := hb4 (by simp)
  have k4 : Keeps w1 w4 (fun b => b = X ∨ blkOf v0 = some b) := k2.trans hk4 (fun _ _ h => .inl h) (fun _ _ h => .inr h)
  have x4 : cellsOf? w4 X = some (#[i64 ((T : Int) + 1), v0], 105, (0, 0)) := hk4.cells xW (fun h => nv _ h rfl)
  have hlt4 := cells_lt x4
  have one4 := hr4.one
  have cel4 := hr4.cells1
  have ks : Keeps w4 (World.set w4 X (.cells #[i64 ((T : Int) + 1), v4] 105)) (fun b => b = X) := Keeps.set _ _ _ fun _ => rfl
  have k5 : Keeps w1 (World.set w4 X (.cells #[i64 ((T : Int) + 1), v4] 105)) (fun b => b = X ∨ blkOf v0 = some b) := k4.trans ks (fun _ _ h => h) (fun _ _ h => .inl h)
  have n4 : ∀ b, blkOf v4 = some b → ¬ b = X := fun b hb e => by rw [hb4] at hb; simp at hb; omega
  have hr5 := hr4.keep ks n4
  have hl := fun w' => hr4.lenS (w' := w')
  obtain ⟨ys, hys⟩ : ∃ ys, ys = xs ++ [(⟨sp, p, n⟩ : Fl)] := ⟨_, rfl⟩
  rw [← hys] at hr4 hr5 hl hQ
  have hyl : ys.length ≤ 9 := by rw [hys]; simp; omega
  by_cases h8 : 8 < ys.length
  · have h8' : (8 : Int) < (ys.length : Int) := by omega
    have hpu : Keeps (World.set w4 X (.cells #[i64 ((T : Int) + 1), v4] 105)) (World.push (World.set w4 X (.cells #[i64 ((T : Int) + 1), v4] 105)) (.cells #[] 107)) (fun _ => False) := Keeps.push _ _ _
    have hne4 : ¬ X = w4.heap.size := Nat.ne_of_lt hlt4
    have hsl : ∀ w', RowE EF w' v4 ys → sliceS 107 2 v4 (some (.int .i64 1)) none none w' = .ret (tailV 2 v4 1, w') := fun w' h => tail_eq (E := EF) h (by omega) (by omega) rfl
    have hr6 := hr5.keep hpu (fun _ _ h => h)
    obtain ⟨htr, _⟩ := tail_row hr6 (i := 1) (by omega)
    have hem : RowE EF (World.push (World.set w4 X (.cells #[i64 ((T : Int) + 1), v4] 105)) (.cells #[] 107)) (.slice (some ⟨w4.heap.size, 0, none⟩) 0 0) [] := RowE.empty (c := #[]) (by simp [EF])
    simp -implicitDefEqProofs [e8, x4, hlt4, one4, cel4, hl, h8', row_fl0, hne4, hsl _ hr6]
    refine appE (E := EF) (by_ := 16) hem htr.src (by simp; omega) (by decide) (fun v7 w7 hr7 hk7 _ hb7 => ?_)
    have hb7 := hb7 (by rw [← List.length_pos_iff]; simp; omega)
    have k7 : Keeps (World.set w4 X (.cells #[i64 ((T : Int) + 1), v4] 105)) w7 (fun b => b = w4.heap.size) := hpu.trans hk7 (fun _ _ h => h.elim) (fun j hj h => by simp at h; omega)
    have x7 : cellsOf? w7 X = some (#[i64 ((T : Int) + 1), v4], 105, (0, 0)) := k7.cells (by simp [hlt4]) (fun e => by omega)
    have hlt7 := cells_lt x7
    have one7 := hr7.one
    have cel7 := hr7.cells1
    rw [List.nil_append] at hr7
    have hsz4 := hk4.1
    have ks7 : Keeps w7 (World.set w7 X (.cells #[i64 ((T : Int) + 1), v7] 105)) (fun b => b = X) := Keeps.set _ _ _ fun _ => rfl
    simp -implicitDefEqProofs [x7, hlt7, one7, cel7]
    refine hQ _ _ v7 ?_ (by simp [hlt7]) ?_ (fun b hb => ?_)
    · exact (k5.trans k7 (fun _ _ h => h) (fun j hj h => by omega)).trans ks7 (fun _ _ h => h) (fun _ _ h => .inl h)
    · unfold last8; rw [if_pos h8]
      exact hr7.keep ks7 (fun b hb e => by rw [hb7] at hb; simp at hb; omega)
    · rw [hb7] at hb; simp at hb; omega
  · have h8' : ¬ (8 : Int) < (ys.length : Int) := by omega
    simp -implicitDefEqProofs [e8, x4, hlt4, one4, cel4, hl, h8']
    refine hQ _ _ v4 k5 (by simp [hlt4]) ?_ (fun b hb => ?_)
    · unfold last8; rw [if_neg h8]; exact hr5
    · rw [hb4] at hb; simp at hb; omega

def updN (f : Int → Nat) (i : Int) (x : Nat) : Int → Nat := fun j => if j = i then x else f j
def updV (f : Int → Value) (i : Int) (x : Value) : Int → Value := fun j => if j = i then x else f j

theorem last8_drop (l : List Fl) (f : Fl) : last8 (l.drop (l.length - 8) ++ [f]) = (l ++ [f]).drop (l.length + 1 - 8) := by
  unfold last8
  by_cases h : 8 ≤ l.length
  · rw [if_pos (by simp; omega), List.drop_append_of_le_length (by simp; omega), List.drop_drop, List.drop_append_of_le_length (by omega)]
    congr 2
    omega
  · rw [if_neg (by simp; omega), show l.length - 8 = 0 by omega, show l.length + 1 - 8 = 0 by omega, List.drop_zero, List.drop_zero]

/-- One more flush. -/
theorem CpuAt.more {w w4 : World} {c : Nat} {a : Ad} {s : CS} {B : Nat} (h : CpuAt w c a s) (hs : s.ok B) {f : Fl} (hf : 1 ≤ f.n ∧ 0 ≤ f.s) {X : Nat} {lv : Value} {m m' : MapL}
    (hk : Keeps w w4 (fun b => b = a.sm ∨ (0 < s.time f.s ∧ (b = a.px f.s ∨ blkOf (a.pv f.s) = some b)))) (hm0 : MapAt w a.sm m) (hm : MapAt w4 a.sm m') (hg0 : ∀ sp, getM m sp = if 0 < s.time sp then some (ptr (a.px sp)) else none) (hg : ∀ q, getM m' q = if q = f.s then some (ptr X) else getM m q)
    (hX : cellsOf? w4 X = some (#[i64 ((s.time f.s + 1 : Nat) : Int), lv], 105, (0, 0))) (hr : RowE EF w4 lv ((flo s.A f.s ++ [f]).drop (s.time f.s + 1 - 8))) (hXo : 0 < s.time f.s → X = a.px f.s) (hXn : ¬ 0 < s.time f.s → w.heap.size ≤ X) (hl : ∀ b, blkOf lv = some b → w.heap.size ≤ b) :
    CpuAt w4 c { a with px := updN a.px f.s X, pv := updV a.pv f.s lv } (flushA s f) ∧ MvC w w4 s a := by
  have e : flushA s f = { s with A := s.A ++ [f] } := by unfold flushA; rw [if_pos hf]
  have ht := fun q => time_flush (s := s) hf q
  have hflo : ∀ q, q ≠ f.s → flo (flushA s f).A q = flo s.A q := fun q hq => by
    rw [e]; show flo (s.A ++ [f]) q = _
    rw [flo_snoc, if_neg (fun h => hq h.symm)]
  have hx0 : ∀ {b c t}, cellsOf? w b = some (c, t, (0, 0)) → t ≠ 105 → t ≠ 107 → ¬ (b = a.sm ∨ (0 < s.time f.s ∧ (b = a.px f.s ∨ blkOf (a.pv f.s) = some b))) := by
    intro b cs t hc h1 h2 hb
    rcases hb with rfl | ⟨hp, rfl | hb⟩
    · rw [hm0.nocells] at hc; cases hc
    · rw [(h.spc _ hp).1] at hc; simp at hc; exact h1 hc.2.symm
    · obtain ⟨_, hc2⟩ := (h.spc _ hp).2.tag hb
      rw [hc2] at hc; simp [EF] at hc; exact h2 hc.2.symm
  have hbuf : ∀ i, i < s.N → Buf w4 89 (a.pb i) s.size (s.L i) ∧ ∀ b, foot w4 (a.pb i) b ↔ foot w (a.pb i) b := fun i hi => (h.buf i hi).keep hk (fun j hj => by
    obtain ⟨cs, t, h1, h2⟩ := (h.buf i hi).tag hj
    exact hx0 h1 (by rintro rfl; simp at h2) (by rintro rfl; simp at h2))
  have pxl : ∀ q, 0 < s.time q → a.px q < w.heap.size := fun q hq => cells_lt (h.spc q hq).1
  have pvl : ∀ q b, 0 < s.time q → blkOf (a.pv q) = some b → b < w.heap.size := fun q b hq hb => (h.spc q hq).2.block_lt hb
  have live : ∀ q, q ≠ f.s → 0 < (flushA s f).time q → 0 < s.time q := fun q hq hp => by rw [ht, if_neg (fun h => hq h.symm)] at hp; exact hp
  refine ⟨⟨?_, ?_, fun i hi => ?_, fun i hi => ?_, fun i hi => ?_, ⟨m', hm, fun q => ?_⟩, fun q hq => ?_, ?_, ?_, fun p q hp hq he => ?_, fun p q b hp hq h1 h2 => ?_, fun i j hi hj hne b h1 h2 => ?_⟩, MoveC.of hk (fun b hb => ?_) fun i hi b hb => .inl (((hbuf i hi).2 b).1 hb)⟩
  · exact hk.cells h.cell (hx0 h.cell (by decide) (by decide))
  · rw [e]
    exact h.row.keep hk fun b hb => by obtain ⟨_, hc⟩ := h.row.tag hb; exact hx0 hc (by decide) (by decide)
  · rw [e] at hi
    exact hk.cells (h.cpu i hi) (hx0 (h.cpu i hi) (by decide) (by decide))
  · rw [e] at hi ⊢
    exact (hbuf i hi).1
  · rw [e] at hi ⊢
    obtain ⟨ms, h1, h2⟩ := h.seen i hi
    refine ⟨ms, h1.keep hk fun hb => ?_, h2⟩
    rcases hb with hb | ⟨hp, hb | hb⟩
    · exact h.nes i hi hb
    · have hc := (h.spc _ hp).1; rw [← hb, h1.nocells] at hc; cases hc
    · obtain ⟨_, hc2⟩ := (h.spc _ hp).2.tag hb
      rw [h1.nocells] at hc2; cases hc2
  · rw [hg, hg0, ht]
    by_cases hq : q = f.s
    · rw [if_pos hq, if_pos (by split <;> omega)]; simp [updN, hq]
    · have hq2 : ¬ f.s = q := fun h => hq h.symm
      simp [updN, hq, hq2]
  · by_cases hq' : q = f.s
    · subst hq'
      rw [ht, if_pos rfl]
      have e1 : flo (flushA s f).A f.s = flo s.A f.s ++ [f] := by rw [e]; show flo (s.A ++ [f]) f.s = _; rw [flo_snoc, if_pos rfl]
      simp only [updN, updV, if_true, e1]
      exact ⟨hX, hr⟩
    · have hq2 := live q hq' hq
      rw [hflo q hq', ht, if_neg (fun h => hq' h.symm)]
      obtain ⟨h1, h2⟩ := h.spc q hq2
      simp only [updN, updV, if_neg hq']
      refine ⟨hk.cells h1 fun hb => ?_, h2.keep hk fun b hb hb2 => ?_⟩
      · rcases hb with hb | ⟨hp, hb | hb⟩
        · rw [hb, hm0.nocells] at h1; cases h1
        · exact hq' (h.injx q f.s hq2 hp hb)
        · obtain ⟨_, hc2⟩ := (h.spc _ hp).2.tag hb
          rw [h1] at hc2; simp [EF] at hc2
      · rcases hb2 with hb2 | ⟨hp, hb2 | hb2⟩
        · obtain ⟨_, hc2⟩ := h2.tag hb
          rw [hb2, hm0.nocells] at hc2; cases hc2
        · obtain ⟨_, hc2⟩ := h2.tag hb
          rw [hb2, (h.spc _ hp).1] at hc2; simp [EF] at hc2
        · exact hq' (h.injv q f.s b hq2 hp hb hb2)
  · rw [e]; exact h.injs
  · rw [e]; exact h.nes
  · simp only [updN] at he
    by_cases h1 : p = f.s
    · by_cases h2 : q = f.s
      · rw [h1, h2]
      · rw [if_pos h1, if_neg h2] at he
        have h3 := live q h2 hq
        by_cases h4 : 0 < s.time f.s
        · rw [hXo h4] at he; exact h1.trans (h.injx f.s q h4 h3 he)
        · have := hXn h4; have := pxl q h3; omega
    · by_cases h2 : q = f.s
      · rw [if_neg h1, if_pos h2] at he
        have h3 := live p h1 hp
        by_cases h4 : 0 < s.time f.s
        · rw [hXo h4] at he; exact (h.injx p f.s h3 h4 he).trans h2.symm
        · have := hXn h4; have := pxl p h3; omega
      · rw [if_neg h1, if_neg h2] at he
        exact h.injx p q (live p h1 hp) (live q h2 hq) he
  · simp only [updV] at h1 h2
    by_cases g1 : p = f.s
    · by_cases g2 : q = f.s
      · rw [g1, g2]
      · rw [if_pos g1] at h1
        rw [if_neg g2] at h2
        have := hl b h1; have := pvl q b (live q g2 hq) h2; omega
    · by_cases g2 : q = f.s
      · rw [if_neg g1] at h1
        rw [if_pos g2] at h2
        have := hl b h2; have := pvl p b (live p g1 hp) h1; omega
      · rw [if_neg g1] at h1
        rw [if_neg g2] at h2
        exact h.injv p q b (live p g1 hp) (live q g2 hq) h1 h2
  · rw [e] at hi hj
    exact h.apart i j hi hj hne b (((hbuf i hi).2 b).1 h1) (((hbuf j hj).2 b).1 h2)
  · rcases hb with rfl | ⟨hp, rfl | hb⟩
    · exact .inr (.inl ⟨trivial, hm0.nocells⟩)
    · exact .inr (.inr ⟨_, _, (h.spc _ hp).1, .inl rfl⟩)
    · obtain ⟨_, hc2⟩ := (h.spc _ hp).2.tag hb
      exact .inr (.inr ⟨_, _, hc2, .inr rfl⟩)

theorem run31 {K : Kont} {fuel : Nat} {w : World} {c : Nat} {a : Ad} {s : CS} {B : Nat} (hp : CpuAt w c a s) (hs : s.ok B) (hB : B ≤ 1000) (sp p n : Int) :
    wpGFn Try.prog K fuel 31 g31 #[ptr c, i64 sp, i64 p, i64 n] w fun _ w' => ∃ a', CpuAt w' c a' (flushA s ⟨sp, p, n⟩) ∧ a'.pb = a.pb ∧ MvC w w' s a := by
  rw [gfn_start]
  by_cases h1 : n < 1
  · have e : flushA s ⟨sp, p, n⟩ = s := by unfold flushA; exact if_neg (fun h => by have := h.1; simp only at this; omega)
    rw [e]
    simp -implicitDefEqProofs [g31_eq, nil57, h1]
    exact ⟨a, hp, rfl, MoveC.refl _ _ _ _ _⟩
  by_cases h2 : sp < 0
  · have e : flushA s ⟨sp, p, n⟩ = s := by unfold flushA; exact if_neg (fun h => by have := h.2; simp only at this; omega)
    rw [e]
    simp -implicitDefEqProofs [g31_eq, nil57, h1, h2]
    exact ⟨a, hp, rfl, MoveC.refl _ _ _ _ _⟩
  have hfn : 1 ≤ (⟨sp, p, n⟩ : Fl).n ∧ 0 ≤ (⟨sp, p, n⟩ : Fl).s := ⟨by simp only; omega, by simp only; omega⟩
  obtain ⟨m, hm, hget⟩ := hp.sm
  have htl := hs.time_le sp
  have hlen : (flo s.A sp).length = s.time sp := rfl
  have h83 := last8_drop (flo s.A sp) ⟨sp, p, n⟩
  rw [hlen] at h83
  by_cases h : 0 < s.time sp
  · have hl := lookD (z := .pointer none) (v := ptr (a.px sp)) (i := sp) hm (by rw [hget, if_pos h]; rfl)
    obtain ⟨hx, hrow⟩ := hp.spc sp h
    simp -implicitDefEqProofs [g31_eq, nil57, nil102, h1, h2, hp.cell, hl]
    refine tail31 (sp := sp) (p := p) (n := n) (by simp) (by simp) (by simp) hx hrow (by rw [List.length_drop]; omega) (by omega) (fun v w4 lv hk hX hr hb => ?_)
    rw [h83] at hr
    have hsmn : ¬ (a.sm = a.px sp ∨ blkOf (a.pv sp) = some a.sm) := by
      rintro (hb | hb)
      · rw [← hb, hm.nocells] at hx; cases hx
      · obtain ⟨_, hc⟩ := hrow.tag hb
        rw [hm.nocells] at hc; cases hc
    have hgq : ∀ q, getM m q = if q = sp then some (ptr (a.px sp)) else getM m q := fun q => by
      by_cases hq : q = sp
      · subst hq; rw [if_pos rfl, hget, if_pos h]
      · rw [if_neg hq]
    obtain ⟨h3, h4⟩ := hp.more hs hfn (X := a.px sp) (lv := lv) (m := m) (m' := m) (hk.mono fun b _ hb => .inr ⟨h, hb⟩) hm (hm.keep hk hsmn) hget hgq hX hr (fun _ => rfl) (fun h0 => absurd h h0) hb
    exact ⟨_, h3, rfl, h4⟩
  · have h0 : s.time sp = 0 := by omega
    have hl := lookD (z := .pointer none) (v := .pointer none) (i := sp) hm (by rw [hget, if_neg h]; rfl)
    have kp : Keeps w (World.push w (.cells #[i64 0, .slice none 0 0] 105)) (fun _ => False) := Keeps.push _ _ _
    have hc1 := kp.cells hp.cell (fun h => h)
    have hne : ¬ c = w.heap.size := Nat.ne_of_lt (cells_lt hp.cell)
    have hlm := hm.lt
    simp -implicitDefEqProofs [g31_eq, nil57, nil102, h1, h2, hp.cell, hl, fillS, Instr.fill, hne]
    refine updateA (m := m) (hm.keep kp (fun h => h)) (fun es k hmm => ?_)
    simp -implicitDefEqProofs
    have ku : Keeps (World.push w (.cells #[i64 0, .slice none 0 0] 105)) (World.set (World.push w (.cells #[i64 0, .slice none 0 0] 105)) a.sm (.map es k)) (fun b => b = a.sm) := Keeps.set _ _ _ fun _ => rfl
    have hX1 : cellsOf? (World.set (World.push w (.cells #[i64 0, .slice none 0 0] 105)) a.sm (.map es k)) w.heap.size = some (#[i64 ((0 : Nat) : Int), .slice none 0 0], 105, (0, 0)) := ku.cells (by simp) (fun e => by omega)
    refine tail31 (sp := sp) (p := p) (n := n) (by simp) (by simp) (by simp) hX1 (RowE.nil _) (by simp) (by omega) (fun v w4 lv hk hX hr hb => ?_)
    have k04 : Keeps w w4 (fun b => b = a.sm) := (kp.trans ku (fun _ _ h => h.elim) (fun _ _ h => h)).trans hk (fun _ _ h => h) (fun b hb h => by
      rcases h with h | h
      · omega
      · cases h)
    have hmm4 := hmm.keep hk (fun h => by
      rcases h with h | h
      · omega
      · cases h)
    have hnil : flo s.A sp = [] := List.length_eq_zero_iff.1 h0
    obtain ⟨h3, h4⟩ := hp.more hs hfn (X := w.heap.size) (lv := lv) (m := m) (m' := putM m sp (ptr w.heap.size)) (k04.mono fun b _ hb => .inl hb) hm hmm4 hget (fun q => getM_put _ _ _ _) (by simp only [h0]; exact hX) (by simp only [h0, hnil]; exact hr) (fun h' => absurd h' h) (fun _ => Nat.le_refl _) (fun b hb' => by have := hb b hb'; simp at this; omega)
    exact ⟨_, h3, rfl, h4⟩
end Go.Proofs.Ytplcocifndpplaa
