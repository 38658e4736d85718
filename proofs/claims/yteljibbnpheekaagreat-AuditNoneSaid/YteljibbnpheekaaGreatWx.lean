import Derived.Test.YteljibbnpheekaaGreatWt
import Derived.Test.YteljibbnpheekaaGreatNa
namespace Go.Proofs.YteljibbnpheekaaGreat
open Go Go.Ideal
theorem eq103 (n : Nat) (w : World) : (Op.equalIn 10000 103 (cntV n) (cntV n)).run Tryz.prog w = .ok true w := by
  have u3 : Tryz.prog.underlying 3 = some (.int .i64) := by kernel_rfl
  have hS : Tryz.prog.underlying 103 = some (.struct (Tryz.prog.fieldsOf 103)) := by kernel_rfl
  have hp : Tryz.prog.stoodInHeld 103 = false := by kernel_rfl
  unfold cntV
  rw [show (10000 : Nat) = 9999 + 1 from rfl, run_equalIn_agg w 9999 103 _ _ hS hp]
  simp only [Program.fieldsOf, Tryz.underlying103]
  go_simp
theorem cnt_fit (n : Nat) : binFit Tryz.prog .eql 103 (cntV n) (cntV n) = true := by
  have he : eqTy Tryz.prog 5 103 = true := by kernel_rfl
  have hg : groundD 4 (.agg #[n64 n, n64 0, n64 0, n64 0, n64 0, n64 0, n64 0, n64 0, n64 0, n64 0]) = true := by simp [groundD]
  simp [binFit, he, eqFit, hg, cntV]
theorem cnt_eq {o1 o2 : Operand} {n : Nat} {w : World} : binS Tryz.prog .eql 103 o1 o2 (cntV n) (cntV n) w = .ret (.bool true, w) := by
  have hm : Tryz.prog.eqGuardType Tryz.prog.depth 103 = false := by kernel_rfl
  have h := eq103 n w
  have hf := cnt_fit n
  unfold cntV at h hf ⊢
  unfold binS
  simp only [hf, if_true]
  simp only [Sem.run_bind, run_eqGuard_agg w _ _ _ _ _ _ hm, Result.andThen, run_eql_struct, h, ofRun]
def Sup.cut (k : Int) (u : Sup) : Sup := if k < u.frames ∧ u.frames ≤ 1024 then ⟨k, u.mark, u.lines, u.cpus, u.surplus⟩ else u
theorem n28' : ∀ {o1 o2 : Operand} {p : Option Addr} {w : World}, binS Tryz.prog .eql 28 o1 o2 (.pointer p) (.pointer none) w = .ret (.bool p.isNone, w) := nl (by kernel_rfl) (by kernel_rfl)
theorem n29' : ∀ {o1 o2 : Operand} {p : Option Addr} {w : World}, binS Tryz.prog .eql 29 o1 o2 (.pointer p) (.pointer none) w = .ret (.bool p.isNone, w) := nl (by kernel_rfl) (by kernel_rfl)
theorem nilNe {P : Program} {t : TypeId} {o1 o2 : Operand} {p : Option Addr} {w : World} (hu : P.underlying t = some (.pointer (P.pointee t))) (he : eqTy P 5 t = true) : binS P .neq t o1 o2 (.pointer p) (.pointer none) w = .ret (.bool (!p.isNone), w) := by
  have hf : binFit P .neq t (.pointer p) (.pointer none) = true := by cases p <;> simp [binFit, he, eqFit]
  unfold binS
  simp only [hf, if_true]
  rw [eqGuard_none _ _ _ _ _ _ (fun _ h => by cases h) (fun h => by cases h)]
  simp only [Sem.run_bind, Sem.run_pure, Result.andThen, run_neq_pointer_nil w t p hu, ofRun]
theorem n22n : ∀ {o1 o2 : Operand} {p : Option Addr} {w : World}, binS Tryz.prog .neq 22 o1 o2 (.pointer p) (.pointer none) w = .ret (.bool (!p.isNone), w) := nilNe (by kernel_rfl) (by kernel_rfl)
theorem n22' : ∀ {o1 o2 : Operand} {p : Option Addr} {w : World}, binS Tryz.prog .eql 22 o1 o2 (.pointer p) (.pointer none) w = .ret (.bool p.isNone, w) := nl (by kernel_rfl) (by kernel_rfl)
section
variable {K : Kont} {fuel : Nat} {w : World}
theorem run144 : wpGFn Tryz.prog K fuel 144 h144 #[] w fun z w' => Old w w' ∧ ∃ b, z = pt b := by
  rw [gfn_start]
  simp -implicitDefEqProofs [h144, W.e, W.mv, W.sq, W.og, fillS, Instr.fill]
  exact Old.push _ _
theorem run44 (hT : Tell K) {B x : Nat} {u : Sup} (h : Fresh w B x u) : wpGFn Tryz.prog K fuel 44 h44 #[pt x] w fun z w' => Old w w' ∧ ∃ b, z = pt b := by
  rw [gfn_start]
  simp -implicitDefEqProofs [h44, W.e, W.mv, W.sq, W.og]
  refine valA_of (hT.t26 h) (fun z w1 hq => ?_)
  obtain ⟨hz, hw⟩ := hq
  simp only at hz hw
  subst hz hw
  simp -implicitDefEqProofs [fillS, Instr.fill]
  exact Old.push2 _ _ _
end
structure Mk (K : Kont) : Prop where
  new : ∀ {w : World} (u : Sup), (K.enter 20 #[u.v] w).all fun z => Old w z.2 ∧ (¬ u.ok ∧ z.1 = .tuple #[.pointer none, n64 2] ∨ u.ok ∧ ∃ x, z.1 = .tuple #[pt x, n64 0] ∧ Fresh z.2 w.heap.size x u)
  ref : ∀ {w : World}, (K.enter 144 #[] w).all fun z => Old w z.2 ∧ ∃ b, z.1 = pt b
  pol : ∀ {w : World} {B x : Nat} {u : Sup}, Fresh w B x u → (K.enter 44 #[pt x] w).all fun z => Old w z.2 ∧ ∃ b, z.1 = pt b
abbrev P63 (w : World) (u : Sup) : Value → World → Prop := fun z w' => Old w w' ∧ (z = .pointer none ∨ (∃ b r x B, w.heap.size ≤ b ∧ z = pt b ∧ cellsOf? w' b = some (#[pt x, r], 108, (0, 0)) ∧ w.heap.size ≤ B ∧ Fresh w' B x u))
theorem tail63 {K : Kont} {fuel : Nat} {W0 w : World} {ρ : Env} (hM : Mk K) {u : Sup} {b : Nat} (ho : Old W0 w) (e1 : ρ 1 = pt b) (hc : cellsOf? w b = some (#[n64 u.frames, n64 u.mark, n64 u.lines, n64 u.cpus, n64 u.surplus], 25, (0, 0))) :
    codeR ⟨Tryz.prog, K, fuel, 63, none, 29, finPost Tryz.prog [⟨2, none⟩] (P63 W0 u)⟩ t63 [] ρ [] w := by
  simp -implicitDefEqProofs [t63, W.e, W.mv, W.sq, W.og, W.gr, W.ex, e1, hc]
  refine valA_of (hM.new u) (fun z w1 hq => ?_)
  obtain ⟨ho1, h⟩ := hq
  simp only at ho1 h
  rcases h with ⟨_, hz⟩ | ⟨_, x, hz, hx⟩
  · subst hz
    simp -implicitDefEqProofs
    exact ⟨ho.trans ho1, .inl rfl⟩
  · subst hz
    simp -implicitDefEqProofs [n40]
    refine valA_of hM.ref (fun z w2 hq => ?_)
    obtain ⟨ho2, r, hz⟩ := hq
    simp only at ho2 hz
    subst hz
    simp -implicitDefEqProofs [fillS, Instr.fill]
    have o3 := Old.push w2 (.cells #[pt x, pt r] 108)
    have hz0 := ho.1
    have hz1 := ho1.1
    have hz2 := ho2.1
    exact ⟨(ho.trans ho1).trans (ho2.trans o3), .inr ⟨w2.heap.size, pt r, x, w.heap.size, by omega, rfl, by simp, hz0, hx.old' (ho2.trans o3)⟩⟩
theorem run63 {K : Kont} {fuel : Nat} {w : World} (hM : Mk K) (u : Sup) : wpGFn Tryz.prog K fuel 63 h63 #[u.v] w (P63 w (u.cut 400)) := by
  rw [gfn_start]
  have hcells : u.v.cells = #[n64 u.frames, n64 u.mark, n64 u.lines, n64 u.cpus, n64 u.surplus] := rfl
  simp -implicitDefEqProofs [h63, W.e, W.e0, W.mv, W.sq, W.og, W.gr, W.fa, W.ld, hcells]
  refine ⟨fun h1 => ⟨fun h2 => ?_, fun h2 => ?_⟩, fun h1 => ?_⟩
  · refine tail63 hM ((Old.push w _).set (Nat.le_refl _) _) (b := w.heap.size) ?_ ?_
    · simp
    · rw [cells_set, if_pos ⟨rfl, by simp⟩, show u.cut 400 = ⟨400, u.mark, u.lines, u.cpus, u.surplus⟩ from if_pos ⟨h1, h2⟩]
  · refine tail63 hM (Old.push w _) (b := w.heap.size) ?_ ?_
    · simp
    · rw [show u.cut 400 = u from if_neg (fun h => by omega)]
      simp
  · refine tail63 hM (Old.push w _) (b := w.heap.size) ?_ ?_
    · simp
    · rw [show u.cut 400 = u from if_neg (fun h => by omega)]
      simp
abbrev P10 (w : World) (u : Sup) : Value → World → Prop := fun z w' => Old w w' ∧ (z = .pointer none ∨ (∃ c b r p x B, z = pt c ∧ cellsOf? w' c = some (#[pt b, p], 31, (0, 0)) ∧ cellsOf? w' b = some (#[pt x, r], 108, (0, 0)) ∧ w.heap.size ≤ c ∧ w.heap.size ≤ b ∧ w.heap.size ≤ B ∧ Fresh w' B x u))
theorem run10 {K : Kont} {fuel : Nat} {w : World} (hM : Mk K) (h63' : ∀ {w : World} (u : Sup), (K.enter 63 #[u.v] w).all fun z => P63 w (u.cut 400) z.1 z.2) (u : Sup) : wpGFn Tryz.prog K fuel 10 h10 #[u.v] w (P10 w (u.cut 400)) := by
  rw [gfn_start]
  have hcells : u.v.cells = #[n64 u.frames, n64 u.mark, n64 u.lines, n64 u.cpus, n64 u.surplus] := rfl
  simp -implicitDefEqProofs [h10, W.e, W.mv, W.sq, W.og, W.fa, W.ld, W.nn, hcells]
  have o1 := Old.push w (.cells #[n64 u.frames, n64 u.mark, n64 u.lines, n64 u.cpus, n64 u.surplus] 25)
  generalize World.push w (.cells #[n64 u.frames, n64 u.mark, n64 u.lines, n64 u.cpus, n64 u.surplus] 25) = w1 at *
  refine valA_of (h63' u) (fun z w2 hq => ?_)
  obtain ⟨o2, hz | ⟨b, r, x, B, hb, hz, hc, hB, hx⟩⟩ := hq
  · simp only at o2 hz
    subst hz
    simp -implicitDefEqProofs [n28']
    exact ⟨o1.trans o2, .inl rfl⟩
  · simp only at o2 hz hc hx
    subst hz
    simp -implicitDefEqProofs [n28', hc]
    refine valA_of (hM.pol hx) (fun z w3 hq => ?_)
    obtain ⟨o3, p, hz⟩ := hq
    simp only at o3 hz
    subst hz
    simp -implicitDefEqProofs [n29', fillS, Instr.fill]
    have o4 := Old.push w3 (.cells #[pt b, pt p] 31)
    have z1 := o1.1
    have z2 := o2.1
    have z3 := o3.1
    exact ⟨((o1.trans o2).trans o3).trans o4, .inr ⟨w3.heap.size, b, r, pt p, x, B, rfl, by simp, (hc.trans rfl |> fun h => (o3.trans o4).cells h (fun h => h)), by omega, by omega, by omega, hx.old' (o3.trans o4)⟩⟩
theorem tail58 {K : Kont} {fuel : Nat} {W0 w : World} {ρ : Env} (hf : 0 < fuel) (h10' : ∀ {w : World} (u : Sup), (K.enter 10 #[u.v] w).all fun z => P10 w (u.cut 400) z.1 z.2) {u : Sup} {b : Nat} (ho : Old W0 w) (e1 : ρ 1 = nilS) (e2 : ρ 2 = pt b) (hc : cellsOf? w b = some (#[n64 u.frames, n64 u.mark, n64 u.lines, n64 u.cpus, n64 u.surplus], 25, (0, 0))) :
    codeR ⟨Tryz.prog, K, fuel, 58, none, 39, finPost Tryz.prog [⟨4, none⟩] (P10 W0 (u.cut 400))⟩ t58 [] ρ [] w := by
  simp -implicitDefEqProofs [t58, W.e, W.mv, W.sq, W.og, W.gr, e2, hc]
  refine valA_of (h10' u) (fun z w1 hq => ?_)
  have hl : ∀ w', lenS nilS w' = .ret (.int .i64 0, w') := fun _ => rfl
  obtain ⟨o1, hz | ⟨c, b', r, p, x, B, hz, hc1, hc2, g1, g2, g3, hx⟩⟩ := hq
  · simp only at o1 hz
    subst hz
    simp -implicitDefEqProofs
    refine loop_exit ?_ hf
    simp -implicitDefEqProofs [n22n]
    exact ⟨ho.trans o1, .inl rfl⟩
  · simp only at o1 hz hc1 hc2 hx
    subst hz
    have hz0 := ho.1
    simp -implicitDefEqProofs
    refine loop_exit ?_ hf
    simp -implicitDefEqProofs [n22n, e1, hl]
    exact ⟨ho.trans o1, .inr ⟨c, b', r, p, x, B, rfl, hc1, hc2, by omega, by omega, by omega, hx⟩⟩
theorem run58 {K : Kont} {fuel : Nat} {w : World} (hf : 0 < fuel) (h10' : ∀ {w : World} (u : Sup), (K.enter 10 #[u.v] w).all fun z => P10 w (u.cut 400) z.1 z.2) (u : Sup) : wpGFn Tryz.prog K fuel 58 h58 #[u.v, nilS] w (P10 w ((u.cut 200).cut 400)) := by
  rw [gfn_start]
  have hcells : u.v.cells = #[n64 u.frames, n64 u.mark, n64 u.lines, n64 u.cpus, n64 u.surplus] := rfl
  simp -implicitDefEqProofs [h58, W.e, W.e0, W.mv, W.sq, W.og, W.gr, W.fa, W.ld, hcells]
  refine ⟨fun h1 => ⟨fun h2 => ?_, fun h2 => ?_⟩, fun h1 => ?_⟩
  · refine tail58 hf h10' ((Old.push w _).set (Nat.le_refl _) _) (b := w.heap.size) ?_ ?_ ?_
    · simp
    · simp
    rw [cells_set, if_pos ⟨rfl, by simp⟩, show u.cut 200 = ⟨200, u.mark, u.lines, u.cpus, u.surplus⟩ from if_pos ⟨h1, h2⟩]
  · refine tail58 hf h10' (Old.push w _) (b := w.heap.size) ?_ ?_ ?_
    · simp
    · simp
    rw [show u.cut 200 = u from if_neg (fun h => by omega)]
    simp
  · refine tail58 hf h10' (Old.push w _) (b := w.heap.size) ?_ ?_ ?_
    · simp
    · simp
    rw [show u.cut 200 = u from if_neg (fun h => by omega)]
    simp
end Go.Proofs.YteljibbnpheekaaGreat
namespace Go.Proofs.YteljibbnpheekaaGreat
open Go Go.Ideal
structure Aud (K : Kont) : Prop where
  yes : ∀ {w : World}, (K.enter 59 #[] w).all fun z => z.1 = .bool true ∧ z.2 = w
  made : ∀ {w : World} (u : Sup), (K.enter 58 #[u.v, nilS] w).all fun z => P10 w ((u.cut 200).cut 400) z.1 z.2
  tell : Tell K
  findN : ∀ {w : World}, (K.enter 60 #[.pointer none] w).all fun z => P60 w 0 z.1 z.2
  cntN : ∀ {w : World}, (K.enter 61 #[.pointer none] w).all fun z => z.1 = cntV 0 ∧ Old w z.2
  rightN : ∀ {w : World}, (K.enter 62 #[.pointer none] w).all fun z => z.1 = n64 1 ∧ z.2 = w
  cnt : ∀ {w : World} {B x : Nat} {u : Sup}, Fresh w B x u → (K.enter 61 #[pt x] w).all fun z => z.1 = cntV u.frames.toNat ∧ Old w z.2
  right : ∀ {w : World} {B x : Nat} {u : Sup}, Fresh w B x u → (K.enter 62 #[pt x] w).all fun z => z.1 = n64 0 ∧ Old w z.2
theorem fill103 (W : World) : fillS #[(0, 1), (1, 1), (2, 1), (3, 1), (4, 1), (5, 1), (6, 1), (7, 1), (8, 1), (9, 1)] #[.int .i64 0, .int .i64 0, .int .i64 0, .int .i64 0, .int .i64 0, .int .i64 0, .int .i64 0, .int .i64 0, .int .i64 0, .int .i64 0] [] W = .ret (cntV 0, W) := by
  simp [fillS, Instr.fill, cntV]
theorem fill103' (n : Nat) (W : World) : fillS #[(0, 1), (1, 1), (2, 1), (3, 1), (4, 1), (5, 1), (6, 1), (7, 1), (8, 1), (9, 1)] #[.int .i64 0, .int .i64 0, .int .i64 0, .int .i64 0, .int .i64 0, .int .i64 0, .int .i64 0, .int .i64 0, .int .i64 0, .int .i64 0] [(0, n64 n)] W = .ret (cntV n, W) := by
  simp [fillS, Instr.fill, cntV]
theorem run9 {K : Kont} {fuel : Nat} {w : World} (hA : Aud K) (u : Sup) : wpGFn Tryz.prog K fuel 9 h9 #[u.v] w fun z _ => z = .bool true := by
  rw [gfn_start]
  have hcells : u.v.cells = #[n64 u.frames, n64 u.mark, n64 u.lines, n64 u.cpus, n64 u.surplus] := rfl
  have hl0 : ∀ {w' : World} {z : Value}, RowE EI w' z (List.replicate 0 0) → ∀ w'', lenS z w'' = .ret (.int .i64 0, w'') := fun h w'' => h.lenS
  simp -implicitDefEqProofs [h9, W.e, W.mv, W.sq, W.og, W.gr, W.fa, W.ld, W.nn, hcells]
  generalize World.push w (.cells #[n64 u.frames, n64 u.mark, n64 u.lines, n64 u.cpus, n64 u.surplus] 25) = w1 at *
  refine valA_of (hA.made u) (fun z w2 hq => ?_)
  obtain ⟨o2, hz | ⟨c, b, r, p, x, B, hz, hc1, hc2, g1, g2, g3, hx⟩⟩ := hq
  · simp only at o2 hz
    subst hz
    simp -implicitDefEqProofs
    refine valA_of hA.yes (fun z w3 hq => ?_)
    obtain ⟨hz, hw⟩ := hq
    simp only at hz hw
    subst hz hw
    simp -implicitDefEqProofs [n22']
    refine valA_of hA.yes (fun z w4 hq => ?_)
    obtain ⟨hz, hw⟩ := hq
    simp only at hz hw
    subst hz hw
    simp -implicitDefEqProofs
    refine valA_of hA.findN (fun z w5 hq => ?_)
    obtain ⟨_, hr, _⟩ := hq
    simp only at hr
    have hl := hl0 hr
    simp -implicitDefEqProofs [hl]
    refine valA_of hA.cntN (fun z w6 hq => ?_)
    obtain ⟨hz, _⟩ := hq
    simp only at hz
    subst hz
    simp -implicitDefEqProofs [fill103, cnt_eq]
    refine valA_of hA.rightN (fun z w7 hq => ?_)
    obtain ⟨hz, hw⟩ := hq
    simp only at hz hw
    subst hz hw
    simp -implicitDefEqProofs
  · simp only at o2 hz hc1 hc2 hx
    subst hz
    obtain ⟨v, hv⟩ : ∃ v, v = (u.cut 200).cut 400 := ⟨_, rfl⟩
    rw [← hv] at hx
    obtain ⟨n, hn⟩ : ∃ n, v.frames.toNat = n := ⟨_, rfl⟩
    have hvn := frames_nat hx.ok
    rw [hn] at hvn
    simp -implicitDefEqProofs
    refine valA_of hA.yes (fun z w3 hq => ?_)
    obtain ⟨hz, hw⟩ := hq
    simp only at hz hw
    subst hz hw
    simp -implicitDefEqProofs [n22', hc1, hc2]
    refine valA_of (hA.cnt hx) (fun z w4 hq => ?_)
    obtain ⟨hz, o4⟩ := hq
    simp only at hz o4
    rw [hn] at hz
    subst hz
    have hc14 := o4.cells hc1 (fun h => h)
    have hc24 := o4.cells hc2 (fun h => h)
    have hx4 := hx.old' o4
    simp -implicitDefEqProofs [hc14, hc24]
    refine valA_of (hA.tell.t26 hx4) (fun z w5 hq => ?_)
    obtain ⟨hz, hw⟩ := hq
    simp only at hz hw
    subst hz hw
    rw [hvn]
    simp -implicitDefEqProofs [fill103', cnt_eq, hc14, hc24]
    refine valA_of (hA.right hx4) (fun z w6 hq => ?_)
    obtain ⟨hz, o6⟩ := hq
    simp only at hz o6
    subst hz
    simp -implicitDefEqProofs
    refine valA_of hA.findN (fun z w5 hq => ?_)
    obtain ⟨_, hr, _⟩ := hq
    simp only at hr
    have hl := hl0 hr
    simp -implicitDefEqProofs [hl]
    refine valA_of hA.rightN (fun z w7 hq => ?_)
    obtain ⟨hz, hw⟩ := hq
    simp only at hz hw
    subst hz hw
    simp -implicitDefEqProofs
end Go.Proofs.YteljibbnpheekaaGreat
namespace Go.Proofs.YteljibbnpheekaaGreat
open Go Go.Ideal
set_option maxRecDepth 100000
noncomputable abbrev KN (m : Nat) : Kont := runH Tryz.prog (yesH 59) m
theorem ent {m : Nat} {f : FuncId} {gf : GFn} {args : Array Value} {w : World} {Q : Value × World → Prop} (hl : lowG Tryz.prog f = some gf) (hn : f ≠ 59) (h : wpGFn Tryz.prog (KN m) (m + 1) f gf args w fun v w => Q (v, w)) : ((KN (m + 1)).enter f args w).all Q :=
  enter_okH hl (yes_ne hn) h
theorem pred {m l : Nat} (h : 2000000 + (l + 1) ≤ m) : ∃ k, m = k + 1 ∧ 2000000 + l ≤ k := ⟨m - 1, by omega, by omega⟩
theorem pred' {m l : Nat} (h : 2000000 + (l + 1) ≤ m) : 2000000 + l ≤ m := by omega
theorem k_nan {m : Nat} (hm : 2000000 + 1 ≤ m) : Nan (KN m) := by
  obtain ⟨m, rfl, hk⟩ := pred (l := 0) hm
  exact ⟨fun w a => ent lw587 (by decide) (run587 a), fun w a => ent lw499 (by decide) (run499 a)⟩
theorem k_less {m : Nat} (hm : 2000000 + 2 ≤ m) : Less (KN m) := by
  have h0 := k_nan (pred' hm)
  obtain ⟨m, rfl, hk⟩ := pred (l := 1) hm
  exact { toNan := h0, less := fun w a b => ent lw397 (by decide) (run397 (k_nan hk) a b) }
theorem k_srch {m : Nat} (hm : 2000000 + 3 ≤ m) : Srch (KN m) := by
  obtain ⟨m, rfl, hk⟩ := pred (l := 2) hm
  exact { find := fun hv _ hl hn => ent lw557 (by decide) (run557 (k_less hk) (by omega) hv hl hn), ins := fun hv hn _ _ hvb => ent lw510 (by decide) (run510 hv hn hvb) }
theorem k_plc {m : Nat} (hm : 2000000 + 4 ≤ m) : Plc (KN m) := by
  have h0 := k_srch (pred' hm)
  obtain ⟨m, rfl, hk⟩ := pred (l := 3) hm
  exact { toSrch := h0, place := fun hb _ hk' _ hl hn => ent lw509 (by decide) (run509 (k_srch hk) hb hk' hl hn) }
theorem k_put {m : Nat} (hm : 2000000 + 5 ≤ m) : Put (KN m) := by
  obtain ⟨m, rfl, hk⟩ := pred (l := 4) hm
  exact ⟨fun hb _ hk' _ hl hn => ent lw424 (by decide) (run424 (k_plc hk) hb hk' hl hn)⟩
theorem k_bud {m : Nat} (hm : 2000000 + 6 ≤ m) : Bud (KN m) := by
  obtain ⟨m, rfl, hk⟩ := pred (l := 5) hm
  exact ⟨fun w n => ent lw296 (by decide) (run296 (k_put hk) (by omega) n)⟩
theorem k_parts {m : Nat} (hm : 2000000 + 7 ≤ m) : Parts (KN m) := by
  obtain ⟨m, rfl, hk⟩ := pred (l := 6) hm
  exact { kinds := fun w n => ent lw165 (by decide) (run165 (k_bud hk) (by omega) n)
          ram := fun w n h8 h1 => ent lw166 (by decide) (run166 h8 h1)
          frames := fun w n h8 h1 => ent lw167 (by decide) (run167 h8 h1)
          tlb := fun w n => ent lw168 (by decide) (run168 n) }
theorem k_big {m : Nat} (hm : 2000000 + 8 ≤ m) : Big (KN m) := by
  obtain ⟨m, rfl, hk⟩ := pred (l := 7) hm
  exact { mem := fun w n mark => ent lw79 (by decide) (run79 (k_parts hk) n mark)
          cpus := fun w n l => ent lw80 (by decide) (run80 (k_parts hk) (by omega) n l)
          pool := fun w k n => ent lw81 (by decide) (run81 k n)
          rmap := fun w => ent lw82 (by decide) run82
          obj := fun w => ent lw83 (by decide) run83
          resv := fun w => ent lw84 (by decide) run84
          comp := fun w => ent lw85 (by decide) run85
          clock := fun w => ent lw86 (by decide) run86
          ram := fun hm => ent lw70 (by decide) (run70 hm)
          table := fun w r t v => ent lw87 (by decide) run87
          gather := fun w => ent lw88 (by decide) run88
          moving := fun w => ent lw89 (by decide) run89 }
theorem k_get0 {m : Nat} (hm : 2000000 + 1 ≤ m) : Get0 (KN m) := by
  obtain ⟨m, rfl, hk⟩ := pred (l := 0) hm
  exact { g117 := fun h => ent lw117 (by decide) (run117 h)
          g243 := fun h _ hi => ent lw243 (by decide) (run243 h hi)
          g249 := fun h => ent lw249 (by decide) (run249 h)
          g128 := fun h => ent lw128 (by decide) (run128 h)
          g127 := fun h => ent lw127 (by decide) (run127 (by omega) h)
          g260 := fun h hr _ hi => ent lw260 (by decide) (run260 h hr hi)
          g73 := fun h hm i => ent lw73 (by decide) (run73 h hm i)
          g124 := fun h hm i => ent lw124 (by decide) (run124 h hm i) }
theorem k_get1 {m : Nat} (hm : 2000000 + 2 ≤ m) : Get1 (KN m) := by
  have h0 := k_get0 (pred' hm)
  obtain ⟨m, rfl, hk⟩ := pred (l := 1) hm
  exact { toGet0 := h0
          g123 := fun h _ hi => ent lw123 (by decide) (run123 (k_get0 hk) h hi)
          g132 := fun h _ hi => ent lw132 (by decide) (run132 (k_get0 hk) h hi) }
theorem k_401 {m : Nat} (hm : 2000000 + 1 ≤ m) (w : World) {n : Nat} (hn : n < 256) : ((KN m).enter 401 #[.int .u64 n] w).all fun x => x.2 = w ∧ SomeN x.1 := by
  obtain ⟨m, rfl, hk⟩ := pred (l := 0) hm
  exact ent lw401 (by decide) (run401 hn)
theorem k_bits {m : Nat} (hm : 2000000 + 2 ≤ m) : Bits (KN m) := by
  obtain ⟨m, rfl, hk⟩ := pred (l := 1) hm
  exact ⟨fun w _ hn => ent lw264 (by decide) (run264 (k_401 hk) hn)⟩
theorem k_391 {m : Nat} (hm : 2000000 + 1 ≤ m) (w : World) (v : Value) : ((KN m).enter 391 #[v, n64 0, n64 0] w).all fun x => x.2 = w := by
  obtain ⟨m, rfl, hk⟩ := pred (l := 0) hm
  exact ent lw391 (by decide) (run391 (by omega) v)
theorem k_484 {m : Nat} (hm : 2000000 + 1 ≤ m) (w : World) (v f : Value) : ((KN m).enter 484 #[v, n64 0, n64 0, f] w).all fun x => x.2 = w := by
  obtain ⟨m, rfl, hk⟩ := pred (l := 0) hm
  exact ent lw484 (by decide) (run484 (by omega) v f)
theorem k_sort0 {m : Nat} (hm : 2000000 + 3 ≤ m) : Sort0 (KN m) := by
  have h0 := k_bits (pred' hm)
  obtain ⟨m, rfl, hk⟩ := pred (l := 2) hm
  exact { toBits := h0
          pi := fun w v b => ent lw263 (by decide) (run263 (by omega) (k_391 (by omega)) v b)
          pr := fun w v b f => ent lw386 (by decide) (run386 (by omega) (k_484 (by omega)) v b f) }
theorem k_cmp {m : Nat} (hm : 2000000 + 1 ≤ m) : Cmp (KN m) := by
  obtain ⟨m, rfl, hk⟩ := pred (l := 0) hm
  exact ⟨fun w p q => ent lw493 (by decide) (run493 p q)⟩
theorem k_579 {m : Nat} (hm : 2000000 + 2 ≤ m) {w : World} {v : Value} {xs : List Blk} (hv : RowE EBk w v xs) (hn : xs.length ≤ 12) : ((KN m).enter 579 #[v, n64 0, n64 xs.length, f493] w).all fun x => Sorts w v xs x.2 := by
  obtain ⟨m, rfl, hk⟩ := pred (l := 1) hm
  exact ent lw579 (by decide) (run579 (k_cmp hk) (by omega) hv hn)
theorem k_sortB {m : Nat} (hm : 2000000 + 4 ≤ m) : SortB (KN m) := by
  have h0 := k_sort0 (pred' hm)
  obtain ⟨m, rfl, hk⟩ := pred (l := 3) hm
  exact { toSort0 := h0, p551 := fun hv hn => ent lw551 (by decide) (run551 (k_579 (by omega)) (by omega) hv hn) }
theorem k_492 {m : Nat} (hm : 2000000 + 5 ≤ m) {w : World} {v : Value} {xs : List Blk} (hv : RowE EBk w v xs) (hn : xs.length ≤ 12) : ((KN m).enter 492 #[v, f493] w).all fun x => Sorts w v xs x.2 := by
  obtain ⟨m, rfl, hk⟩ := pred (l := 4) hm
  exact ent lw492 (by decide) (run492 (k_sortB hk) hv hn)
theorem k_387 {m : Nat} (hm : 2000000 + 6 ≤ m) {w : World} {b n : Nat} {lv : Nat → Value} {l : List Blk} (hb : BudAt w b n n lv (ofK l)) (hl : ∀ p ∈ l, p.1 ≤ 8) (hn : l.length ≤ 12) :
    ((KN m).enter 387 #[pt b] w).all fun x => Old w x.2 ∧ ∃ ys, RowE EBk x.2 x.1 ys ∧ ys.Perm l ∧ ∀ y, blkOf x.1 = some y → w.heap.size ≤ y := by
  obtain ⟨m, rfl, hk⟩ := pred (l := 5) hm
  exact ent lw387 (by decide) (run387 (k_492 hk) (by omega) hb hl hn)
theorem k_253 {m : Nat} (hm : 2000000 + 7 ≤ m) {w : World} {B c n b : Nat} {kv : Value} {lv : Nat → Value} {l : List Blk} (h : KinAt w B c n b kv lv l) :
    ((KN m).enter 253 #[pt c] w).all fun x => Old w x.2 ∧ ∃ ys, RowE EBk x.2 x.1 ys ∧ ys.Perm l ∧ ∀ y, blkOf x.1 = some y → w.heap.size ≤ y := by
  obtain ⟨m, rfl, hk⟩ := pred (l := 6) hm
  exact ent lw253 (by decide) (run253 (k_387 hk) h)
theorem k_126 {m : Nat} (hm : 2000000 + 8 ≤ m) {w : World} {B mm n : Nat} {mark : Int} {r k f b : Nat} {kv fv : Value} {lv : Nat → Value} {l : List Blk} (h : MemAt w B mm n mark r k f b kv fv lv l) :
    ((KN m).enter 126 #[pt mm] w).all fun x => Old w x.2 ∧ ∃ ys, RowE EBk x.2 x.1 ys ∧ ys.Perm l ∧ ∀ y, blkOf x.1 = some y → w.heap.size ≤ y := by
  obtain ⟨m, rfl, hk⟩ := pred (l := 7) hm
  exact ent lw126 (by decide) (run126 (k_253 hk) h)
theorem k_137 {m : Nat} (hm : 2000000 + 4 ≤ m) {w : World} {v : Value} (h : Emp v) : ((KN m).enter 137 #[v] w).all fun x => x.2 = w := by
  obtain ⟨m, rfl, hk⟩ := pred (l := 3) hm
  exact ent lw137 (by decide) (run137 (k_sort0 hk) h)
theorem k_250 {m : Nat} (hm : 2000000 + 4 ≤ m) {w : World} {v f : Value} (h : Emp v) : ((KN m).enter 250 #[v, f] w).all fun x => x.2 = w := by
  obtain ⟨m, rfl, hk⟩ := pred (l := 3) hm
  exact ent lw250 (by decide) (run250 (k_sort0 hk) h)
theorem k_159 {m : Nat} (hm : 2000000 + 5 ≤ m) {c p pm : Nat} {k n : Int} {t : TypeId} {w : World} (hc : cellsOf? w c = some (#[pt p], t, (0, 0))) (h : PoolN w p pm k n) : ((KN m).enter 159 #[pt c] w).all fun x => Old w x.2 ∧ Emp x.1 := by
  obtain ⟨m, rfl, hk⟩ := pred (l := 4) hm
  exact ent lw159 (by decide) (run159 (k_137 hk) (by omega) hc h)
theorem k_158 {m : Nat} (hm : 2000000 + 6 ≤ m) {c p pm : Nat} {k n : Int} {t : TypeId} {w : World} (hc : cellsOf? w c = some (#[pt p], t, (0, 0))) (h : PoolN w p pm k n) : ((KN m).enter 158 #[pt p, .func (.func 159) #[] #[pt c]] w).all fun x => Old w x.2 ∧ Emp x.1 := by
  obtain ⟨m, rfl, hk⟩ := pred (l := 5) hm
  exact ent lw158 (by decide) (run158 (k_159 hk) hc h)
theorem k_161 {m : Nat} (hm : 2000000 + 1 ≤ m) {c p pm : Nat} {k n : Int} {t : TypeId} {w : World} (hc : cellsOf? w c = some (#[pt p], t, (0, 0))) (h : PoolN w p pm k n) : ((KN m).enter 161 #[pt c] w).all fun x => x.2 = w := by
  obtain ⟨m, rfl, hk⟩ := pred (l := 0) hm
  exact ent lw161 (by decide) (run161 hc h)
theorem k_162 {m : Nat} (hm : 2000000 + 1 ≤ m) {c p pm : Nat} {k n : Int} {t : TypeId} {w : World} (hc : cellsOf? w c = some (#[pt p], t, (0, 0))) (h : PoolN w p pm k n) : ((KN m).enter 162 #[pt c] w).all fun x => x.2 = w := by
  obtain ⟨m, rfl, hk⟩ := pred (l := 0) hm
  exact ent lw162 (by decide) (run162 hc h)
theorem k_160a {m : Nat} (hm : 2000000 + 2 ≤ m) {c p pm : Nat} {k n : Int} {t : TypeId} {w : World} (hc : cellsOf? w c = some (#[pt p], t, (0, 0))) (h : PoolN w p pm k n) : ((KN m).enter 160 #[pt p, .func (.func 161) #[] #[pt c]] w).all fun x => x.2 = w := by
  obtain ⟨m, rfl, hk⟩ := pred (l := 1) hm
  exact ent lw160 (by decide) (run160 161 (.inl rfl) (k_161 hk) hc h)
theorem k_160b {m : Nat} (hm : 2000000 + 2 ≤ m) {c p pm : Nat} {k n : Int} {t : TypeId} {w : World} (hc : cellsOf? w c = some (#[pt p], t, (0, 0))) (h : PoolN w p pm k n) : ((KN m).enter 160 #[pt p, .func (.func 162) #[] #[pt c]] w).all fun x => x.2 = w := by
  obtain ⟨m, rfl, hk⟩ := pred (l := 1) hm
  exact ent lw160 (by decide) (run160 162 (.inr rfl) (k_162 hk) hc h)
theorem k_poolQ {m : Nat} (hm : 2000000 + 7 ≤ m) : PoolQ (KN m) := by
  obtain ⟨m, rfl, hk⟩ := pred (l := 6) hm
  exact { free := fun h => ent lw75 (by decide) (run75 (k_158 hk) h), total := fun h => ent lw76 (by decide) (run76 (k_160a (by omega)) h), prom := fun h => ent lw77 (by decide) (run77 (k_160b (by omega)) h) }
theorem k_125 {m : Nat} (hm : 2000000 + 5 ≤ m) {w : World} {b : Nat} (h : cellsOf? w b = some (#[nilS], 268, (0, 0))) : ((KN m).enter 125 #[pt b] w).all fun x => Old w x.2 ∧ Emp x.1 := by
  obtain ⟨m, rfl, hk⟩ := pred (l := 4) hm
  exact ent lw125 (by decide) (run125 (k_250 hk) h)
theorem k_tell {m : Nat} (hm : 2000000 + 9 ≤ m) : Tell (KN m) := by
  obtain ⟨m, rfl, hk⟩ := pred (l := 8) hm
  have g0 : Get0 (KN m) := k_get0 (by omega)
  have g1 : Get1 (KN m) := k_get1 (by omega)
  exact { t26 := fun h => ent lw26 (by decide) (run26 h)
          t27 := fun h => ent lw27 (by decide) (run27 h)
          t28 := fun h => ent lw28 (by decide) (run28 g0 h)
          t37 := fun h => ent lw37 (by decide) (run37 (k_126 hk) h)
          t16 := fun h i => ent lw16 (by decide) (run16 g1 h i)
          t38 := fun h => ent lw38 (by decide) (run38 g1 h)
          t39 := fun h => ent lw39 (by decide) (run39 g1 h)
          t40 := fun h => ent lw40 (by decide) (run40 (by omega) h)
          t18 := fun h k hk' => ent lw18 (by decide) (run18 (k_poolQ (by omega)) h k hk')
          t36 := fun h => ent lw36 (by decide) (run36 (k_125 (by omega)) h)
          t35 := fun h i => ent lw35 (by decide) (run35 g1 h i)
          t34 := fun h _ hi => ent lw34 (by decide) (run34 g1 h hi)
          t42 := fun h _ hi => ent lw42 (by decide) (run42 g1 h hi)
          o26 := ent lw26 (by decide) run26n
          o27 := ent lw27 (by decide) run27n
          o37 := ent lw37 (by decide) run37n
          o38 := ent lw38 (by decide) run38n
          o39 := ent lw39 (by decide) run39n
          o40 := ent lw40 (by decide) run40n
          o36 := ent lw36 (by decide) run36n
          o35 := fun i => ent lw35 (by decide) (run35n i)
          o16 := fun i => ent lw16 (by decide) (run16n i)
          o18 := fun i => ent lw18 (by decide) (run18n i) }
theorem k_147 {m : Nat} (hm : 2000000 + 1 ≤ m) : Fn147 (KN m) := by
  obtain ⟨m, rfl, hk⟩ := pred (l := 0) hm
  exact ⟨fun h _ hf v hb => ent lw147 (by decide) (run147 h hf v hb)⟩
theorem k_150 {m : Nat} (hm : 2000000 + 10 ≤ m) {W0 : World} {x : Value} {n : Nat} (hL : Look (KN (m - 1)) W0 x n) (hx1 : one1 x = true) {w : World} {fb ib ob : Nat} {is of : List Int} (h : Fnd w fb ib ob x n is of) (ho : Old W0 w) : ((KN m).enter 150 #[pt fb] w).all fun z => Old w z.2 := by
  obtain ⟨m, rfl, hk⟩ := pred (l := 9) hm
  exact ent lw150 (by decide) (run150 hL (by omega) h ho hx1)
def Who (w : World) (x : Value) (n : Nat) : Prop := x = .pointer none ∧ n = 0 ∨ ∃ b B u, x = pt b ∧ Fresh w B b u ∧ n = u.frames.toNat
theorem k_look {m : Nat} (hm : 2000000 + 9 ≤ m) {w : World} {x : Value} {n : Nat} (h : Who w x n) : Look (KN m) w x n := by
  rcases h with ⟨rfl, rfl⟩ | ⟨b, B, u, rfl, hx, rfl⟩
  · exact look_nil (k_tell hm) w
  · exact look_fresh (k_tell hm) hx
theorem Who.n {w : World} {x : Value} {n : Nat} (h : Who w x n) : n ≤ 1024 := by
  rcases h with ⟨_, rfl⟩ | ⟨b, B, u, _, hx, rfl⟩
  · omega
  · have := hx.ok.1.2.1; omega
theorem Who.one {w : World} {x : Value} {n : Nat} (h : Who w x n) : one1 x = true ∧ x.cells = #[x] := by
  rcases h with ⟨rfl, _⟩ | ⟨b, B, u, rfl, _, _⟩
  · exact ⟨rfl, rfl⟩
  · exact ⟨rfl, rfl⟩
theorem Who.keep {w w' : World} {x : Value} {n : Nat} (h : Who w x n) (ho : Old w w') : Who w' x n := by
  rcases h with h | ⟨b, B, u, h1, hx, h2⟩
  · exact .inl h
  · exact .inr ⟨b, B, u, h1, hx.old' ho, h2⟩
theorem k_60 {m : Nat} (hm : 2000000 + 11 ≤ m) {w : World} {x : Value} {n : Nat} (h : Who w x n) : ((KN m).enter 60 #[x] w).all fun z => P60 w n z.1 z.2 := by
  obtain ⟨m, rfl, hk⟩ := pred (l := 10) hm
  exact ent lw60 (by decide) (run60 (k_look (by omega) h) (k_147 (by omega)) (fun hf ho => k_150 (by omega) (k_look (by omega) h) h.one.1 hf ho) (by omega) h.n h.one.1 h.one.2)
theorem k_61 {m : Nat} (hm : 2000000 + 12 ≤ m) {w : World} {x : Value} {n : Nat} (h : Who w x n) : ((KN m).enter 61 #[x] w).all fun z => z.1 = cntV n ∧ Old w z.2 := by
  obtain ⟨m, rfl, hk⟩ := pred (l := 11) hm
  exact ent lw61 (by decide) (run61 (k_look (by omega) h) (fun ho => k_60 hk (h.keep ho)) (by omega) h.n)
theorem k_151 {m : Nat} (hm : 2000000 + 10 ≤ m) {w : World} {x : Value} {n : Nat} (h : Who w x n) : ((KN m).enter 151 #[x] w).all fun z => z.1 = n64 0 ∧ Old w z.2 := by
  obtain ⟨m, rfl, hk⟩ := pred (l := 9) hm
  exact ent lw151 (by decide) (run151 (k_look (by omega) h) (by omega) h.n)
theorem k_152 {m : Nat} (hm : 2000000 + 10 ≤ m) {w : World} {B x : Nat} {u : Sup} (h : Fresh w B x u) {i : Nat} (hi : i < u.cpus.toNat) : ((KN m).enter 152 #[pt x, n64 i] w).all fun z => z.1 = n64 0 ∧ Old w z.2 := by
  obtain ⟨m, rfl, hk⟩ := pred (l := 9) hm
  exact ent lw152 (by decide) (run152 (k_tell hk) (by omega) h hi)
theorem k_62 {m : Nat} (hm : 2000000 + 12 ≤ m) {w : World} {B x : Nat} {u : Sup} (h : Fresh w B x u) : ((KN m).enter 62 #[pt x] w).all fun z => z.1 = n64 0 ∧ Old w z.2 := by
  obtain ⟨m, rfl, hk⟩ := pred (l := 11) hm
  exact ent lw62 (by decide) (run62 (k_tell (by omega)) h (k_60 hk (.inr ⟨x, B, u, rfl, h, rfl⟩)) (fun h' => k_151 (by omega) (.inr ⟨x, B, u, rfl, h', rfl⟩)) (fun h' _ hi => k_152 (by omega) h' hi) (by omega))
theorem k_mk {m : Nat} (hm : 2000000 + 10 ≤ m) : Mk (KN m) := by
  obtain ⟨m, rfl, hk⟩ := pred (l := 9) hm
  exact { new := fun u => ent lw20 (by decide) (run20 (k_big (by omega)) u), ref := ent lw144 (by decide) run144, pol := fun h => ent lw44 (by decide) (run44 (k_tell hk) h) }
theorem k_63 {m : Nat} (hm : 2000000 + 11 ≤ m) {w : World} (u : Sup) : ((KN m).enter 63 #[u.v] w).all fun z => P63 w (u.cut 400) z.1 z.2 := by
  obtain ⟨m, rfl, hk⟩ := pred (l := 10) hm
  exact ent lw63 (by decide) (run63 (k_mk hk) u)
theorem k_10 {m : Nat} (hm : 2000000 + 12 ≤ m) {w : World} (u : Sup) : ((KN m).enter 10 #[u.v] w).all fun z => P10 w (u.cut 400) z.1 z.2 := by
  obtain ⟨m, rfl, hk⟩ := pred (l := 11) hm
  exact ent lw10 (by decide) (run10 (k_mk (by omega)) (k_63 hk) u)
theorem k_58 {m : Nat} (hm : 2000000 + 13 ≤ m) {w : World} (u : Sup) : ((KN m).enter 58 #[u.v, nilS] w).all fun z => P10 w ((u.cut 200).cut 400) z.1 z.2 := by
  obtain ⟨m, rfl, hk⟩ := pred (l := 12) hm
  exact ent lw58 (by decide) (run58 (by omega) (k_10 hk) u)
theorem k_aud {m : Nat} (hm : 2000000 + 14 ≤ m) : Aud (KN m) := by
  have h58 : ∀ {w : World} (u : Sup), ((KN m).enter 58 #[u.v, nilS] w).all fun z => P10 w ((u.cut 200).cut 400) z.1 z.2 := fun u => k_58 (by omega) u
  have htell : Tell (KN m) := k_tell (by omega)
  have h60 : ∀ {w : World}, ((KN m).enter 60 #[.pointer none] w).all fun z => P60 w 0 z.1 z.2 := k_60 (by omega) (.inl ⟨rfl, rfl⟩)
  have h61 : ∀ {w : World}, ((KN m).enter 61 #[.pointer none] w).all fun z => z.1 = cntV 0 ∧ Old w z.2 := k_61 (by omega) (.inl ⟨rfl, rfl⟩)
  have h61' : ∀ {w : World} {B x : Nat} {u : Sup}, Fresh w B x u → ((KN m).enter 61 #[pt x] w).all fun z => z.1 = cntV u.frames.toNat ∧ Old w z.2 := fun {w B x u} h => k_61 (by omega) (.inr ⟨x, B, u, rfl, h, rfl⟩)
  have h62 : ∀ {w : World} {B x : Nat} {u : Sup}, Fresh w B x u → ((KN m).enter 62 #[pt x] w).all fun z => z.1 = n64 0 ∧ Old w z.2 := fun h => k_62 (by omega) h
  obtain ⟨m, rfl, hk⟩ := pred (l := 13) hm
  exact { yes := fun {w} => by
            have : (KN (m + 1)).enter 59 #[] w = .ret (.bool true, w) := by
              simp only [KN, runH, yesH]
              rfl
            rw [this]; exact ⟨rfl, rfl⟩
          made := h58
          tell := htell
          findN := h60
          cntN := h61
          rightN := ent lw62 (by decide) run62n
          cnt := h61'
          right := h62 }
theorem ran9 (u : Sup) (w : World) : ∃ m, ((KN m).enter 9 #[u.v] w).all fun x => x.1 = .bool true := by
  obtain ⟨m, hm⟩ : ∃ m, 2000000 + 14 ≤ m := ⟨_, Nat.le_refl _⟩
  exact ⟨m + 1, ent lw9 (by decide) (run9 (k_aud hm) u)⟩
end Go.Proofs.YteljibbnpheekaaGreat
