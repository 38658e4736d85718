import Derived.Test.YteljibbnpheekaaGreatWn
namespace Go.Proofs.YteljibbnpheekaaGreat
open Go Go.Ideal
structure Fn147 (K : Kont) : Prop where
  found : ∀ {w : World} {fb ib ob : Nat} {x : Value} {n : Nat} {is of : List Int} (h : Fnd w fb ib ob x n is of) {f : Nat} (hf : f < n) (v : Int), (∀ y, y ∈ of → 0 ≤ y ∧ y < 1000000) → (K.enter 147 #[pt fb, n64 f, n64 v] w).all fun z => Fnd z.2 fb ib ob x n (is.set f v) (of.set f (of[f]'(by rw [h.lo]; exact hf) + 1)) ∧ Keeps w z.2 (fun j => j = ib ∨ j = ob)
structure Look (K : Kont) (W0 : World) (x : Value) (n : Nat) : Prop where
  frames : ∀ {w : World}, Old W0 w → (K.enter 26 #[x] w).all fun z => z.1 = n64 n ∧ z.2 = w
  spaces : ∀ {w : World}, Old W0 w → (K.enter 27 #[x] w).all fun z => z.1 = n64 0 ∧ z.2 = w
  blocks : ∀ {w : World}, Old W0 w → (K.enter 37 #[x] w).all fun z => Old w z.2 ∧ Tells z.2 z.1 n w
  owner : ∀ {w : World}, Old W0 w → ∀ i, (K.enter 16 #[x, n64 i] w).all fun z => Old w z.2 ∧ ∃ e : Int, e ≠ 0 ∧ z.1 = .tuple #[n64 0, n64 0, n64 e]
  queue : ∀ {w : World}, Old W0 w → (K.enter 38 #[x] w).all fun z => Old w z.2 ∧ Emp z.1
  moving : ∀ {w : World}, Old W0 w → (K.enter 39 #[x] w).all fun z => Old w z.2 ∧ Emp z.1
  bigs : ∀ {w : World}, Old W0 w → (K.enter 40 #[x] w).all fun z => Old w z.2 ∧ Emp z.1
  pool : ∀ {w : World}, Old W0 w → ∀ k, k = 3 ∨ k = 6 → (K.enter 18 #[x, n64 k] w).all fun z => Old w z.2 ∧ ∃ v a b, z.1 = .tuple #[v, a, b] ∧ Emp v
  resv : ∀ {w : World}, Old W0 w → (K.enter 36 #[x] w).all fun z => Old w z.2 ∧ Emp z.1
  spots : ∀ {w : World}, Old W0 w → ∀ i, (K.enter 35 #[x, n64 i] w).all fun z => Old w z.2 ∧ Emp z.1
theorem Fresh.keep {w w' : World} {F : Nat → Prop} {B x : Nat} {u : Sup} (h : Fresh w B x u) (hk : Keeps w w' F) (hF : ∀ j, B ≤ j → j < w.heap.size → ¬ F j) : Fresh w' B x u := by
  -- what lies there lies below the memory's end
  have hk' : Keeps w w' (fun j => F j ∧ j < w.heap.size) := ⟨hk.1, fun j hj hn => hk.2 j hj fun hf => hn ⟨hf, hj⟩⟩
  have hF' : ∀ j, B ≤ j → ¬ (F j ∧ j < w.heap.size) := fun j hj hh => hF j hj hh.2 hh.1
  obtain ⟨m, t, b, g, r, o, v, c, k, wv, pools, bigs, hx, ⟨r', k', f', b', kv, fv, lv, l, hm⟩, ⟨cv, ps, sm, hc⟩, ⟨m1, hr, hm1, q1, q2⟩, ⟨o1, o2, ho, ho1, ho2, q3, q4, q5⟩, ⟨hv, q6⟩, ⟨hcc, q7⟩, ⟨hwv, q8⟩, ⟨p, q, pm, qm, hpo, q9, hp, hpm, q10, q11, hq, hqm, q12, q13⟩⟩ := h.cell
  exact ⟨⟨m, t, b, g, r, o, v, c, k, wv, pools, bigs, hk'.cells hx (hF' _ h.old), ⟨r', k', f', b', kv, fv, lv, l, hm.keep hk' hF'⟩, ⟨cv, ps, sm, hc.keep hk' hF'⟩, ⟨m1, hk'.cells hr (hF' _ q1), hm1.keep hk' (hF' _ q2), q1, q2⟩,
    ⟨o1, o2, hk'.cells ho (hF' _ q3), ho1.keep hk' (hF' _ q4), ho2.keep hk' (hF' _ q5), q3, q4, q5⟩, ⟨hk'.cells hv (hF' _ q6), q6⟩, ⟨hk'.cells hcc (hF' _ q7), q7⟩, ⟨hk'.cells hwv (hF' _ q8), q8⟩,
    ⟨p, q, pm, qm, hpo.keep hk' (hF' _ q9), q9, hk'.cells hp (hF' _ q10), hpm.keep hk' (hF' _ q11), q10, q11, hk'.cells hq (hF' _ q12), hqm.keep hk' (hF' _ q13), q12, q13⟩⟩, h.old, h.ok⟩
theorem run150 {K : Kont} {fuel : Nat} {W0 : World} {x : Value} {n : Nat} (hL : Look K W0 x n) (hf : 0 < fuel) {w : World} {fb ib ob : Nat} {is of : List Int} (h : Fnd w fb ib ob x n is of) (ho : Old W0 w) (_hx1 : one1 x = true) : wpGFn Tryz.prog K fuel 150 h150 #[pt fb] w fun _ w' => Old w w' := by
  rw [gfn_start]
  have hc := h.cell
  simp -implicitDefEqProofs [h150, W.e, W.e0, W.mv, W.sq, W.og, W.fa, W.ld, W.nn, hc]
  refine valA_of (hL.queue ho) (fun z w1 hq => ?_)
  obtain ⟨o1, he⟩ := hq
  simp only at o1 he
  have hl := fun w' => he.lenS (w' := w')
  simp -implicitDefEqProofs [hl]
  refine loop_exit ?_ hf
  have hc1 := o1.cells hc (fun h => h)
  simp -implicitDefEqProofs [hc1]
  refine valA_of (hL.moving (ho.trans o1)) (fun z w2 hq => ?_)
  obtain ⟨o2, he⟩ := hq
  simp only at o2 he
  have hl := fun w' => he.lenS (w' := w')
  simp -implicitDefEqProofs [hl]
  refine loop_exit ?_ hf
  simp -implicitDefEqProofs
  exact o1.trans o2
end Go.Proofs.YteljibbnpheekaaGreat
namespace Go.Proofs.YteljibbnpheekaaGreat
open Go Go.Ideal
structure FS (W0 w : World) (ρ : Env) (x : Value) (n fb ib ob : Nat) (of : List Int) : Prop where
  r0 : ρ 0 = x
  r3 : ρ 3 = n64 n
  r4 : ρ 4 = pt fb
  old : Old W0 w
  fnd : Fnd w fb ib ob x n (List.replicate n 0) of
  one : ∀ f, (h : f < n) → of[f]'(by rw [fnd.lo]; exact h) = 1
  nfb : W0.heap.size ≤ fb
  nib : W0.heap.size ≤ ib
  nob : W0.heap.size ≤ ob
theorem FS.step {W0 w w' : World} {ρ ρ' : Env} {x : Value} {n fb ib ob : Nat} {of : List Int} (h : FS W0 w ρ x n fb ib ob of) (ho : Old w w') (h0 : ρ' 0 = ρ 0) (h3 : ρ' 3 = ρ 3) (h4 : ρ' 4 = ρ 4) : FS W0 w' ρ' x n fb ib ob of :=
  ⟨by rw [h0, h.r0], by rw [h3, h.r3], by rw [h4, h.r4], h.old.trans ho, h.fnd.keep ho (fun h => h) (fun h => h) (fun h => h), h.one, h.nfb, h.nib, h.nob⟩
abbrev P60 (W0 : World) (n : Nat) : Value → World → Prop := fun z w' => Old W0 w' ∧ RowE EI w' z (List.replicate n 0) ∧ ∀ y, blkOf z = some y → W0.heap.size ≤ y
noncomputable abbrev X60 (K : Kont) (fuel : Nat) (Q : Value → World → Prop) : Cx := ⟨Tryz.prog, K, fuel, 60, none, 254, finPost Tryz.prog [⟨2, none⟩] Q⟩
section
variable {K : Kont} {fuel : Nat} {W0 w : World} {ρ : Env} {x : Value} {n fb ib ob : Nat} {of : List Int}
theorem tail7 (hf : n < fuel) (h : FS W0 w ρ x n fb ib ob of) (hn1 : n ≤ 1024) : codeR (X60 K fuel (P60 W0 n)) t60_7 [] ρ [] w := by
  have e0 := h.r0
  have e3 := h.r3
  have e4 := h.r4
  simp -implicitDefEqProofs [t60_7, W.e, W.e0, W.mv, W.sq, W.og, W.fa, W.ld, W.nn, e3]
  refine loop_go (fun m ρ w' => ∃ i : Nat, m = n - i ∧ i ≤ n ∧ ρ 4 = pt fb ∧ ρ 231 = n64 n ∧ ρ 232 = n64 i ∧ w' = w) ?_ (i := n) ?_ (by show n < fuel; omega)
  · rintro m ρ w' ⟨i, rfl, hi, e4, e231, e232, rfl⟩
    have hc := h.fnd.cell
    by_cases hin : i < n
    · obtain ⟨rb, ro, rcap, oc, hve, hoc, hosz, hoxt⟩ := h.fnd.ro.int (i := i) (by rw [h.fnd.lo]; exact hin)
      rw [h.fnd.lo] at hve
      simp only [Value.slice.injEq, Option.some.injEq, Addr.mk.injEq] at hve
      obtain ⟨⟨g1, g2, _⟩, _, g3⟩ := hve
      subst g1 g2 g3
      rw [h.one i hin] at hoxt
      simp only [Nat.zero_add] at hosz hoxt
      have hget := getOf hoxt
      have x1 : IntKind.i64.wrap ((i : Int) + 1) = (i : Int) + 1 := by rw [IntKind.wrap_i64]; omega
      simp -implicitDefEqProofs [e4, e231, e232, hin, hc, hoc, hosz, hget, x1]
      exact ⟨n - (i + 1), by omega, i + 1, rfl, by omega, by omega⟩
    · have hie : i = n := by omega
      subst hie
      simp -implicitDefEqProofs [e4, e231, e232, hc]
      exact ⟨h.old, h.fnd.ri, fun y hy => by cases hy; exact h.nib⟩
  · exact ⟨0, rfl, Nat.zero_le _, by simp [e4], by simp, by simp, rfl⟩
theorem tail6 (hL : Look K W0 x n) (hf : n < fuel) (h : FS W0 w ρ x n fb ib ob of) (hn1 : n ≤ 1024) : codeR (X60 K fuel (P60 W0 n)) t60_6 [] ρ [] w := by
  have e0 := h.r0
  simp -implicitDefEqProofs [t60_6, W.e, W.e0, W.mv, W.sq, W.og, W.fa, W.ld, e0]
  refine valA_of (hL.resv (h.old)) (fun z w1 hq => ?_)
  obtain ⟨ho, he⟩ := hq
  simp only at ho he
  have hl := fun w' => he.lenS (w' := w')
  simp -implicitDefEqProofs [hl]
  refine loop_exit ?_ (by show 0 < fuel; omega)
  simp -implicitDefEqProofs
  exact tail7 hf (h.step ho (by simp) (by simp) (by simp)) hn1
theorem a213 : Tryz.prog.underlying 213 = some (.array 2 3) := by kernel_rfl
theorem ag3 : aggOf Tryz.prog 3 = some none := by kernel_rfl
theorem arr213 {K : Kont} {ρ : Env} {w : World} {ty : TypeId} : sone Tryz.prog K (ev ρ) w (.raw (.build 213 #[(0, .const (.int .i64 3)), (1, .const (.int .i64 6))]) ty) = .ret (.agg #[n64 3, n64 6], w) := by
  have hc : ((Op.build 213 #[(0, Operand.const (.int .i64 3)), (1, .const (.int .i64 6))]).operands.all constFit) = true := by simp [Op.operands, constFit, selfD]
  have hall : (match Tryz.prog.info? 213, Tryz.prog.info? 3 with
      | some i, some ie => (match i.zero with
        | some z => selfD 4 z && decide (ie.size = 1) && (match z with | .agg cs => decide (cs.size = 2) | _ => false)
        | none => false)
      | _, _ => false) = true := by kernel_rfl
  split at hall
  · rename_i i ie hi hie
    split at hall
    · rename_i z hz
      simp only [Bool.and_eq_true, decide_eq_true_eq] at hall
      obtain ⟨⟨hself, hs1⟩, hag⟩ := hall
      split at hag
      · rename_i cs
        have hcs := of_decide_eq_true hag
        obtain ⟨a, b, rfl⟩ : ∃ a b, cs = #[a, b] := by
          obtain ⟨l⟩ := cs
          match l, hcs with
          | [a, b], _ => exact ⟨a, b, rfl⟩
        have hz0 : zeroOk Tryz.prog 213 = true := by unfold zeroOk; simp only [hi, hz, hself]
        have hzv : ∀ w : World, (zeroValue 213).run Tryz.prog w = .ok (.agg #[a, b]) w := fun w => by simp [zeroValue, typeInfo, Sem.run_bind, hi, hz, Result.andThen]
        have hfill : Instr.fill (fun j => some (j * ie.size, ie.size)) (Value.agg #[a, b]).cells [(0, n64 3), (1, n64 6)] = some #[n64 3, n64 6] := by rw [hs1]; rfl
        have hrun : (execOp (ev ρ) { dst := none, op := .build 213 #[(0, .const (.int .i64 3)), (1, .const (.int .i64 6))], type := ty, pos := "", after := #[], guard := none }).run Tryz.prog w = .ok (.value (.agg #[n64 3, n64 6])) w := by
          have hl : (#[(0, Operand.const (.int .i64 3)), (1, .const (.int .i64 6))].map fun (p : Nat × Operand) => (p.1, ev ρ p.2)).toList = [(0, n64 3), (1, n64 6)] := by simp
          simp only [execOp, Instr.build, Sem.run_bind, hzv, Result.andThen, run_underlying' a213, run_sizeOf' hie, hl, hfill, Sem.run_pure]
        simp only [sone, pstep, istep, hc, if_true, hz0, hrun, ofRun, pval, T.bind]
      · cases hag
    · cases hall
  · cases hall
theorem tail5 (hL : Look K W0 x n) (hf : n < fuel) (hf2 : 2 < fuel) (h : FS W0 w ρ x n fb ib ob of) (hn1 : n ≤ 1024) : codeR (X60 K fuel (P60 W0 n)) t60_5 [] ρ [] w := by
  have e0 := h.r0
  simp -implicitDefEqProofs [t60_5, W.e, W.mv, W.sq, W.og, W.ld, W.ex, arr213]
  obtain ⟨inf, i1, i2⟩ : ∃ inf, Tryz.prog.info? 3 = some inf ∧ inf.size = 1 := by
    obtain ⟨i, hi, _, hs, _⟩ := i3; exact ⟨i, hi, hs⟩
  refine loop_go (fun m ρ w' => ∃ q : Nat, m = 2 - q ∧ q ≤ 2 ∧ ρ 177 = .agg #[n64 3, n64 6] ∧ ρ 178 = n64 q ∧ FS W0 w' ρ x n fb ib ob of) ?_ (i := 2) ?_ (by show 2 < fuel; omega)
  · rintro m ρ w' ⟨q, rfl, hq, e177, e178, h⟩
    have e0 := h.r0
    by_cases hq2 : q < 2
    · have hq2' : (q : Int) < 2 := by omega
      obtain ⟨k, hk, hkq⟩ : ∃ k : Int, (k = 3 ∨ k = 6) ∧ (#[n64 3, n64 6] : Array Value)[q]? = some (n64 k) := by
        match q, hq2 with
        | 0, _ => exact ⟨3, .inl rfl, rfl⟩
        | 1, _ => exact ⟨6, .inr rfl, rfl⟩
      have x1 : IntKind.i64.wrap ((q : Int) + 1) = (q : Int) + 1 := by rw [IntKind.wrap_i64]; omega
      simp -implicitDefEqProofs [e178, hq2']
      rw [idxArr (cs := #[n64 3, n64 6]) (k := .i64) (i := q) (v := n64 k) a213 i1 i2 ag3 rfl rfl (by simp [e177]) (by simp [e178]) hq2 hkq]
      simp -implicitDefEqProofs [e0]
      refine valA_of (hL.pool (h.old) k hk) (fun z w1 hq => ?_)
      obtain ⟨ho, v, a, b, hz, he⟩ := hq
      simp only at ho hz
      subst hz
      have hl := fun w' => he.lenS (w' := w')
      simp -implicitDefEqProofs [hl]
      refine loop_exit ?_ (by show 0 < fuel; omega)
      simp -implicitDefEqProofs [e177, e178, x1]
      exact ⟨2 - (q + 1), by omega, q + 1, rfl, by omega, by omega, h.step ho (by simp) (by simp) (by simp)⟩
    · have hqe : q = 2 := by omega
      subst hqe
      simp -implicitDefEqProofs [e178]
      exact tail6 hL hf (h.step (Keeps.refl _ _) (by simp) (by simp) (by simp)) hn1
  · exact ⟨0, rfl, Nat.zero_le _, by simp, by simp, h.step (Keeps.refl _ _) (by simp) (by simp) (by simp)⟩
theorem tail4 (hL : Look K W0 x n) (hf : n < fuel) (hf2 : 2 < fuel) (h : FS W0 w ρ x n fb ib ob of) (hn1 : n ≤ 1024) : codeR (X60 K fuel (P60 W0 n)) t60_4 [] ρ [] w := by
  have e0 := h.r0
  simp -implicitDefEqProofs [t60_4, W.e, W.e0, W.mv, W.sq, W.og, W.fa, W.ld, e0]
  refine valA_of (hL.bigs (h.old)) (fun z w1 hq => ?_)
  obtain ⟨hw, he⟩ := hq
  simp only at hw he
  have hl := fun w' => he.lenS (w' := w')
  simp -implicitDefEqProofs [hl]
  refine loop_exit ?_ (by show 0 < fuel; omega)
  simp -implicitDefEqProofs
  exact tail5 hL hf hf2 (h.step hw (by simp) (by simp) (by simp)) hn1
theorem tail3 (hL : Look K W0 x n) (hA : ∀ {w : World} {fb ib ob : Nat} {is of : List Int}, Fnd w fb ib ob x n is of → Old W0 w → (K.enter 150 #[pt fb] w).all fun z => Old w z.2) (hf : n < fuel) (hf2 : 2 < fuel) (h : FS W0 w ρ x n fb ib ob of) (hn1 : n ≤ 1024) : codeR (X60 K fuel (P60 W0 n)) t60_3 [] ρ [] w := by
  have e4 := h.r4
  simp -implicitDefEqProofs [t60_3, W.e, W.mv, W.sq, W.og, e4]
  refine valA_of (hA h.fnd h.old) (fun z w1 hq => ?_)
  simp only at hq
  simp -implicitDefEqProofs
  exact tail4 hL hf hf2 (h.step hq (by simp) (by simp) (by simp)) hn1
theorem tail2 (hL : Look K W0 x n) (hA : ∀ {w : World} {fb ib ob : Nat} {is of : List Int}, Fnd w fb ib ob x n is of → Old W0 w → (K.enter 150 #[pt fb] w).all fun z => Old w z.2) (hf : n < fuel) (hf2 : 2 < fuel) (h : FS W0 w ρ x n fb ib ob of) (hn1 : n ≤ 1024) : codeR (X60 K fuel (P60 W0 n)) t60_2 [] ρ [] w := by
  have e0 := h.r0
  have e3 := h.r3
  have e4 := h.r4
  simp -implicitDefEqProofs [t60_2, W.e, W.mv, W.sq, W.og, W.gr, W.ex, e3]
  refine loop_go (fun m ρ w' => ∃ i : Nat, m = n - i ∧ i ≤ n ∧ ρ 124 = n64 n ∧ ρ 125 = n64 i ∧ FS W0 w' ρ x n fb ib ob of) ?_ (i := n) ?_ (by show n < fuel; omega)
  · rintro m ρ w' ⟨i, rfl, hi, e124, e125, h⟩
    have e0 := h.r0
    by_cases hin : i < n
    · have x1 : IntKind.i64.wrap ((i : Int) + 1) = (i : Int) + 1 := by rw [IntKind.wrap_i64]; omega
      simp -implicitDefEqProofs [e0, e124, e125, hin]
      refine valA_of (hL.owner (h.old) i) (fun z w1 hq => ?_)
      obtain ⟨ho, e, he0, hz⟩ := hq
      simp only at ho hz
      subst hz
      simp -implicitDefEqProofs [e124, e125, x1, he0]
      exact ⟨n - (i + 1), by omega, i + 1, rfl, by omega, by omega, h.step ho (by simp) (by simp) (by simp)⟩
    · have hie : i = n := by omega
      subst hie
      simp -implicitDefEqProofs [e124, e125]
      exact tail3 hL hA hf hf2 (h.step (Keeps.refl _ _) (by simp) (by simp) (by simp)) hn1
  · exact ⟨0, rfl, Nat.zero_le _, by simp, by simp, h.step (Keeps.refl _ _) (by simp) (by simp) (by simp)⟩
theorem tail1 (hL : Look K W0 x n) (hA : ∀ {w : World} {fb ib ob : Nat} {is of : List Int}, Fnd w fb ib ob x n is of → Old W0 w → (K.enter 150 #[pt fb] w).all fun z => Old w z.2) (hf : n < fuel) (hf2 : 2 < fuel) (h : FS W0 w ρ x n fb ib ob of) (hn1 : n ≤ 1024) : codeR (X60 K fuel (P60 W0 n)) t60_1 [] ρ [] w := by
  have e0 := h.r0
  simp -implicitDefEqProofs [t60_1, W.e, W.e0, W.mv, W.sq, W.og, W.fa, W.ld, W.ex, e0]
  have o1 := Old.push w (.map #[] 0)
  have h1 := h.step (ρ' := ρ) o1 rfl rfl rfl
  generalize World.push w (.map #[] 0) = w1 at *
  refine valA_of (hL.spaces (h1.old)) (fun z w2 hq => ?_)
  obtain ⟨hz, hw⟩ := hq
  simp only at hz hw
  subst hz hw
  simp -implicitDefEqProofs
  refine loop_exit ?_ (by show 0 < fuel; omega)
  simp -implicitDefEqProofs
  exact tail2 hL hA hf hf2 (h1.step (Keeps.refl _ _) (by simp) (by simp) (by simp)) hn1
end
end Go.Proofs.YteljibbnpheekaaGreat
namespace Go.Proofs.YteljibbnpheekaaGreat
open Go Go.Ideal
theorem make_zero {P : Program} {K : Kont} {ρ : Env} {w : World} {Q : Value × World → Prop} {t e : TypeId} {lx cx : Operand} {ty : TypeId} {i : TypeInfo} {z : Value} (hu : P.underlying t = some (.slice e)) (hi : P.info? e = some i) (hz : i.zero = some z) (hs : selfD 4 z = true)
    (hcl : constFit lx = true) (hcc : constFit cx = true) (hl : ev ρ lx = .int .i64 0) (hc' : ev ρ cx = .int .i64 0)
    (hq : Q (.slice (some ⟨w.heap.size, 0, none⟩) 0 0, World.push w (.cells #[] e))) :
    (sone P K (ev ρ) w (.raw (.makeSlice t lx cx) ty)).all Q := by
  have hc : ((Op.makeSlice t lx cx).operands.all constFit) = true := by simp [Op.operands, hcl, hcc]
  have hel : elemOk P t = true := by
    unfold elemOk zeroOk
    simp only [hu, hi, hz, hs]
  have hcap : capFit (.int .i64 0) = true := by decide
  have hti : ∀ w : World, (typeInfo e).run P w = .ok i w := fun w => by simp [typeInfo, program, Sem.run, hi, Result.andThen]
  have har : ∀ (m : Nat) (w : World), (askRoom m).run P w = .ok () w := fun m w => by
    unfold askRoom
    split <;> rfl
  have hrun : (execOp (ev ρ) { dst := none, op := .makeSlice t lx cx, type := ty, pos := "", after := #[], guard := none }).run P w =
      .ok (.value (.slice (some ⟨w.heap.size, 0, none⟩) 0 0)) (World.push w (.cells #[] e)) := by
    have hbig : ¬ ((i.bytes : Int) * 0 > 2 ^ 48) := by
      have : (2 : Int) ^ 48 = 281474976710656 := by decide
      omega
    simp only [execOp, Instr.makeSlice, Sem.run_bind, run_underlying' hu, Result.andThen, hl, hc', asInt, asIntOf, Sem.run_pure, hti, wz0]
    have hr0 : ∀ (f : Nat → Value), Array.map f (Array.range 0) = #[] := fun f => by simp
    simp only [Int.lt_irrefl, hbig, decide_false, gt_iff_lt, Int.toNat_zero, Nat.zero_mul, if_true, hr0]
    simp [Sem.run_bind, Result.andThen, World.push, newRow, run_sizeOf' hi, har]
  simp only [sone, pstep, istep, hc, if_true, hc', hel, hcap, Bool.and_self, hrun, ofRun, pval, T.bind]
  exact hq
theorem make_any {K : Kont} {ρ : Env} {w : World} {Q : Value × World → Prop} {lx cx : Operand} {n : Nat} {ty : TypeId} (hlt : n < 1000000)
    (hcl : constFit lx = true) (hcc : constFit cx = true) (hl : ev ρ lx = .int .i64 n) (hc' : ev ρ cx = .int .i64 n)
    (hq : Q (.slice (some ⟨w.heap.size, 0, none⟩) n n, World.push w (.cells (Array.replicate n (n64 0)) 3))) :
    (sone Tryz.prog K (ev ρ) w (.raw (.makeSlice 51 lx cx) ty)).all Q := by
  obtain ⟨i, hi, hz, hsz, hby⟩ := i3
  by_cases h0 : n = 0
  · subst h0
    exact make_zero u51 hi hz rfl hcl hcc hl hc' hq
  · exact make_go2 u51 hi hz rfl hsz rfl (by omega) hlt hby hcl hcc hl hc' hq
theorem set_zero (n f : Nat) : (List.replicate n (0 : Int)).set f 0 = List.replicate n 0 := by
  apply List.ext_getElem (by simp)
  intro i h1 h2
  simp
structure Cov (of : List Int) (n : Nat) (c : Nat → Int) : Prop where
  len : of.length = n
  at_ : ∀ f, (h : f < n) → of[f]'(by rw [len]; exact h) = c f
theorem Cov.set {of : List Int} {n : Nat} {c d : Nat → Int} (h : Cov of n c) {g : Nat} (hg : g < n) (hd : ∀ f, f < n → d f = if f = g then c f + 1 else c f) : Cov (of.set g (of[g]'(by rw [h.len]; exact hg) + 1)) n d :=
  ⟨by simp [h.len], fun f hf => by
    rw [List.getElem_set]
    by_cases e : g = f
    · subst e; rw [if_pos rfl, hd g hf, if_pos rfl, h.at_ g hf]
    · rw [if_neg e, hd f hf, if_neg (fun h => e h.symm), h.at_ f hf]⟩
theorem Cov.bound {of : List Int} {n : Nat} {c : Nat → Int} (h : Cov of n c) (hc : ∀ f, 0 ≤ c f ∧ c f < 1000000) : ∀ y, y ∈ of → 0 ≤ y ∧ y < 1000000 := fun y hy => by
  obtain ⟨i, hi, rfl⟩ := List.getElem_of_mem hy
  rw [h.at_ i (by rw [← h.len]; exact hi)]
  exact hc i
def covI (p : Blk) (i f : Nat) : Int := if p.2 ≤ f ∧ f < p.2 + i then 1 else 0
theorem covI_full (p : Blk) (f : Nat) : covI p (2 ^ p.1) f = covB p f := rfl
theorem covI_01 (p : Blk) (i f : Nat) : 0 ≤ covI p i f ∧ covI p i f ≤ 1 := by unfold covI; split <;> omega
theorem rowEB_at {w : World} {z : Value} {ys : List Blk} (h : RowE EBk w z ys) {q : Nat} (hq : q < ys.length) : ∃ b o cap c, z = .slice (some ⟨b, o, none⟩) ys.length cap ∧ cellsOf? w b = some (c, 183, (0, 0)) ∧ o + q * 2 + 2 ≤ c.size ∧ c.extract (o + q * 2) (o + q * 2 + 2) = #[n64 (ys[q].2 : Int), n64 (ys[q].1 : Int)] := by
  obtain ⟨rb, ro, rcap, rc, hve, hrc, hrsz, hext, _⟩ := h.at hq
  exact ⟨rb, ro, rcap, rc, hve, hrc, hrsz, hext⟩
theorem run60 {K : Kont} {fuel : Nat} {w : World} {x : Value} {n : Nat} (hL : Look K w x n) (hF : Fn147 K) (hA : ∀ {w1 : World} {fb ib ob : Nat} {is of : List Int}, Fnd w1 fb ib ob x n is of → Old w w1 → (K.enter 150 #[pt fb] w1).all fun z => Old w1 z.2) (hf : 2000 < fuel) (hn : n ≤ 1024) (_hx1 : one1 x = true) (hx2 : x.cells = #[x]) :
    wpGFn Tryz.prog K fuel 60 h60 #[x] w (P60 w n) := by
  rw [gfn_start]
  simp -implicitDefEqProofs [h60, W.e, W.e0, W.mv, W.sq, W.og, W.fa, W.ld]
  refine valA_of (hL.frames (Keeps.refl _ _)) (fun z w1 hq => ?_)
  obtain ⟨hz, hw⟩ := hq
  simp only at hz hw
  subst hz hw
  simp -implicitDefEqProofs
  refine valA_of (R := fun z => z.1 = .slice (some ⟨w1.heap.size, 0, none⟩) n n ∧ z.2 = World.push w1 (.cells (Array.replicate n (n64 0)) 3)) (make_any (n := n) (by omega) rfl rfl (by simp) (by simp) ⟨rfl, rfl⟩) (fun z w2 hq => ?_)
  obtain ⟨hz, hw⟩ := hq
  simp only at hz hw
  subst hz hw
  have r2 := zeros (w := w1) (n := n) (by omega)
  have o2 := Old.push w1 (.cells (Array.replicate n (n64 0)) 3)
  have s2 : (World.push w1 (.cells (Array.replicate n (n64 0)) 3)).heap.size = w1.heap.size + 1 := by simp
  generalize World.push w1 (.cells (Array.replicate n (n64 0)) 3) = w2 at *
  simp -implicitDefEqProofs
  refine valA_of (R := fun z => z.1 = .slice (some ⟨w2.heap.size, 0, none⟩) n n ∧ z.2 = World.push w2 (.cells (Array.replicate n (n64 0)) 3)) (make_any (n := n) (by omega) rfl rfl (by simp) (by simp) ⟨rfl, rfl⟩) (fun z w3 hq => ?_)
  obtain ⟨hz, hw⟩ := hq
  simp only at hz hw
  subst hz hw
  have r3 := zeros (w := w2) (n := n) (by omega)
  have o3 := Old.push w2 (.cells (Array.replicate n (n64 0)) 3)
  have s3 : (World.push w2 (.cells (Array.replicate n (n64 0)) 3)).heap.size = w2.heap.size + 1 := by simp
  have r23 := r2.keep o3 (fun _ _ h => h)
  generalize World.push w2 (.cells (Array.replicate n (n64 0)) 3) = w3 at *
  have hfill : ∀ W : World, fillS #[(0, 1), (1, 1), (2, 1)] #[.pointer none, nilS, nilS] [(0, x), (1, .slice (some ⟨w1.heap.size, 0, none⟩) n n), (2, .slice (some ⟨w2.heap.size, 0, none⟩) n n)] W = .ret (.agg #[x, .slice (some ⟨w1.heap.size, 0, none⟩) n n, .slice (some ⟨w2.heap.size, 0, none⟩) n n], W) := fun W => by
    simp [fillS, Instr.fill, hx2]
  simp -implicitDefEqProofs [hfill]
  have o4 := Old.push w3 (.cells #[x, .slice (some ⟨w1.heap.size, 0, none⟩) n n, .slice (some ⟨w2.heap.size, 0, none⟩) n n] 207)
  have hf4 : Fnd (World.push w3 (.cells #[x, .slice (some ⟨w1.heap.size, 0, none⟩) n n, .slice (some ⟨w2.heap.size, 0, none⟩) n n] 207)) w3.heap.size w1.heap.size w2.heap.size x n (List.replicate n 0) (List.replicate n 0) :=
    ⟨by simp, r23.keep o4 (fun _ _ h => h), r3.keep o4 (fun _ _ h => h), by simp, by simp, by omega⟩
  have s4 : (World.push w3 (.cells #[x, .slice (some ⟨w1.heap.size, 0, none⟩) n n, .slice (some ⟨w2.heap.size, 0, none⟩) n n] 207)).heap.size = w3.heap.size + 1 := by simp
  generalize World.push w3 (.cells #[x, .slice (some ⟨w1.heap.size, 0, none⟩) n n, .slice (some ⟨w2.heap.size, 0, none⟩) n n] 207) = w4 at *
  have oo4 := (o2.trans o3).trans o4
  refine valA_of (hL.blocks oo4) (fun z w5 hq => ?_)
  obtain ⟨o5, ys, l, hr5, hperm, hch, hfew, hzb⟩ := hq
  simp only at o5 hr5 hzb
  have s5 := o5.1
  have hf5 := hf4.keep o5 (fun h => h) (fun h => h) (fun h => h)
  have hlen := fun w' => hr5.lenS (w' := w')
  have hys12 : ys.length ≤ 12 := by rw [hperm.length_eq]; exact hfew
  have hin : ∀ p ∈ ys, p.1 ≤ 8 ∧ p.2 + 2 ^ p.1 ≤ n := fun p hp => by
    obtain ⟨h1, _, h3⟩ := hch.lt p (hperm.mem_iff.1 hp)
    exact ⟨h1, h3⟩
  simp -implicitDefEqProofs [hlen]
  refine loop_go (fun m ρ w' => ∃ (q : Nat) (of : List Int), m = ys.length - q ∧ q ≤ ys.length ∧ ρ 0 = x ∧ ρ 3 = n64 n ∧ ρ 4 = pt w3.heap.size ∧ ρ 47 = z ∧ ρ 48 = n64 ys.length ∧ ρ 49 = n64 q ∧ Keeps w5 w' (fun j => j = w1.heap.size ∨ j = w2.heap.size) ∧ Fnd w' w3.heap.size w1.heap.size w2.heap.size x n (List.replicate n 0) of ∧ Cov of n (cov (ys.take q))) ?_ (i := ys.length) ?_ (by show ys.length < fuel; omega)
  · rintro m ρ w6 ⟨q, of, rfl, hq, e0, e3, e4, e47, e48, e49, hk, hfn, hcov⟩
    by_cases h : q < ys.length
    · have hr6 := hr5.keep hk (fun y hy hh => by have := hzb y hy; omega)
      obtain ⟨rb, ro, rcap, rc, hve, hrc, hrsz, hext⟩ := rowEB_at hr6 h
      obtain ⟨hp8, hpn⟩ := hin _ (List.getElem_mem h)
      obtain ⟨p, hp⟩ : ∃ p, p = ys[q] := ⟨_, rfl⟩
      rw [← hp] at hext hp8 hpn
      have hrl := cells_lt hrc
      have hpow : (2 : Int) ^ p.1 = ((2 ^ p.1 : Nat) : Int) := by simp
      have hp1 : 1 ≤ 2 ^ p.1 := Nat.two_pow_pos _
      have hp256 : 2 ^ p.1 ≤ 256 := Nat.pow_le_pow_right (n := 2) (by decide) hp8
      have hmin : min p.1 64 = p.1 := by omega
      have c1 : IntKind.i64.wrap ((2 : Int) ^ p.1) = (2 : Int) ^ p.1 := by rw [hpow, IntKind.wrap_i64]; omega
      have x1 : IntKind.i64.wrap ((q : Int) + 1) = (q : Int) + 1 := by rw [IntKind.wrap_i64]; omega
      have hnl : ¬ rb = w6.heap.size := by omega
      simp -implicitDefEqProofs [e47, e48, e49, h, hve, hrc, hrsz, hext, hmin, c1]
      have o7 : Old w6 (World.set (World.push w6 (.cells #[n64 0, n64 0] 183)) w6.heap.size (.cells #[n64 (p.2 : Int), n64 (p.1 : Int)] 183)) := (Old.push w6 _).set (Nat.le_refl _) _
      have hc7 : cellsOf? (World.set (World.push w6 (.cells #[n64 0, n64 0] 183)) w6.heap.size (.cells #[n64 (p.2 : Int), n64 (p.1 : Int)] 183)) w6.heap.size = some (#[n64 (p.2 : Int), n64 (p.1 : Int)], 183, (0, 0)) := by rw [cells_set, if_pos ⟨rfl, by simp⟩]
      generalize World.set (World.push w6 (.cells #[n64 0, n64 0] 183)) w6.heap.size (.cells #[n64 (p.2 : Int), n64 (p.1 : Int)] 183) = w7 at *
      have hz7 := o7.1
      have hz6 := hk.1
      have hfn7 := hfn.keep o7 (fun h => h) (fun h => h) (fun h => h)
      refine loop_go (fun m ρ w' => ∃ (i : Nat) (of : List Int), m = 2 ^ p.1 - i ∧ i ≤ 2 ^ p.1 ∧ ρ 0 = x ∧ ρ 3 = n64 n ∧ ρ 4 = pt w3.heap.size ∧ ρ 6 = pt w6.heap.size ∧ ρ 47 = z ∧ ρ 48 = n64 ys.length ∧ ρ 49 = n64 q ∧ ρ 55 = .int .i64 ((2 : Int) ^ p.1) ∧ ρ 56 = n64 i ∧ Keeps w7 w' (fun j => j = w1.heap.size ∨ j = w2.heap.size) ∧ Fnd w' w3.heap.size w1.heap.size w2.heap.size x n (List.replicate n 0) of ∧ Cov of n (fun f => cov (ys.take q) f + covI p i f)) ?_ (i := 2 ^ p.1) ?_ (by show 2 ^ p.1 < fuel; omega)
      · rintro m ρ w8 ⟨i, of, rfl, hi, e0, e3, e4, e6, e47, e48, e49, e55, e56, hk8, hfn8, hcov8⟩
        have hc8 := hk8.cells hc7 (by omega)
        by_cases hi2 : i < 2 ^ p.1
        · have hi3 : (i : Int) < (2 : Int) ^ p.1 := by rw [hpow]; omega
          have x2 : IntKind.i64.wrap ((p.2 : Int) + i) = ((p.2 + i : Nat) : Int) := by rw [IntKind.wrap_i64]; omega
          have x3 : IntKind.i64.wrap ((i : Int) + 1) = (i : Int) + 1 := by rw [IntKind.wrap_i64]; omega
          simp -implicitDefEqProofs [e4, e6, e55, e56, hi3, hc8, x2]
          have hpi : p.2 + i < n := by omega
          refine valA_of (hF.found hfn8 hpi 0 (hcov8.bound (fun f => by
            have := cov_le (ys.take q) f
            have := covI_01 p i f
            have : (ys.take q).length ≤ 12 := by rw [List.length_take]; omega
            omega))) (fun v w9 hq9 => ?_)
          obtain ⟨hfn9, hk9⟩ := hq9
          simp only at hfn9 hk9
          rw [set_zero] at hfn9
          simp -implicitDefEqProofs [e0, e3, e4, e6, e47, e48, e49, e55, e56, x3]
          have hcov9 := hcov8.set (d := fun f => cov (ys.take q) f + covI p (i + 1) f) hpi (fun f _ => by
            show cov (ys.take q) f + covI p (i + 1) f = _
            unfold covI
            by_cases hh : f = p.2 + i
            · rw [if_pos hh, if_pos (by omega), if_neg (by omega)]; omega
            · rw [if_neg hh]
              by_cases h2 : p.2 ≤ f ∧ f < p.2 + i
              · rw [if_pos h2, if_pos (by omega)]
              · rw [if_neg h2, if_neg (by omega)])
          exact ⟨2 ^ p.1 - (i + 1), by omega, i + 1, rfl, by omega, by omega, hk8.trans hk9 (fun _ _ h => h) (fun _ _ h => h), _, hfn9, hcov9⟩
        · have hie : i = 2 ^ p.1 := by omega
          subst hie
          have hi3 : ¬ ((2 ^ p.1 : Nat) : Int) < (2 : Int) ^ p.1 := by rw [hpow]; omega
          simp -implicitDefEqProofs [e0, e3, e4, e47, e48, e49, e55, e56, x1]
          exact ⟨ys.length - (q + 1), by omega, q + 1, rfl, by omega, hve, by omega, hk.trans (Keeps.trans o7 hk8 (fun _ _ h => h.elim) (fun _ _ h => h)) (fun _ _ h => h) (fun _ _ h => h), of, hfn8, hcov8.len, fun f hf => by
            rw [hcov8.at_ f hf, List.take_succ_eq_append_getElem h, cov_snoc, covI_full, hp]⟩
      · refine ⟨0, of, rfl, Nat.zero_le _, by simp [e0], by simp [e3], by simp [e4], by simp, by simp [e47], by simp [e48], by simp [e49], by simp, by simp, Keeps.refl _ _, hfn7, ?_⟩
        have : (fun f => cov (ys.take q) f + covI p 0 f) = cov (ys.take q) := by
          funext f; unfold covI; rw [if_neg (by omega)]; omega
        rw [this]; exact hcov
    · have hqe : q = ys.length := by omega
      subst hqe
      rw [List.take_length] at hcov
      simp -implicitDefEqProofs [e48, e49]
      have hz6 := hk.1
      refine tail1 hL hA (by omega) (by omega) ⟨by simp [e0], by simp [e3], by simp [e4], Keeps.trans (oo4.trans o5) hk (fun _ _ h => h) (fun j hj h => by omega), hfn, fun f hf => ?_, by omega, by omega, by omega⟩ hn
      rw [hcov.at_ f hf, cov_perm hperm, cov_chain hch, if_pos (by omega)]
  · exact ⟨0, List.replicate n 0, rfl, Nat.zero_le _, by simp, by simp, by simp, by simp, by simp, by simp, Keeps.refl _ _, hf5, by simp, fun f hf => by simp [cov]⟩
end Go.Proofs.YteljibbnpheekaaGreat
