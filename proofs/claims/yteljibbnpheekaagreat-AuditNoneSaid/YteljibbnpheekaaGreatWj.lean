import Derived.Test.YteljibbnpheekaaGreatWf
import Derived.Test.YteljibbnpheekaaGreatWg
namespace Go.Proofs.YteljibbnpheekaaGreat
open Go Go.Ideal
theorem loop_exit {X : Cx} {c : GC} {k : List FI} {ρ : Env} {ds : List Deferred} {w : World} (h : codeR ⟨X.P, X.K, X.fuel, X.fn, X.ro, X.n, fun e ρ' ds' w' => match e with
      | .normal => False
      | e => kont X k e ρ' ds' w'⟩ c [] ρ ds w) (hf : 0 < X.fuel) : loopA X c k ρ ds w := by
  refine loop_go (fun i ρ' w' => i = 0 ∧ ρ' = ρ ∧ w' = w) ?_ (i := 0) ⟨rfl, rfl, rfl⟩ hf
  rintro i ρ' w' ⟨rfl, rfl, rfl⟩
  rw [← code_start] at h ⊢
  refine wpGC_mono c ?_ h
  intro e ρ2 ds2 w2 he
  cases e with
  | normal => exact he.elim
  | _ => exact he
theorem nl {t : TypeId} (hu : Tryz.prog.underlying t = some (.pointer (Tryz.prog.pointee t))) (he : eqTy Tryz.prog 5 t = true) : ∀ {o1 o2 : Operand} {p : Option Addr} {w : World}, binS Tryz.prog .eql t o1 o2 (.pointer p) (.pointer none) w = .ret (.bool p.isNone, w) := nilEq hu he
theorem n40 : ∀ {o1 o2 : Operand} {p : Option Addr} {w : World}, binS Tryz.prog .eql 40 o1 o2 (.pointer p) (.pointer none) w = .ret (.bool p.isNone, w) := nl (by kernel_rfl) (by kernel_rfl)
theorem n131 : ∀ {o1 o2 : Operand} {p : Option Addr} {w : World}, binS Tryz.prog .eql 131 o1 o2 (.pointer p) (.pointer none) w = .ret (.bool p.isNone, w) := nl (by kernel_rfl) (by kernel_rfl)
theorem n133 : ∀ {o1 o2 : Operand} {p : Option Addr} {w : World}, binS Tryz.prog .eql 133 o1 o2 (.pointer p) (.pointer none) w = .ret (.bool p.isNone, w) := nl (by kernel_rfl) (by kernel_rfl)
theorem n134 : ∀ {o1 o2 : Operand} {p : Option Addr} {w : World}, binS Tryz.prog .eql 134 o1 o2 (.pointer p) (.pointer none) w = .ret (.bool p.isNone, w) := nl (by kernel_rfl) (by kernel_rfl)
theorem n135 : ∀ {o1 o2 : Operand} {p : Option Addr} {w : World}, binS Tryz.prog .eql 135 o1 o2 (.pointer p) (.pointer none) w = .ret (.bool p.isNone, w) := nl (by kernel_rfl) (by kernel_rfl)
theorem n136 : ∀ {o1 o2 : Operand} {p : Option Addr} {w : World}, binS Tryz.prog .eql 136 o1 o2 (.pointer p) (.pointer none) w = .ret (.bool p.isNone, w) := nl (by kernel_rfl) (by kernel_rfl)
theorem n138 : ∀ {o1 o2 : Operand} {p : Option Addr} {w : World}, binS Tryz.prog .eql 138 o1 o2 (.pointer p) (.pointer none) w = .ret (.bool p.isNone, w) := nl (by kernel_rfl) (by kernel_rfl)
theorem n148 : ∀ {o1 o2 : Operand} {p : Option Addr} {w : World}, binS Tryz.prog .eql 148 o1 o2 (.pointer p) (.pointer none) w = .ret (.bool p.isNone, w) := nl (by kernel_rfl) (by kernel_rfl)
theorem n222 : ∀ {o1 o2 : Operand} {p : Option Addr} {w : World}, binS Tryz.prog .eql 222 o1 o2 (.pointer p) (.pointer none) w = .ret (.bool p.isNone, w) := nl (by kernel_rfl) (by kernel_rfl)
theorem n223 : ∀ {o1 o2 : Operand} {p : Option Addr} {w : World}, binS Tryz.prog .eql 223 o1 o2 (.pointer p) (.pointer none) w = .ret (.bool p.isNone, w) := nl (by kernel_rfl) (by kernel_rfl)
theorem n258 : ∀ {o1 o2 : Operand} {p : Option Addr} {w : World}, binS Tryz.prog .eql 258 o1 o2 (.pointer p) (.pointer none) w = .ret (.bool p.isNone, w) := nl (by kernel_rfl) (by kernel_rfl)
theorem n411 : ∀ {o1 o2 : Operand} {p : Option Addr} {w : World}, binS Tryz.prog .eql 411 o1 o2 (.pointer p) (.pointer none) w = .ret (.bool p.isNone, w) := nl (by kernel_rfl) (by kernel_rfl)
def Emp (v : Value) : Prop := ∃ vb vc, v = .slice vb 0 vc
theorem Emp.lenS {v : Value} {w' : World} (h : Emp v) : Ideal.lenS v w' = .ret (.int .i64 0, w') := by
  obtain ⟨vb, vc, rfl⟩ := h; rfl
def EN (te es : Nat) (h : 0 < es) : En Empty := ⟨es, te, fun e => e.elim, fun e => e.elim, fun e => e.elim, h⟩
theorem row0 (te k : Nat) (w : World) : rowS te k 0 #[] [] w = .ret (.slice (some ⟨w.heap.size, 0, none⟩) 0 0, World.push w (.cells #[] te)) := rfl
theorem app0 {X : Cx} {d : Option Nat} {re : List SR} {m : List SG} {l : List GI} {k : List FI} {ρ : Env} {ds : List Deferred} {te es by_ : Nat} {w : World} (hes : 0 < es) (hby : by_ ≤ 1000000) {s : Value} (hs : RowE (EN te es hes) w s []) (hk : againA X re m l k (ρ.put d s) ds w) :
    valA X d re m l k (appendS te es by_ s nilS w) ρ ds :=
  valA_of (R := fun x => x.1 = s ∧ x.2 = w) (appE (E := EN te es hes) (by_ := by_) hs (RowE.nil w).src (by simp) hby (fun v w' _ _ h _ => h rfl)) (fun v w' hq => by
    obtain ⟨h1, h2⟩ := hq
    simp only at h1 h2
    subst h1 h2; exact hk)
theorem empRow (te es : Nat) (h : 0 < es) (w : World) : RowE (EN te es h) (World.push w (.cells #[] te)) (.slice (some ⟨w.heap.size, 0, none⟩) 0 0) [] := RowE.empty (c := #[]) (by simp [EN])
section
variable {K : Kont} {fuel : Nat} {w : World} {B x : Nat} {u : Sup}
theorem run26 (h : Fresh w B x u) : wpGFn Tryz.prog K fuel 26 h26 #[pt x] w fun z w' => z = n64 u.frames ∧ w' = w := by
  obtain ⟨m, t, b, g, r, o, v, c, k, wv, pools, bigs, hx, -⟩ := h.cell
  rw [gfn_start]
  simp -implicitDefEqProofs [h26, W.e, W.mv, W.sq, W.og, W.fa, W.ld, W.nn, hx, n40]
theorem run26n : wpGFn Tryz.prog K fuel 26 h26 #[.pointer none] w fun z w' => z = n64 0 ∧ w' = w := by
  rw [gfn_start]
  simp -implicitDefEqProofs [h26, W.e, W.mv, W.sq, W.og, W.fa, W.ld, W.nn, n40]
theorem run27 (h : Fresh w B x u) : wpGFn Tryz.prog K fuel 27 h27 #[pt x] w fun z w' => z = n64 0 ∧ w' = w := by
  obtain ⟨m, t, b, g, r, o, v, c, k, wv, pools, bigs, hx, -⟩ := h.cell
  rw [gfn_start]
  have hl : ∀ w', lenS nilS w' = .ret (.int .i64 0, w') := fun _ => rfl
  simp -implicitDefEqProofs [h27, W.e, W.mv, W.sq, W.og, W.fa, W.ld, W.nn, hx, n40, hl]
theorem run117 {b k : Nat} {lines : Int} {cv : Value} {ps : List Nat} {sm : Nat} (h : CpuN w B b k lines cv ps sm) : wpGFn Tryz.prog K fuel 117 h117 #[pt b] w fun z w' => z = n64 k ∧ w' = w := by
  rw [gfn_start]
  have hc := h.cell
  have hl := fun w' => h.row.lenS (w' := w')
  have hk := h.len
  simp -implicitDefEqProofs [h117, W.e, W.mv, W.sq, W.og, W.fa, W.ld, W.nn, hc, n131, hl, hk]
theorem run243 {b k : Nat} {lines : Int} {cv : Value} {ps : List Nat} {sm : Nat} (h : CpuN w B b k lines cv ps sm) {i : Nat} (hi : i < k) : wpGFn Tryz.prog K fuel 243 h243 #[pt b, n64 i] w fun z w' => w' = w ∧ ∃ p ∈ ps, z = .tuple #[pt p, n64 0] := by
  rw [gfn_start]
  have hc := h.cell
  have hl := fun w' => h.row.lenS (w' := w')
  have hk := h.len
  have hip : i < ps.length := by omega
  obtain ⟨rb, ro, rcap, rc, hve, hrc, hrsz, _, hext⟩ := h.row.at hip
  have h5 := hext 0 Nat.one_pos
  simp only [Nat.mul_one, Nat.add_zero] at h5 hrsz
  have hget := getOf h5
  have hki : ¬ k ≤ i := by omega
  subst hve
  simp -implicitDefEqProofs [h243, W.e, W.mv, W.sq, W.og, W.gr, W.fa, W.ld, W.nn, hc, n131, hk, hi, hki, hrc, h5]
theorem run249 {t : Nat} {lines : Int} (h : cellsOf? w t = some (#[n64 lines, nilS], 419, (0, 0))) : wpGFn Tryz.prog K fuel 249 h249 #[pt t] w fun z w' => Old w w' ∧ Emp z := by
  rw [gfn_start]
  simp -implicitDefEqProofs [h249, W.e, W.mv, W.sq, W.og, W.fa, W.ld, W.nn, h, n258, row0]
  have hlt := cells_lt h
  have hne : ¬ t = w.heap.size := by omega
  have o1 := Old.push w (.cells #[] 307)
  simp -implicitDefEqProofs [hne]
  refine app0 (es := 5) (by decide) (by decide) (empRow 307 5 (by decide) w) ?_
  simp -implicitDefEqProofs
  exact ⟨o1, _, _, rfl⟩
theorem run128 {b : Nat} (h : cellsOf? w b = some (#[n64 8, nilS], 282, (0, 0))) : wpGFn Tryz.prog K fuel 128 h128 #[pt b] w fun z w' => Old w w' ∧ Emp z := by
  rw [gfn_start]
  have hlt := cells_lt h
  have hne : ¬ b = w.heap.size := by omega
  simp -implicitDefEqProofs [h128, W.e, W.mv, W.sq, W.og, W.fa, W.ld, W.nn, h, n138, row0, hne]
  refine app0 (es := 4) (by decide) (by decide) (empRow 287 4 (by decide) w) ?_
  simp -implicitDefEqProofs
  exact ⟨Old.push _ _, _, _, rfl⟩
theorem run127 (hf : 0 < fuel) {b : Nat} (h : cellsOf? w b = some (#[nilS, nilS], 270, (0, 0))) : wpGFn Tryz.prog K fuel 127 h127 #[pt b] w fun z w' => w' = w ∧ Emp z := by
  rw [gfn_start]
  have hl : ∀ w', lenS nilS w' = .ret (.int .i64 0, w') := fun _ => rfl
  simp -implicitDefEqProofs [h127, W.e, W.e0, W.mv, W.sq, W.og, W.fa, W.ld, W.ex, W.nn, h, n136, hl]
  refine loop_exit ?_ hf
  simp -implicitDefEqProofs
  exact ⟨_, _, rfl⟩
theorem run260 {f n : Nat} {fv : Value} (h : cellsOf? w f = some (#[fv, n64 n, n64 0, n64 0, n64 0, n64 0, n64 0], 417, (0, 0))) (hr : RowE EI w fv (List.replicate n 0)) {i : Nat} (hi : i < n) : wpGFn Tryz.prog K fuel 260 h260 #[pt f, n64 i] w fun z w' => z = n64 0 ∧ w' = w := by
  rw [gfn_start]
  obtain ⟨rb, ro, rcap, rc, hve, hrc, hrsz, hext⟩ := hr.int (i := i) (by simpa using hi)
  simp only [List.length_replicate, List.getElem_replicate] at hve hext
  have hl : ∀ w', lenS fv w' = .ret (.int .i64 n, w') := fun w' => by rw [hve]; rfl
  have hge : ¬ n ≤ i := by omega
  subst hve
  simp -implicitDefEqProofs [h260, W.e, W.mv, W.sq, W.og, W.gr, W.fa, W.ld, W.nn, h, n223, hl, hi, hge, hrc, hext]
theorem run73 {o m1 m2 : Nat} (h : cellsOf? w o = some (#[n64 0, mpV m1, mpV m2], 236, (0, 0))) (hm : MapAt w m2 []) (i : Int) : wpGFn Tryz.prog K fuel 73 h73 #[pt o, n64 i] w fun z w' => Old w w' ∧ z = .tuple #[n64 0, n64 0, n64 6] := by
  rw [gfn_start]
  simp -implicitDefEqProofs [h73, W.e, W.e0, W.mv, W.sq, W.og, W.fa, W.ld, W.ex, W.nn, h, n134, lookup_map hm.is, getM]
  exact (Old.push w _).set (Nat.le_refl _) _
theorem run124 {r m1 : Nat} (h : cellsOf? w r = some (#[mpV m1], 266, (0, 0))) (hm : MapAt w m1 []) (i : Int) : wpGFn Tryz.prog K fuel 124 h124 #[pt r, n64 i] w fun z w' => Old w w' ∧ Emp z := by
  rw [gfn_start]
  have hlt := cells_lt h
  have hne : ¬ r = w.heap.size := by omega
  simp -implicitDefEqProofs [h124, W.e, W.mv, W.sq, W.og, W.fa, W.ld, W.nn, h, n133, row0, hne, lookup_map (hm.keep (Old.push w (.cells #[] 170)) (fun h => h)).is, getM]
  refine app0 (es := 2) (by decide) (by decide) (empRow 170 2 (by decide) w) ?_
  simp -implicitDefEqProofs
  exact ⟨Old.push _ _, _, _, rfl⟩
end
structure Get0 (K : Kont) : Prop where
  g117 : ∀ {w : World} {B b k : Nat} {lines : Int} {cv : Value} {ps : List Nat} {sm : Nat}, CpuN w B b k lines cv ps sm → (K.enter 117 #[pt b] w).all fun x => x.1 = n64 k ∧ x.2 = w
  g243 : ∀ {w : World} {B b k : Nat} {lines : Int} {cv : Value} {ps : List Nat} {sm : Nat}, CpuN w B b k lines cv ps sm → ∀ {i : Nat}, i < k → (K.enter 243 #[pt b, n64 i] w).all fun x => x.2 = w ∧ ∃ p ∈ ps, x.1 = .tuple #[pt p, n64 0]
  g249 : ∀ {w : World} {t : Nat} {lines : Int}, cellsOf? w t = some (#[n64 lines, nilS], 419, (0, 0)) → (K.enter 249 #[pt t] w).all fun x => Old w x.2 ∧ Emp x.1
  g128 : ∀ {w : World} {b : Nat}, cellsOf? w b = some (#[n64 8, nilS], 282, (0, 0)) → (K.enter 128 #[pt b] w).all fun x => Old w x.2 ∧ Emp x.1
  g127 : ∀ {w : World} {b : Nat}, cellsOf? w b = some (#[nilS, nilS], 270, (0, 0)) → (K.enter 127 #[pt b] w).all fun x => x.2 = w ∧ Emp x.1
  g260 : ∀ {w : World} {f n : Nat} {fv : Value}, cellsOf? w f = some (#[fv, n64 n, n64 0, n64 0, n64 0, n64 0, n64 0], 417, (0, 0)) → RowE EI w fv (List.replicate n 0) → ∀ {i : Nat}, i < n → (K.enter 260 #[pt f, n64 i] w).all fun x => x.1 = n64 0 ∧ x.2 = w
  g73 : ∀ {w : World} {o m1 m2 : Nat}, cellsOf? w o = some (#[n64 0, mpV m1, mpV m2], 236, (0, 0)) → MapAt w m2 [] → ∀ i, (K.enter 73 #[pt o, n64 i] w).all fun x => Old w x.2 ∧ x.1 = .tuple #[n64 0, n64 0, n64 6]
  g124 : ∀ {w : World} {r m1 : Nat}, cellsOf? w r = some (#[mpV m1], 266, (0, 0)) → MapAt w m1 [] → ∀ i, (K.enter 124 #[pt r, n64 i] w).all fun x => Old w x.2 ∧ Emp x.1
section
variable {K : Kont} {fuel : Nat} {w : World} {B x : Nat} {u : Sup}
theorem run28 (hK : Get0 K) (h : Fresh w B x u) : wpGFn Tryz.prog K fuel 28 h28 #[pt x] w fun z w' => z = n64 u.cpus ∧ w' = w := by
  obtain ⟨m, t, b, g, r, o, v, c, k, wv, pools, bigs, hx, -, ⟨cv, ps, sm, hc⟩, -⟩ := h.cell
  rw [gfn_start]
  simp -implicitDefEqProofs [h28, W.e, W.mv, W.sq, W.og, W.fa, W.ld, W.nn, hx, n40]
  refine valA_of (hK.g117 hc) (fun z w1 hq => ?_)
  obtain ⟨hz, hw⟩ := hq
  simp only at hz hw
  subst hz hw
  have := h.ok.2.1.1
  simp -implicitDefEqProofs
  omega
theorem run123 (hK : Get0 K) {b k : Nat} {lines : Int} {cv : Value} {ps : List Nat} {sm : Nat} (h : CpuN w B b k lines cv ps sm) {i : Nat} (hi : i < k) : wpGFn Tryz.prog K fuel 123 h123 #[pt b, n64 i] w fun z w' => Old w w' ∧ Emp z := by
  rw [gfn_start]
  simp -implicitDefEqProofs [h123, W.e, W.mv, W.sq, W.og, W.fa, W.ld, W.ex, W.nn]
  refine valA_of (hK.g243 h hi) (fun z w1 hq => ?_)
  obtain ⟨hw, p, hp, hz⟩ := hq
  simp only at hz hw
  subst hz hw
  obtain ⟨_, t, s, hc, ht, _⟩ := h.each p hp
  simp -implicitDefEqProofs [hc]
  refine valA_of (hK.g249 ht) (fun z w2 hq => ?_)
  simp -implicitDefEqProofs
  exact hq
theorem run132 (hK : Get0 K) {m n : Nat} {mark : Int} {r k f b : Nat} {kv fv : Value} {lv : Nat → Value} {l : List Blk} (h : MemAt w B m n mark r k f b kv fv lv l) {i : Nat} (hi : i < n) : wpGFn Tryz.prog K fuel 132 h132 #[pt m, n64 i] w fun z w' => z = n64 0 ∧ w' = w := by
  rw [gfn_start]
  have hm := h.cell
  simp -implicitDefEqProofs [h132, W.e, W.mv, W.sq, W.og, W.fa, W.ld, W.nn, hm, nil129]
  refine valA_of (hK.g260 h.fr h.is hi) (fun z w1 hq => ?_)
  obtain ⟨hz, hw⟩ := hq
  simp only at hz hw
  subst hz hw
  simp -implicitDefEqProofs
end
structure Get1 (K : Kont) : Prop extends Get0 K where
  g123 : ∀ {w : World} {B b k : Nat} {lines : Int} {cv : Value} {ps : List Nat} {sm : Nat}, CpuN w B b k lines cv ps sm → ∀ {i : Nat}, i < k → (K.enter 123 #[pt b, n64 i] w).all fun x => Old w x.2 ∧ Emp x.1
  g132 : ∀ {w : World} {B m n : Nat} {mark : Int} {r k f b : Nat} {kv fv : Value} {lv : Nat → Value} {l : List Blk}, MemAt w B m n mark r k f b kv fv lv l → ∀ {i : Nat}, i < n → (K.enter 132 #[pt m, n64 i] w).all fun x => x.1 = n64 0 ∧ x.2 = w
section
variable {K : Kont} {fuel : Nat} {w : World} {B x : Nat} {u : Sup}
theorem run34 (hK : Get1 K) (h : Fresh w B x u) {i : Nat} (hi : i < u.cpus.toNat) : wpGFn Tryz.prog K fuel 34 h34 #[pt x, n64 i] w fun z w' => Old w w' ∧ Emp z := by
  obtain ⟨m, t, b, g, r, o, v, c, k, wv, pools, bigs, hx, -, ⟨cv, ps, sm, hc⟩, -⟩ := h.cell
  rw [gfn_start]
  simp -implicitDefEqProofs [h34, W.e, W.mv, W.sq, W.og, W.fa, W.ld, W.nn, hx, n40]
  refine valA_of (hK.g123 hc hi) (fun z w1 hq => ?_)
  simp -implicitDefEqProofs
  exact hq
theorem run42 (hK : Get1 K) (h : Fresh w B x u) {i : Nat} (hi : i < u.frames.toNat) : wpGFn Tryz.prog K fuel 42 h42 #[pt x, n64 i] w fun z w' => z = n64 0 ∧ w' = w := by
  obtain ⟨m, t, b, g, r, o, v, c, k, wv, pools, bigs, hx, ⟨_, _, _, _, _, _, _, _, hm⟩, -⟩ := h.cell
  rw [gfn_start]
  simp -implicitDefEqProofs [h42, W.e, W.mv, W.sq, W.og, W.fa, W.ld, W.nn, hx, n40]
  refine valA_of (hK.g132 hm hi) (fun z w1 hq => ?_)
  obtain ⟨hz, hw⟩ := hq
  simp only at hz hw
  subst hz hw
  simp -implicitDefEqProofs
theorem run16 (hK : Get1 K) (h : Fresh w B x u) (i : Int) : wpGFn Tryz.prog K fuel 16 h16 #[pt x, n64 i] w fun z w' => Old w w' ∧ z = .tuple #[n64 0, n64 0, n64 6] := by
  obtain ⟨m, t, b, g, r, o, v, c, k, wv, pools, bigs, hx, -, -, -, ⟨m1, m2, ho, _, hm2, _⟩, -⟩ := h.cell
  rw [gfn_start]
  simp -implicitDefEqProofs [h16, W.e, W.mv, W.sq, W.og, W.fa, W.ld, W.ex, W.nn, hx, n40]
  refine valA_of (hK.g73 ho hm2 i) (fun z w1 hq => ?_)
  obtain ⟨hw, hz⟩ := hq
  simp only at hz hw
  subst hz
  simp -implicitDefEqProofs
  exact hw
theorem run35 (hK : Get1 K) (h : Fresh w B x u) (i : Int) : wpGFn Tryz.prog K fuel 35 h35 #[pt x, n64 i] w fun z w' => Old w w' ∧ Emp z := by
  obtain ⟨m, t, b, g, r, o, v, c, k, wv, pools, bigs, hx, -, -, ⟨m1, hr, hm1, _⟩, -⟩ := h.cell
  rw [gfn_start]
  simp -implicitDefEqProofs [h35, W.e, W.mv, W.sq, W.og, W.fa, W.ld, W.nn, hx, n40]
  refine valA_of (hK.g124 hr hm1 i) (fun z w1 hq => ?_)
  simp -implicitDefEqProofs
  exact hq
theorem run38 (hK : Get1 K) (h : Fresh w B x u) : wpGFn Tryz.prog K fuel 38 h38 #[pt x] w fun z w' => w' = w ∧ Emp z := by
  obtain ⟨m, t, b, g, r, o, v, c, k, wv, pools, bigs, hx, -, -, -, -, -, ⟨hc, _⟩, -⟩ := h.cell
  rw [gfn_start]
  simp -implicitDefEqProofs [h38, W.e, W.mv, W.sq, W.og, W.fa, W.ld, W.nn, hx, n40]
  refine valA_of (hK.g127 hc) (fun z w1 hq => ?_)
  simp -implicitDefEqProofs
  exact hq
theorem run39 (hK : Get1 K) (h : Fresh w B x u) : wpGFn Tryz.prog K fuel 39 h39 #[pt x] w fun z w' => Old w w' ∧ Emp z := by
  obtain ⟨m, t, b, g, r, o, v, c, k, wv, pools, bigs, hx, -, -, -, -, -, -, ⟨hc, _⟩, -⟩ := h.cell
  rw [gfn_start]
  simp -implicitDefEqProofs [h39, W.e, W.mv, W.sq, W.og, W.fa, W.ld, W.nn, hx, n40]
  refine valA_of (hK.g128 hc) (fun z w1 hq => ?_)
  simp -implicitDefEqProofs
  exact hq
theorem run40 (hf : 0 < fuel) (h : Fresh w B x u) : wpGFn Tryz.prog K fuel 40 h40 #[pt x] w fun z w' => w' = w ∧ Emp z := by
  obtain ⟨m, t, b, g, r, o, v, c, k, wv, pools, bigs, hx, -⟩ := h.cell
  rw [gfn_start]
  simp -implicitDefEqProofs [h40, W.e, W.e0, W.mv, W.sq, W.og, W.fa, W.ld, W.ex, W.nn, hx, n40]
  refine loop_exit ?_ hf
  simp -implicitDefEqProofs
  exact ⟨_, _, rfl⟩
end
end Go.Proofs.YteljibbnpheekaaGreat
namespace Go.Proofs.YteljibbnpheekaaGreat
open Go Go.Ideal
section
variable {P : Program} {K : Kont} {ρ : Env} {w : World}
theorem idxStr {t : TypeId} {x ix : Operand} {ty : TypeId} {s : ByteArray} {k : IntKind} {i : Nat} {b : UInt8} (hu : P.underlying t = some .string) (hcx : constFit x = true) (hci : constFit ix = true) (hx : ev ρ x = .string s) (hix : ev ρ ix = .int k (i : Int)) (hb : s.data.toList[i]? = some b) :
    sone P K (ev ρ) w (.raw (.index t x ix) ty) = .ret (.int .u8 b.toNat, w) := by
  have hops : ((Op.index t x ix).operands.all constFit) = true := by simp [Op.operands, hcx, hci]
  have hg : s[i]? = some b := by
    rw [← hb]
    rw [Array.getElem?_toList]
    by_cases h : i < s.data.size
    · rw [getElem?_pos s i h, getElem?_pos s.data i h]; rfl
    · rw [getElem?_neg s i h, getElem?_neg s.data i h]
  have hrun : (execOp (ev ρ) { dst := none, op := .index t x ix, type := ty, pos := "", after := #[], guard := none }).run P w = .ok (.value (.int .u8 b.toNat)) w := by
    simp only [execOp, Instr.index, hx, hix, asIntOf, Sem.run_bind, Sem.run_pure, Result.andThen, run_underlying' hu, Int.natCast_nonneg, if_true, Int.toNat_natCast, hg]
  simp only [sone, pstep, istep, hops, if_true, hrun, ofRun, pval, T.bind]
theorem idxArr {t e : TypeId} {len : Nat} {inf : TypeInfo} {x ix : Operand} {ty : TypeId} {cs : Array Value} {k : IntKind} {i : Nat} {v : Value} (hu : P.underlying t = some (.array len e)) (hi : P.info? e = some inf) (h1 : inf.size = 1) (ha : aggOf P e = some none) (hcx : constFit x = true) (hci : constFit ix = true) (hx : ev ρ x = .agg cs) (hix : ev ρ ix = .int k (i : Int)) (hlt : i < len) (hv : cs[i]? = some v) :
    sone P K (ev ρ) w (.raw (.index t x ix) ty) = .ret (v, w) := by
  have hops : ((Op.index t x ix).operands.all constFit) = true := by simp [Op.operands, hcx, hci]
  have hp : partS none (i * inf.size) (.agg cs) w = .ret (v, w) := by rw [h1, Nat.mul_one, part_one, hv]
  obtain ⟨cs', r, g1, g2, g3⟩ := ok_part (P := P) (w := w) (Q := fun r => r = (v, w)) ha (off := i * inf.size) (x := .agg cs) (by rw [hp]; rfl)
  cases g1
  simp only [Prod.mk.injEq, and_true] at g3
  subst g3
  have hrun : (execOp (ev ρ) { dst := none, op := .index t x ix, type := ty, pos := "", after := #[], guard := none }).run P w = .ok (.value r) w := by
    simp only [execOp, Instr.index, hx, hix, asIntOf, Sem.run_bind, Sem.run_pure, Result.andThen, run_underlying' hu]
    rw [if_pos ⟨Int.natCast_nonneg _, Int.ofNat_lt.2 hlt⟩]
    simp only [Sem.run_bind, run_sizeOf' hi, Result.andThen, Int.toNat_natCast, g2]
  simp only [sone, pstep, istep, hops, if_true, hrun, ofRun, pval, T.bind]
end
theorem body (f : Nat) (h : (Tryz.prog.funcs[f]?).any (fun fn => fn.body.isSome && fn.name != "runtime.NumGoroutine") = true) (K : Kont) (args cap : Array Value) (w : World) : callV Tryz.prog K (.func (.func f) #[] cap) args w = K.enter f (args ++ cap) w := by
  unfold callV
  simp only [h, and_self, Array.size_empty, if_true]
theorem body159 : (Tryz.prog.funcs[159]?).any (fun fn => fn.body.isSome && fn.name != "runtime.NumGoroutine") = true := by kernel_rfl
theorem body161 : (Tryz.prog.funcs[161]?).any (fun fn => fn.body.isSome && fn.name != "runtime.NumGoroutine") = true := by kernel_rfl
theorem body162 : (Tryz.prog.funcs[162]?).any (fun fn => fn.body.isSome && fn.name != "runtime.NumGoroutine") = true := by kernel_rfl
theorem body493 : (Tryz.prog.funcs[493]?).any (fun fn => fn.body.isSome && fn.name != "runtime.NumGoroutine") = true := by kernel_rfl
theorem s9 : Tryz.prog.underlying 9 = some .string := by kernel_rfl
abbrev SomeN (v : Value) : Prop := ∃ b, v = n64 b
theorem run401 {K : Kont} {fuel : Nat} {w : World} {n : Nat} (hn : n < 256) : wpGFn Tryz.prog K fuel 401 h401 #[.int .u64 n] w fun z w' => w' = w ∧ SomeN z := by
  rw [gfn_start]
  have g1 : ¬ (4294967296 : Int) ≤ n := by omega
  have g2 : ¬ (65536 : Int) ≤ n := by omega
  have g3 : ¬ (256 : Int) ≤ n := by omega
  have g4 : IntKind.u8.wrap (n : Int) = n := by rw [IntKind.wrap_u8]; omega
  simp -implicitDefEqProofs [h401, W.e, W.mv, W.sq, W.og, g1, g2, g3, g4]
  obtain ⟨b, hb⟩ : ∃ b, lenTab.data.toList[n]? = some b := by
    have hl : lenTab.data.toList.length = 256 := by kernel_rfl
    exact ⟨_, List.getElem?_eq_getElem (by omega)⟩
  rw [idxStr (s := lenTab) (i := n) (k := .u8) (b := b) s9 rfl rfl (by simp) (by simp) hb]
  simp -implicitDefEqProofs
  exact ⟨_, rfl⟩
theorem run264 {K : Kont} {fuel : Nat} (h4 : ∀ (w : World) {n : Nat}, n < 256 → (K.enter 401 #[.int .u64 n] w).all fun x => x.2 = w ∧ SomeN x.1) {w : World} {n : Nat} (hn : n < 256) : wpGFn Tryz.prog K fuel 264 h264 #[.int .u64 n] w fun z w' => w' = w ∧ SomeN z := by
  rw [gfn_start]
  simp -implicitDefEqProofs [h264, W.e, W.mv, W.sq, W.og]
  refine valA_of (h4 w hn) (fun z w1 hq => ?_)
  simp -implicitDefEqProofs
  exact hq
structure Bits (K : Kont) : Prop where
  len : ∀ (w : World) {n : Nat}, n < 256 → (K.enter 264 #[.int .u64 n] w).all fun x => x.2 = w ∧ SomeN x.1
theorem wz0 : IntKind.i64.wrap 0 = 0 := by decide
theorem wz1 : IntKind.i64.wrap 1 = 1 := by decide
theorem run391 {K : Kont} {fuel : Nat} (hf : 0 < fuel) {w : World} (v : Value) : wpGFn Tryz.prog K fuel 391 h391 #[v, n64 0, n64 0] w fun _ w' => w' = w := by
  rw [gfn_start]
  simp -implicitDefEqProofs [h391, W.e, W.e0, W.mv, W.sq, W.og, W.gr, W.ld, wz1]
  refine loop_exit ?_ hf
  simp -implicitDefEqProofs
theorem run484 {K : Kont} {fuel : Nat} (hf : 0 < fuel) {w : World} (v f : Value) : wpGFn Tryz.prog K fuel 484 h484 #[v, n64 0, n64 0, f] w fun _ w' => w' = w := by
  rw [gfn_start]
  simp -implicitDefEqProofs [h484, W.e, W.e0, W.mv, W.sq, W.og, W.gr, wz1]
  refine loop_exit ?_ hf
  simp -implicitDefEqProofs
theorem run263 {K : Kont} {fuel : Nat} (hf : 0 < fuel) (h : ∀ (w : World) (v : Value), (K.enter 391 #[v, n64 0, n64 0] w).all fun x => x.2 = w) {w : World} (v b : Value) : wpGFn Tryz.prog K fuel 263 h263 #[v, n64 0, n64 0, b] w fun _ w' => w' = w := by
  rw [gfn_start]
  simp -implicitDefEqProofs [h263, W.e, W.mv, W.sq, W.og, W.gr, W.ld, W.ex]
  refine loop_exit ?_ hf
  simp -implicitDefEqProofs [wz0]
  refine valA_of (h w v) (fun z w1 hq => ?_)
  simp only at hq
  subst hq
  simp -implicitDefEqProofs
theorem run386 {K : Kont} {fuel : Nat} (hf : 0 < fuel) (h : ∀ (w : World) (v f : Value), (K.enter 484 #[v, n64 0, n64 0, f] w).all fun x => x.2 = w) {w : World} (v b f : Value) : wpGFn Tryz.prog K fuel 386 h386 #[v, n64 0, n64 0, b, f] w fun _ w' => w' = w := by
  rw [gfn_start]
  simp -implicitDefEqProofs [h386, W.e, W.mv, W.sq, W.og, W.gr, W.ex]
  refine loop_exit ?_ hf
  simp -implicitDefEqProofs [wz0]
  refine valA_of (h w v f) (fun z w1 hq => ?_)
  simp only at hq
  subst hq
  simp -implicitDefEqProofs
structure Sort0 (K : Kont) : Prop extends Bits K where
  pi : ∀ (w : World) (v b : Value), (K.enter 263 #[v, n64 0, n64 0, b] w).all fun x => x.2 = w
  pr : ∀ (w : World) (v b f : Value), (K.enter 386 #[v, n64 0, n64 0, b, f] w).all fun x => x.2 = w
theorem run137 {K : Kont} {fuel : Nat} (hS : Sort0 K) {w : World} {v : Value} (hv : Emp v) : wpGFn Tryz.prog K fuel 137 h137 #[v] w fun _ w' => w' = w := by
  rw [gfn_start]
  have hl := fun w' => hv.lenS (w' := w')
  have hw : IntKind.u64.wrap 0 = 0 := by decide
  simp -implicitDefEqProofs [h137, W.e, W.mv, W.sq, W.og, hl, hw]
  refine valA_of (hS.len w (n := 0) (by decide)) (fun z w1 hq => ?_)
  obtain ⟨hw1, b, hb⟩ := hq
  simp only at hw1 hb
  subst hw1 hb
  simp -implicitDefEqProofs
  refine valA_of (hS.pi w1 v _) (fun z w2 hq => ?_)
  simp only at hq
  subst hq
  simp -implicitDefEqProofs
theorem run250 {K : Kont} {fuel : Nat} (hS : Sort0 K) {w : World} {v f : Value} (hv : Emp v) : wpGFn Tryz.prog K fuel 250 h250 #[v, f] w fun _ w' => w' = w := by
  rw [gfn_start]
  have hl := fun w' => hv.lenS (w' := w')
  have hw : IntKind.u64.wrap 0 = 0 := by decide
  simp -implicitDefEqProofs [h250, W.e, W.mv, W.sq, W.og, hl, hw]
  refine valA_of (hS.len w (n := 0) (by decide)) (fun z w1 hq => ?_)
  obtain ⟨hw1, b, hb⟩ := hq
  simp only at hw1 hb
  subst hw1 hb
  simp -implicitDefEqProofs
  refine valA_of (hS.pr w1 v _ f) (fun z w2 hq => ?_)
  simp only at hq
  subst hq
  simp -implicitDefEqProofs
end Go.Proofs.YteljibbnpheekaaGreat
namespace Go.Proofs.YteljibbnpheekaaGreat
open Go Go.Ideal
def EBk : En Blk := ⟨2, 183, fun p => [n64 p.2, n64 p.1], fun _ => rfl, fun _ v hv => by
  simp at hv; rcases hv with rfl | rfl <;> rfl, by decide⟩
abbrev bkV (p : Blk) : Value := .agg #[n64 p.2, n64 p.1]
theorem run493 {K : Kont} {fuel : Nat} {w : World} (p q : Blk) : wpGFn Tryz.prog K fuel 493 h493 #[bkV p, bkV q] w fun z w' => Old w w' ∧ SomeN z := by
  rw [gfn_start]
  simp -implicitDefEqProofs [h493, W.e, W.mv, W.sq, W.og, W.fa, W.ld]
  exact ⟨(Old.push2 _ _ _), _, rfl⟩
structure Cmp (K : Kont) : Prop where
  cmp : ∀ (w : World) (p q : Blk), (K.enter 493 #[bkV p, bkV q] w).all fun x => Old w x.2 ∧ SomeN x.1
abbrev f493 : Value := .func (.func 493) #[] #[]
theorem run579 {K : Kont} {fuel : Nat} (hC : Cmp K) (hf : 1000 ≤ fuel) {w : World} {v : Value} {xs : List Blk} (hv : RowE EBk w v xs) (hn : xs.length ≤ 12) :
    wpGFn Tryz.prog K fuel 579 h579 #[v, n64 0, n64 xs.length, f493] w fun _ w' => (∃ ys, RowE EBk w' v ys ∧ ys.Perm xs) ∧ Keeps w w' (fun j => blkOf v = some j) := by
  rw [gfn_start]
  simp -implicitDefEqProofs [h579, W.e, W.e0, W.mv, W.sq, W.og, W.gr, wz1]
  refine loop_go (fun m ρ w' => ∃ i : Nat, m = 13 - i ∧ 1 ≤ i ∧ i ≤ 13 ∧ (i ≤ xs.length ∨ i = 1) ∧ ρ 0 = v ∧ ρ 1 = n64 0 ∧ ρ 2 = n64 xs.length ∧ ρ 3 = f493 ∧ ρ 8 = n64 i ∧ (∃ ys, RowE EBk w' v ys ∧ ys.Perm xs) ∧ Keeps w w' (fun j => blkOf v = some j)) ?_ (i := 12) ?_ (by show 12 < fuel; omega)
  · rintro m ρ w1 ⟨i, rfl, h1, h13, hix, e0, e1, e2, e3, e8, hys, hk⟩
    by_cases h : i < xs.length
    · simp -implicitDefEqProofs [e2, e8, h]
      refine loop_go (fun m ρ w' => ∃ j : Nat, m = j ∧ j ≤ i ∧ ρ 0 = v ∧ ρ 1 = n64 0 ∧ ρ 2 = n64 xs.length ∧ ρ 3 = f493 ∧ ρ 8 = n64 i ∧ ρ 9 = n64 j ∧ (∃ ys, RowE EBk w' v ys ∧ ys.Perm xs) ∧ Keeps w w' (fun j => blkOf v = some j)) ?_ (i := i) ?_ (by show i < fuel; omega)
      · rintro m ρ w2 ⟨j, rfl, hji, e0, e1, e2, e3, e8, e9, ⟨ys, hr, hp⟩, hk⟩
        have hlen := hp.length_eq
        by_cases hj : m = 0
        · subst hj
          simp -implicitDefEqProofs [e0, e1, e2, e3, e8, e9]
          have c1 : IntKind.i64.wrap ((i : Int) + 1) = ((i + 1 : Nat) : Int) := by rw [IntKind.wrap_i64]; omega
          exact ⟨13 - (i + 1), by omega, i + 1, rfl, by omega, by omega, .inl h, c1, ⟨ys, hr, hp⟩, hk⟩
        · obtain ⟨q, rfl⟩ : ∃ q, m = q + 1 := ⟨m - 1, by omega⟩
          have hq1 : q + 1 < ys.length := by omega
          have hq0 : q < ys.length := by omega
          obtain ⟨rb, ro, rcap, rc, hve, hrc, hrsz, hext, _⟩ := hr.at hq1
          obtain ⟨rb', ro', rcap', rc', hve', hrc', hrsz', hext', _⟩ := hr.at hq0
          rw [hve] at hve'
          simp only [Value.slice.injEq, Option.some.injEq, Addr.mk.injEq] at hve'
          obtain ⟨⟨g1, g2, _⟩, _, g3⟩ := hve'
          subst g1 g2 g3
          rw [hrc] at hrc'
          simp only [Option.some.injEq, Prod.mk.injEq, and_true] at hrc'
          subst hrc'
          simp only [EBk] at hrc hrsz hrsz' hext hext'
          have x1 : IntKind.i64.wrap (((q + 1 : Nat) : Int) - 1) = q := by rw [IntKind.wrap_i64]; omega
          have x2 : IntKind.i64.wrap (q : Int) = q := by rw [IntKind.wrap_i64]; omega
          subst hve
          have g1 : (0 : Int) ≤ q + 1 := by omega
          have g2 : (q : Int) + 1 < ys.length := by omega
          have g4 : (0 : Int) < (q : Int) + 1 := by omega
          have x3 : IntKind.i64.wrap ((q : Int) + 1 - 1) = q := by rw [IntKind.wrap_i64]; omega
          simp -implicitDefEqProofs [e0, e1, e3, e9, x2, g1, g2, g4, hrc, hrsz, hrsz', hext, hext', hq0, body 493 body493]
          refine valA_of (hC.cmp w2 ys[q + 1] ys[q]) (fun z w3 hq => ?_)
          obtain ⟨o3, b, hz⟩ := hq
          simp only at o3 hz
          subst hz
          have hr3 := hr.keep o3 (fun _ _ h => h)
          have hrc3 := o3.cells hrc (fun h => h)
          by_cases hb : b < 0
          · have hlt := cells_lt hrc3
            simp -implicitDefEqProofs [e0, e1, e2, e3, e8, e9, x2, g1, g2, hb, hlt, hrc3, hrsz, hrsz', hext, hext', hq0]
            have s1 := hr3.set hq1 ys[q] rfl hrc3
            simp only [EBk, Ideal.putCells] at s1
            have hc1 : cellsOf? (World.set w3 rb (.cells ((rc.setIfInBounds (ro + (q + 1) * 2) (n64 (ys[q].2 : Int))).setIfInBounds (ro + (q + 1) * 2 + 1) (n64 (ys[q].1 : Int))) 183)) rb = some (((rc.setIfInBounds (ro + (q + 1) * 2) (n64 (ys[q].2 : Int))).setIfInBounds (ro + (q + 1) * 2 + 1) (n64 (ys[q].1 : Int))), 183, (0, 0)) := by rw [cells_set, if_pos ⟨rfl, hlt⟩]
            have s2 := RowE.set (E := EBk) (i := q) s1 (by rw [List.length_set]; exact hq0) ys[q + 1] (by rw [List.length_set]) hc1
            simp only [EBk, Ideal.putCells] at s2
            refine ⟨q, by omega, by omega, rfl, ⟨(ys.set (q + 1) ys[q]).set q ys[q + 1], s2, (List.set_set_perm hq1 hq0).trans hp⟩, ?_⟩
            refine (hk.trans o3 (H := fun j => rb = j) (fun _ _ h => by simpa [blkOf] using h) (fun _ _ h => h.elim)).trans ((Keeps.set _ rb _ (F := fun j => rb = j) (fun _ => rfl)).trans (Keeps.set _ rb _ (F := fun j => rb = j) (fun _ => rfl)) (fun _ _ h => h) (fun _ _ h => h)) (fun _ _ h => h) (fun _ _ h => h)
          · simp -implicitDefEqProofs [e0, e1, e2, e3, e8, hb]
            have c1 : IntKind.i64.wrap ((i : Int) + 1) = ((i + 1 : Nat) : Int) := by rw [IntKind.wrap_i64]; omega
            exact ⟨13 - (i + 1), by omega, i + 1, rfl, by omega, by omega, .inl h, c1, ⟨ys, hr3, hp⟩, hk.trans o3 (fun _ _ h => by simpa [blkOf] using h) (fun _ _ h => h.elim)⟩
      · exact ⟨i, rfl, Nat.le_refl _, by simp [e0], by simp [e1], by simp [e2], by simp [e3], by simp [e8], by simp, hys, hk⟩
    · simp -implicitDefEqProofs [e2, e8, h]
      exact ⟨hys, hk⟩
  · exact ⟨1, rfl, Nat.le_refl _, by omega, .inr rfl, by simp, by simp, by simp, by simp, by simp, ⟨xs, hv, .refl _⟩, Keeps.refl _ _⟩
end Go.Proofs.YteljibbnpheekaaGreat
