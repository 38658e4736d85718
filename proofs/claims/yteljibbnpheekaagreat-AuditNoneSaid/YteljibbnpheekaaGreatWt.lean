import Derived.Test.YteljibbnpheekaaGreatWq
namespace Go.Proofs.YteljibbnpheekaaGreat
open Go Go.Ideal
section
variable {K : Kont} {fuel : Nat} {w : World}
theorem run27n : wpGFn Tryz.prog K fuel 27 h27 #[.pointer none] w fun z w' => z = n64 0 ∧ w' = w := by
  rw [gfn_start]
  simp -implicitDefEqProofs [h27, W.e, W.mv, W.sq, W.og, W.fa, W.ld, W.nn, n40]
theorem run37n : wpGFn Tryz.prog K fuel 37 h37 #[.pointer none] w fun z w' => z = nilS ∧ w' = w := by
  rw [gfn_start]
  simp -implicitDefEqProofs [h37, W.e, W.mv, W.sq, W.og, W.fa, W.ld, W.nn, n40]
theorem run38n : wpGFn Tryz.prog K fuel 38 h38 #[.pointer none] w fun z w' => z = nilS ∧ w' = w := by
  rw [gfn_start]
  simp -implicitDefEqProofs [h38, W.e, W.mv, W.sq, W.og, W.fa, W.ld, W.nn, n40]
theorem run39n : wpGFn Tryz.prog K fuel 39 h39 #[.pointer none] w fun z w' => z = nilS ∧ w' = w := by
  rw [gfn_start]
  simp -implicitDefEqProofs [h39, W.e, W.mv, W.sq, W.og, W.fa, W.ld, W.nn, n40]
theorem run40n : wpGFn Tryz.prog K fuel 40 h40 #[.pointer none] w fun z w' => z = nilS ∧ w' = w := by
  rw [gfn_start]
  simp -implicitDefEqProofs [h40, W.e, W.e0, W.mv, W.sq, W.og, W.fa, W.ld, W.ex, W.nn, n40]
theorem run36n : wpGFn Tryz.prog K fuel 36 h36 #[.pointer none] w fun z w' => z = nilS ∧ w' = w := by
  rw [gfn_start]
  simp -implicitDefEqProofs [h36, W.e, W.mv, W.sq, W.og, W.fa, W.ld, W.nn, n40]
theorem run35n (i : Int) : wpGFn Tryz.prog K fuel 35 h35 #[.pointer none, n64 i] w fun z w' => z = nilS ∧ w' = w := by
  rw [gfn_start]
  simp -implicitDefEqProofs [h35, W.e, W.mv, W.sq, W.og, W.fa, W.ld, W.nn, n40]
theorem run16n (i : Int) : wpGFn Tryz.prog K fuel 16 h16 #[.pointer none, n64 i] w fun z w' => z = .tuple #[n64 0, n64 0, n64 1] ∧ w' = w := by
  rw [gfn_start]
  simp -implicitDefEqProofs [h16, W.e, W.mv, W.sq, W.og, W.fa, W.ld, W.ex, W.nn, n40]
theorem run18n (i : Int) : wpGFn Tryz.prog K fuel 18 h18 #[.pointer none, n64 i] w fun z w' => z = .tuple #[nilS, n64 0, n64 0] ∧ w' = w := by
  rw [gfn_start]
  simp -implicitDefEqProofs [h18, W.e, W.mv, W.sq, W.og, W.fa, W.ld, W.nn, n40]
end
theorem empNil : Emp nilS := ⟨_, _, rfl⟩
structure Tell (K : Kont) : Prop where
  t26 : ∀ {w : World} {B x : Nat} {u : Sup}, Fresh w B x u → (K.enter 26 #[pt x] w).all fun z => z.1 = n64 u.frames ∧ z.2 = w
  t27 : ∀ {w : World} {B x : Nat} {u : Sup}, Fresh w B x u → (K.enter 27 #[pt x] w).all fun z => z.1 = n64 0 ∧ z.2 = w
  t28 : ∀ {w : World} {B x : Nat} {u : Sup}, Fresh w B x u → (K.enter 28 #[pt x] w).all fun z => z.1 = n64 u.cpus ∧ z.2 = w
  t37 : ∀ {w : World} {B x : Nat} {u : Sup}, Fresh w B x u → (K.enter 37 #[pt x] w).all fun z => Old w z.2 ∧ Tells z.2 z.1 u.frames.toNat w
  t16 : ∀ {w : World} {B x : Nat} {u : Sup}, Fresh w B x u → ∀ i, (K.enter 16 #[pt x, n64 i] w).all fun z => Old w z.2 ∧ z.1 = .tuple #[n64 0, n64 0, n64 6]
  t38 : ∀ {w : World} {B x : Nat} {u : Sup}, Fresh w B x u → (K.enter 38 #[pt x] w).all fun z => z.2 = w ∧ Emp z.1
  t39 : ∀ {w : World} {B x : Nat} {u : Sup}, Fresh w B x u → (K.enter 39 #[pt x] w).all fun z => Old w z.2 ∧ Emp z.1
  t40 : ∀ {w : World} {B x : Nat} {u : Sup}, Fresh w B x u → (K.enter 40 #[pt x] w).all fun z => z.2 = w ∧ Emp z.1
  t18 : ∀ {w : World} {B x : Nat} {u : Sup}, Fresh w B x u → ∀ k, k = 3 ∨ k = 6 → (K.enter 18 #[pt x, n64 k] w).all fun z => Old w z.2 ∧ ∃ v a b, z.1 = .tuple #[v, a, b] ∧ Emp v
  t36 : ∀ {w : World} {B x : Nat} {u : Sup}, Fresh w B x u → (K.enter 36 #[pt x] w).all fun z => Old w z.2 ∧ Emp z.1
  t35 : ∀ {w : World} {B x : Nat} {u : Sup}, Fresh w B x u → ∀ i, (K.enter 35 #[pt x, n64 i] w).all fun z => Old w z.2 ∧ Emp z.1
  t34 : ∀ {w : World} {B x : Nat} {u : Sup}, Fresh w B x u → ∀ {i : Nat}, i < u.cpus.toNat → (K.enter 34 #[pt x, n64 i] w).all fun z => Old w z.2 ∧ Emp z.1
  t42 : ∀ {w : World} {B x : Nat} {u : Sup}, Fresh w B x u → ∀ {i : Nat}, i < u.frames.toNat → (K.enter 42 #[pt x, n64 i] w).all fun z => z.1 = n64 0 ∧ z.2 = w
  o26 : ∀ {w : World}, (K.enter 26 #[.pointer none] w).all fun z => z.1 = n64 0 ∧ z.2 = w
  o27 : ∀ {w : World}, (K.enter 27 #[.pointer none] w).all fun z => z.1 = n64 0 ∧ z.2 = w
  o37 : ∀ {w : World}, (K.enter 37 #[.pointer none] w).all fun z => z.1 = nilS ∧ z.2 = w
  o38 : ∀ {w : World}, (K.enter 38 #[.pointer none] w).all fun z => z.1 = nilS ∧ z.2 = w
  o39 : ∀ {w : World}, (K.enter 39 #[.pointer none] w).all fun z => z.1 = nilS ∧ z.2 = w
  o40 : ∀ {w : World}, (K.enter 40 #[.pointer none] w).all fun z => z.1 = nilS ∧ z.2 = w
  o36 : ∀ {w : World}, (K.enter 36 #[.pointer none] w).all fun z => z.1 = nilS ∧ z.2 = w
  o35 : ∀ {w : World} (i : Int), (K.enter 35 #[.pointer none, n64 i] w).all fun z => z.1 = nilS ∧ z.2 = w
  o16 : ∀ {w : World} (i : Int), (K.enter 16 #[.pointer none, n64 i] w).all fun z => z.1 = .tuple #[n64 0, n64 0, n64 1] ∧ z.2 = w
  o18 : ∀ {w : World} (i : Int), (K.enter 18 #[.pointer none, n64 i] w).all fun z => z.1 = .tuple #[nilS, n64 0, n64 0] ∧ z.2 = w
theorem mo {α : Type} {t : T α} {Q Q' : α → Prop} (ht : t.all Q) (h : ∀ a, Q a → Q' a) : t.all Q' := T.all_mono h ht
theorem emp_of {w : World} {t : T (Value × World)} (h : t.all fun z => z.1 = nilS ∧ z.2 = w) : t.all fun z => Old w z.2 ∧ Emp z.1 :=
  mo h fun z hz => by obtain ⟨h1, h2⟩ := hz; rw [h1, h2]; exact ⟨Keeps.refl _ _, empNil⟩
theorem look_nil {K : Kont} (hT : Tell K) (w0 : World) : Look K w0 (.pointer none) 0 where
  frames := fun _ => hT.o26
  spaces := fun _ => hT.o27
  blocks := fun _ => mo hT.o37 fun z hz => by obtain ⟨h1, h2⟩ := hz; rw [h1, h2]; exact ⟨Keeps.refl _ _, [], [], RowE.nil _, .refl _, rfl, by simp, fun y hy => by cases hy⟩
  owner := fun _ i => mo (hT.o16 i) fun z hz => by obtain ⟨h1, h2⟩ := hz; rw [h2]; exact ⟨Keeps.refl _ _, 1, by decide, h1⟩
  queue := fun _ => emp_of hT.o38
  moving := fun _ => emp_of hT.o39
  bigs := fun _ => emp_of hT.o40
  pool := fun _ k _ => mo (hT.o18 k) fun z hz => by obtain ⟨h1, h2⟩ := hz; rw [h2]; exact ⟨Keeps.refl _ _, _, _, _, h1, empNil⟩
  resv := fun _ => emp_of hT.o36
  spots := fun _ i => emp_of (hT.o35 i)
theorem Fresh.old' {w w' : World} {B x : Nat} {u : Sup} (h : Fresh w B x u) (ho : Old w w') : Fresh w' B x u := h.keep ho (fun _ _ _ h => h)
theorem frames_nat {u : Sup} (h : u.ok) : n64 u.frames = n64 (u.frames.toNat : Int) := by
  have := h.1.1
  rw [Int.toNat_of_nonneg (by omega)]
theorem look_fresh {K : Kont} (hT : Tell K) {w0 : World} {B x : Nat} {u : Sup} (h : Fresh w0 B x u) : Look K w0 (pt x) u.frames.toNat where
  frames := fun ho => by rw [← frames_nat h.ok]; exact hT.t26 (h.old' ho)
  spaces := fun ho => hT.t27 (h.old' ho)
  blocks := fun ho => hT.t37 (h.old' ho)
  owner := fun ho i => mo (hT.t16 (h.old' ho) i) fun z hz => ⟨hz.1, 6, by decide, hz.2⟩
  queue := fun ho => mo (hT.t38 (h.old' ho)) fun z hz => by rw [hz.1]; exact ⟨Keeps.refl _ _, hz.2⟩
  moving := fun ho => hT.t39 (h.old' ho)
  bigs := fun ho => mo (hT.t40 (h.old' ho)) fun z hz => by rw [hz.1]; exact ⟨Keeps.refl _ _, hz.2⟩
  pool := fun ho k hk => hT.t18 (h.old' ho) k hk
  resv := fun ho => hT.t36 (h.old' ho)
  spots := fun ho i => hT.t35 (h.old' ho) i
end Go.Proofs.YteljibbnpheekaaGreat
namespace Go.Proofs.YteljibbnpheekaaGreat
open Go Go.Ideal
theorem iarr216 {K : Kont} {ρ : Env} {w : World} {x ix : Operand} {ty : TypeId} {b i : Nat} (hcx : constFit x = true) (hci : constFit ix = true) (hx : ev ρ x = pt b) (hix : ev ρ ix = n64 (i : Int)) (hlt : i < 6) :
    sone Tryz.prog K (ev ρ) w (.raw (.indexAddr 216 x ix) ty) = .ret (.pointer (some ⟨b, i, none⟩), w) := by
  obtain ⟨inf, h1, h2⟩ : ∃ inf, Tryz.prog.info? 3 = some inf ∧ inf.size = 1 := by
    obtain ⟨i, hi, _, hs, _⟩ := i3; exact ⟨i, hi, hs⟩
  have := iarr_eq (P := Tryz.prog) (K := K) (w := w) (ty := ty) a216 h1 hcx hci hx hix hlt
  rw [this, h2, Nat.mul_one, Nat.zero_add]
def cntV (n : Nat) : Value := .agg #[n64 n, n64 0, n64 0, n64 0, n64 0, n64 0, n64 0, n64 0, n64 0, n64 0]
theorem run61 {K : Kont} {fuel : Nat} {w : World} {x : Value} {n : Nat} (hL : Look K w x n) (h60' : ∀ {w' : World}, Old w w' → (K.enter 60 #[x] w').all fun z => P60 w' n z.1 z.2) (hf : 2000 < fuel) (hn : n ≤ 1024) :
    wpGFn Tryz.prog K fuel 61 h61 #[x] w fun z w' => z = cntV n ∧ Old w w' := by
  rw [gfn_start]
  simp -implicitDefEqProofs [h61, W.e, W.e0, W.mv, W.sq, W.og, W.fa, W.ld]
  have o1 := Old.push w (.cells #[n64 0, n64 0, n64 0, n64 0, n64 0, n64 0, n64 0, n64 0, n64 0, n64 0] 103)
  have s1 : (World.push w (.cells #[n64 0, n64 0, n64 0, n64 0, n64 0, n64 0, n64 0, n64 0, n64 0, n64 0] 103)).heap.size = w.heap.size + 1 := by simp
  have c1 : cellsOf? (World.push w (.cells #[n64 0, n64 0, n64 0, n64 0, n64 0, n64 0, n64 0, n64 0, n64 0, n64 0] 103)) w.heap.size = some (#[n64 0, n64 0, n64 0, n64 0, n64 0, n64 0, n64 0, n64 0, n64 0, n64 0], 103, (0, 0)) := by simp
  generalize World.push w (.cells #[n64 0, n64 0, n64 0, n64 0, n64 0, n64 0, n64 0, n64 0, n64 0, n64 0] 103) = w1 at *
  have o2 := Old.push w1 (.cells #[n64 0, n64 0, n64 0, n64 0, n64 0, n64 0] 216)
  have s2 : (World.push w1 (.cells #[n64 0, n64 0, n64 0, n64 0, n64 0, n64 0] 216)).heap.size = w1.heap.size + 1 := by simp
  have c2 : cellsOf? (World.push w1 (.cells #[n64 0, n64 0, n64 0, n64 0, n64 0, n64 0] 216)) w1.heap.size = some (#[n64 0, n64 0, n64 0, n64 0, n64 0, n64 0], 216, (0, 0)) := by simp
  have c12 := o2.cells c1 (fun h => h)
  generalize World.push w1 (.cells #[n64 0, n64 0, n64 0, n64 0, n64 0, n64 0] 216) = w2 at *
  refine valA_of (h60' (o1.trans o2)) (fun z w3 hq => ?_)
  obtain ⟨o3, hr3, hzb⟩ := hq
  simp only at o3 hr3 hzb
  have c13 := o3.cells c12 (fun h => h)
  have c23 := o3.cells c2 (fun h => h)
  have s3 := o3.1
  have hl := fun w' => hr3.lenS (w' := w')
  simp only [List.length_replicate] at hl
  simp -implicitDefEqProofs [hl]
  refine loop_go (fun m ρ w' => ∃ i : Nat, m = n - i ∧ i ≤ n ∧ ρ 0 = x ∧ ρ 2 = pt w.heap.size ∧ ρ 3 = pt w1.heap.size ∧ ρ 12 = z ∧ ρ 13 = n64 n ∧ ρ 14 = n64 i ∧ Keeps w3 w' (fun j => j = w1.heap.size) ∧ cellsOf? w' w1.heap.size = some (#[n64 i, n64 0, n64 0, n64 0, n64 0, n64 0], 216, (0, 0))) ?_ (i := n) ?_ (by show n < fuel; omega)
  · rintro m ρ w4 ⟨i, rfl, hi, e0, e2, e3, e12, e13, e14, hk, hc⟩
    by_cases hin : i < n
    · obtain ⟨rb, ro, rcap, rc, hve, hrc, hrsz, hext⟩ := (hr3.keep hk (fun y hy hh => by have := hzb y hy; omega)).int (i := i) (by simpa using hin)
      simp only [List.length_replicate, List.getElem_replicate] at hve hext
      have hget := getOf hext
      have x1 : IntKind.i64.wrap ((i : Int) + 1) = (i : Int) + 1 := by rw [IntKind.wrap_i64]; omega
      have hia : ∀ (ρ : Env) (w : World), ρ 3 = pt w1.heap.size → ρ 20 = n64 0 → sone Tryz.prog K (ev ρ) w (.raw (.indexAddr 216 (.tmp 3) (.tmp 20)) 0) = .ret (.pointer (some ⟨w1.heap.size, 0, none⟩), w) := fun ρ w h3 h20 => iarr216 (i := 0) rfl rfl h3 h20 (by decide)
      simp -implicitDefEqProofs [e0, e2, e3, e12, e13, e14, hin, hve, hrc, hrsz, hget, hia, hc, x1]
      have hwl : w1.heap.size < w4.heap.size := by have := hk.1; omega
      exact ⟨n - (i + 1), by omega, i + 1, rfl, by omega, by omega, hk.trans (Keeps.set w4 w1.heap.size _ (F := fun j => j = w1.heap.size) (fun _ => rfl)) (fun _ _ h => h) (fun _ _ h => h), by rw [if_pos hwl]; rfl⟩
    · have hie : i = n := by omega
      subst hie
      have hia : ∀ (ρ : Env) (w : World), ρ 3 = pt w1.heap.size → ∀ j : Nat, j < 6 → ∀ c : Int, c = j → sone Tryz.prog K (ev ρ) w (.raw (.indexAddr 216 (.tmp 3) (.const (n64 c))) 0) = .ret (.pointer (some ⟨w1.heap.size, j, none⟩), w) := fun ρ w h3 j hj c hc => iarr216 (i := j) rfl rfl h3 (by rw [hc]; rfl) hj
      have hia0 := fun ρ w h => hia ρ w h 0 (by decide) 0 rfl
      have hia1 := fun ρ w h => hia ρ w h 1 (by decide) 1 rfl
      have hia2 := fun ρ w h => hia ρ w h 2 (by decide) 2 rfl
      have hia3 := fun ρ w h => hia ρ w h 3 (by decide) 3 rfl
      have hia4 := fun ρ w h => hia ρ w h 4 (by decide) 4 rfl
      have hia5 := fun ρ w h => hia ρ w h 5 (by decide) 5 rfl
      simp -implicitDefEqProofs [e0, e3, e13, e14, hia0, hia1, hia2, hia3, hia4, hia5, hc, fillS, Instr.fill]
      have oo3 : Old w w3 := (o1.trans o2).trans o3
      have s4 := hk.1
      have c14 := hk.cells c13 (fun h => by omega)
      have oo4 : Old w w4 := Keeps.trans oo3 hk (fun _ _ h => h) (fun j hj h => by omega)
      have o5 : Old w4 (World.set (World.push w4 (.cells #[n64 0, n64 0, n64 0, n64 0, n64 0, n64 0, n64 0, n64 0, n64 0, n64 0] 103)) w4.heap.size (.cells #[n64 i, n64 0, n64 0, n64 0, n64 0, n64 0, n64 0, n64 0, n64 0, n64 0] 103)) := (Old.push w4 _).set (Nat.le_refl _) _
      have c5 : cellsOf? (World.set (World.push w4 (.cells #[n64 0, n64 0, n64 0, n64 0, n64 0, n64 0, n64 0, n64 0, n64 0, n64 0] 103)) w4.heap.size (.cells #[n64 i, n64 0, n64 0, n64 0, n64 0, n64 0, n64 0, n64 0, n64 0, n64 0] 103)) w4.heap.size = some (#[n64 i, n64 0, n64 0, n64 0, n64 0, n64 0, n64 0, n64 0, n64 0, n64 0], 103, (0, 0)) := by rw [cells_set, if_pos ⟨rfl, by simp⟩]
      generalize World.set (World.push w4 (.cells #[n64 0, n64 0, n64 0, n64 0, n64 0, n64 0, n64 0, n64 0, n64 0, n64 0] 103)) w4.heap.size (.cells #[n64 i, n64 0, n64 0, n64 0, n64 0, n64 0, n64 0, n64 0, n64 0, n64 0] 103) = w5 at *
      have c15 := o5.cells c14 (fun h => h)
      refine valA_of (hL.spaces (oo4.trans o5)) (fun z w6 hq => ?_)
      obtain ⟨hz, hw⟩ := hq
      simp only at hz hw
      subst hz hw
      simp -implicitDefEqProofs
      refine loop_exit ?_ (by show 0 < fuel; omega)
      simp -implicitDefEqProofs [e0]
      refine valA_of (hL.frames (oo4.trans o5)) (fun z w7 hq => ?_)
      obtain ⟨hz, hw⟩ := hq
      simp only at hz hw
      subst hz hw
      simp -implicitDefEqProofs
      have hz7 := o5.1
      refine loop_go (fun m ρ w' => ∃ q : Nat, m = i - q ∧ q ≤ i ∧ ρ 0 = x ∧ ρ 2 = pt w.heap.size ∧ ρ 6 = pt w4.heap.size ∧ ρ 73 = n64 i ∧ ρ 74 = n64 q ∧ Old w7 w') ?_ (i := i) ?_ (by show i < fuel; omega)
      · rintro m ρ w8 ⟨q, rfl, hq, e0, e2, e6, e73, e74, ho8⟩
        have c18 := ho8.cells c15 (fun h => h)
        have c58 := ho8.cells c5 (fun h => h)
        have hwl : w.heap.size < w8.heap.size := cells_lt c18
        by_cases hqi : q < i
        · have x1 : IntKind.i64.wrap ((q : Int) + 1) = (q : Int) + 1 := by rw [IntKind.wrap_i64]; omega
          simp -implicitDefEqProofs [e0, e73, e74, hqi]
          refine valA_of (hL.spots ((oo4.trans o5).trans ho8) q) (fun z w9 hq => ?_)
          obtain ⟨ho, he⟩ := hq
          simp only at ho he
          have hl := fun w' => he.lenS (w' := w')
          simp -implicitDefEqProofs [hl, e0, e2, e6, e73, e74, x1]
          exact ⟨i - (q + 1), by omega, q + 1, rfl, by omega, by omega, ho8.trans ho⟩
        · have hqe : q = i := by omega
          subst hqe
          simp -implicitDefEqProofs [e2, e6, e73, e74, c58, c18, hwl]
          exact ⟨rfl, ((oo4.trans o5).trans ho8).set (Nat.le_refl _) _⟩
      · exact ⟨0, rfl, Nat.zero_le _, by simp [e0], by simp [e2], by simp, by simp, by simp, Keeps.refl _ _⟩
  · refine ⟨0, rfl, Nat.zero_le _, by simp, by simp, by simp, by simp, by simp, by simp, Keeps.refl _ _, by simpa using c23⟩
end Go.Proofs.YteljibbnpheekaaGreat
namespace Go.Proofs.YteljibbnpheekaaGreat
open Go Go.Ideal
theorem run151 {K : Kont} {fuel : Nat} {w : World} {x : Value} {n : Nat} (hL : Look K w x n) (hf : 2000 < fuel) (hn : n ≤ 1024) :
    wpGFn Tryz.prog K fuel 151 h151 #[x] w fun z w' => z = n64 0 ∧ Old w w' := by
  rw [gfn_start]
  simp -implicitDefEqProofs [h151, W.e, W.e0, W.mv, W.sq, W.og, W.gr, W.fa, W.ld, W.ex]
  have o1 := Old.push w (.map #[] 0)
  have m1 := MapAt.push w
  have s1 : (World.push w (.map #[] 0)).heap.size = w.heap.size + 1 := by simp
  generalize World.push w (.map #[] 0) = w1 at *
  have o2 := Old.push w1 (.map #[] 0)
  have m2 := MapAt.push w1
  have m12 := m1.keep o2 (fun h => h)
  generalize World.push w1 (.map #[] 0) = w2 at *
  have oo2 := o1.trans o2
  refine valA_of (hL.spaces oo2) (fun z w3 hq => ?_)
  obtain ⟨hz, hw⟩ := hq
  simp only at hz hw
  subst hz hw
  simp -implicitDefEqProofs
  refine loop_exit ?_ (by show 0 < fuel; omega)
  simp -implicitDefEqProofs
  refine valA_of (hL.frames oo2) (fun z w4 hq => ?_)
  obtain ⟨hz, hw⟩ := hq
  simp only at hz hw
  subst hz hw
  simp -implicitDefEqProofs
  refine loop_go (fun m ρ w' => ∃ q : Nat, m = n - q ∧ q ≤ n ∧ ρ 0 = x ∧ ρ 3 = mpV w.heap.size ∧ ρ 4 = mpV w1.heap.size ∧ ρ 84 = n64 n ∧ ρ 85 = n64 q ∧ Old w4 w') ?_ (i := n) ?_ (by show n < fuel; omega)
  · rintro m ρ w5 ⟨q, rfl, hq, e0, e3, e4, e84, e85, ho5⟩
    have hm5 := m12.keep ho5 (fun h => h)
    by_cases hqi : q < n
    · have x1 : IntKind.i64.wrap ((q : Int) + 1) = (q : Int) + 1 := by rw [IntKind.wrap_i64]; omega
      simp -implicitDefEqProofs [e0, e3, e84, e85, hqi, lookup_map hm5.is, getM]
      refine valA_of (hL.spots (oo2.trans ho5) q) (fun z w9 hq => ?_)
      obtain ⟨ho, he⟩ := hq
      simp only at ho he
      have hl := fun w' => he.lenS (w' := w')
      have hm9 := hm5.keep ho (fun h => h)
      simp -implicitDefEqProofs [hl, e0, e3, e4, e84, e85, x1, lookup_map hm9.is, getM]
      exact ⟨n - (q + 1), by omega, q + 1, rfl, by omega, by omega, ho5.trans ho⟩
    · have hqe : q = n := by omega
      subst hqe
      simp -implicitDefEqProofs [e0, e84, e85]
      refine valA_of (hL.bigs (oo2.trans ho5)) (fun z w6 hq => ?_)
      obtain ⟨ho, he⟩ := hq
      simp only at ho he
      have hl := fun w' => he.lenS (w' := w')
      simp -implicitDefEqProofs [hl]
      refine loop_exit ?_ (by show 0 < fuel; omega)
      simp -implicitDefEqProofs [e0]
      have ho6 := ho5.trans ho
      refine valA_of (hL.frames (oo2.trans ho6)) (fun z w7 hq => ?_)
      obtain ⟨hz, hw⟩ := hq
      simp only at hz hw
      subst hz hw
      simp -implicitDefEqProofs
      refine loop_go (fun m ρ w' => ∃ i : Nat, m = q - i ∧ i ≤ q ∧ ρ 0 = x ∧ ρ 3 = mpV w.heap.size ∧ ρ 4 = mpV w1.heap.size ∧ ρ 118 = n64 q ∧ ρ 119 = n64 i ∧ Old w4 w') ?_ (i := q) ?_ (by show q < fuel; omega)
      · rintro m ρ w8 ⟨i, rfl, hi, e0, e3, e4, e118, e119, ho8⟩
        by_cases hiq : i < q
        · have x1 : IntKind.i64.wrap ((i : Int) + 1) = (i : Int) + 1 := by rw [IntKind.wrap_i64]; omega
          simp -implicitDefEqProofs [e0, e118, e119, hiq]
          refine valA_of (hL.owner (oo2.trans ho8) i) (fun z w9 hq => ?_)
          obtain ⟨ho, e, he, hz⟩ := hq
          simp only at ho hz
          subst hz
          have hm9 := (m12.keep ho8 (fun h => h)).keep ho (fun h => h)
          simp -implicitDefEqProofs [e0, e3, e4, e118, e119, x1, he, lookup_map hm9.is, getM]
          exact ⟨q - (i + 1), by omega, i + 1, rfl, by omega, by omega, ho8.trans ho⟩
        · have hie : i = q := by omega
          subst hie
          simp -implicitDefEqProofs [e118, e119]
          exact oo2.trans ho8
      · exact ⟨0, rfl, Nat.zero_le _, by simp [e0], by simp [e3], by simp [e4], by simp, by simp, ho6⟩
  · exact ⟨0, rfl, Nat.zero_le _, by simp, by simp, by simp [s1], by simp, by simp, Keeps.refl _ _⟩
theorem run152 {K : Kont} {fuel : Nat} {w : World} {B x : Nat} {u : Sup} (hT : Tell K) (hf : 0 < fuel) (h : Fresh w B x u) {i : Nat} (hi : i < u.cpus.toNat) :
    wpGFn Tryz.prog K fuel 152 h152 #[pt x, n64 i] w fun z w' => z = n64 0 ∧ Old w w' := by
  rw [gfn_start]
  simp -implicitDefEqProofs [h152, W.e, W.e0, W.mv, W.sq, W.og, W.gr, W.fa, W.ld, W.ex]
  refine valA_of (hT.t34 h hi) (fun z w1 hq => ?_)
  obtain ⟨ho, he⟩ := hq
  simp only at ho he
  have hl := fun w' => he.lenS (w' := w')
  simp -implicitDefEqProofs [hl]
  refine loop_exit ?_ hf
  simp -implicitDefEqProofs
  exact ho
theorem run62n {K : Kont} {fuel : Nat} {w : World} : wpGFn Tryz.prog K fuel 62 h62 #[.pointer none] w fun z w' => z = n64 1 ∧ w' = w := by
  rw [gfn_start]
  simp -implicitDefEqProofs [h62, W.e, W.mv, W.sq, W.og, W.ld, n40]
theorem run62 {K : Kont} {fuel : Nat} {w : World} {B x : Nat} {u : Sup} (hT : Tell K) (h : Fresh w B x u) (h60' : (K.enter 60 #[pt x] w).all fun z => P60 w u.frames.toNat z.1 z.2)
    (h151' : ∀ {w' : World}, Fresh w' B x u → (K.enter 151 #[pt x] w').all fun z => z.1 = n64 0 ∧ Old w' z.2)
    (h152' : ∀ {w' : World}, Fresh w' B x u → ∀ {i : Nat}, i < u.cpus.toNat → (K.enter 152 #[pt x, n64 i] w').all fun z => z.1 = n64 0 ∧ Old w' z.2) (hf : 2000 < fuel) :
    wpGFn Tryz.prog K fuel 62 h62 #[pt x] w fun z w' => z = n64 0 ∧ Old w w' := by
  rw [gfn_start]
  have hn8 := h.ok.1.1
  have hn := h.ok.1.2.1
  have hc1 := h.ok.2.1.1
  have hc2 := h.ok.2.1.2.1
  obtain ⟨n, hnn⟩ : ∃ n, n = u.frames.toNat := ⟨_, rfl⟩
  obtain ⟨c, hcc⟩ : ∃ c, c = u.cpus.toNat := ⟨_, rfl⟩
  have hcu : u.cpus = (c : Int) := by omega
  simp -implicitDefEqProofs [h62, W.e, W.mv, W.sq, W.og, W.ld, n40]
  refine valA_of h60' (fun z w1 hq => ?_)
  obtain ⟨o1, hr1, hzb⟩ := hq
  simp only at o1 hr1 hzb
  rw [← hnn] at hr1
  have hl := fun w' => hr1.lenS (w' := w')
  simp only [List.length_replicate] at hl
  simp -implicitDefEqProofs [hl]
  refine loop_go (fun m ρ w' => ∃ q : Nat, m = n - q ∧ q ≤ n ∧ ρ 0 = pt x ∧ ρ 11 = z ∧ ρ 12 = n64 n ∧ ρ 13 = n64 q ∧ w' = w1) ?_ (i := n) ?_ (by show n < fuel; omega)
  · rintro m ρ w5 ⟨q, rfl, hq, e0, e11, e12, e13, rfl⟩
    have hx5 := h.old' o1
    by_cases hqi : q < n
    · have x1 : IntKind.i64.wrap ((q : Int) + 1) = (q : Int) + 1 := by rw [IntKind.wrap_i64]; omega
      obtain ⟨rb, ro, rcap, rc, hve, hrc, hrsz, hext⟩ := hr1.int (i := q) (by simpa using hqi)
      simp only [List.length_replicate, List.getElem_replicate] at hve hext
      have hget := getOf hext
      simp -implicitDefEqProofs [e0, e11, e12, e13, hqi, hve, hrc, hrsz, hget]
      refine valA_of (hT.t42 hx5 (i := q) (by omega)) (fun z w9 hq => ?_)
      obtain ⟨hz, hw⟩ := hq
      simp only at hz hw
      subst hz hw
      simp -implicitDefEqProofs [e0, e11, e12, e13, hve, x1]
      exact ⟨n - (q + 1), by omega, q + 1, rfl, by omega, by omega⟩
    · have hqe : q = n := by omega
      subst hqe
      simp -implicitDefEqProofs [e0, e12, e13]
      refine valA_of (h151' hx5) (fun z w6 hq => ?_)
      obtain ⟨hz, ho6⟩ := hq
      simp only at hz ho6
      subst hz
      simp -implicitDefEqProofs [e0]
      have hx6 := hx5.old' ho6
      refine valA_of (hT.t28 hx6) (fun z w7 hq => ?_)
      obtain ⟨hz, hw⟩ := hq
      simp only at hz hw
      subst hz hw
      rw [hcu]
      simp -implicitDefEqProofs
      refine loop_go (fun m ρ w' => ∃ i : Nat, m = c - i ∧ i ≤ c ∧ ρ 0 = pt x ∧ ρ 30 = n64 c ∧ ρ 31 = n64 i ∧ Old w w' ∧ Fresh w' B x u) ?_ (i := c) ?_ (by show c < fuel; omega)
      · rintro m ρ w8 ⟨i, rfl, hi, e0, e30, e31, ho8, hx8⟩
        by_cases hic : i < c
        · have x1 : IntKind.i64.wrap ((i : Int) + 1) = (i : Int) + 1 := by rw [IntKind.wrap_i64]; omega
          simp -implicitDefEqProofs [e0, e30, e31, hic]
          refine valA_of (h152' hx8 (i := i) (by omega)) (fun z w9 hq => ?_)
          obtain ⟨hz, ho9⟩ := hq
          simp only at hz ho9
          subst hz
          simp -implicitDefEqProofs [e0, e30, e31, x1]
          exact ⟨c - (i + 1), by omega, i + 1, rfl, by omega, by omega, ho8.trans ho9, hx8.old' ho9⟩
        · have hie : i = c := by omega
          subst hie
          simp -implicitDefEqProofs [e30, e31]
          exact ho8
      · exact ⟨0, rfl, Nat.zero_le _, by simp [e0], by simp, by simp, o1.trans ho6, hx6⟩
  · exact ⟨0, rfl, Nat.zero_le _, by simp, by simp, by simp, by simp, rfl⟩
end Go.Proofs.YteljibbnpheekaaGreat
