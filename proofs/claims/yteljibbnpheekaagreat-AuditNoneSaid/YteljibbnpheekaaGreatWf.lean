import Derived.Test.YteljibbnpheekaaGreatWc
namespace Go.Proofs.YteljibbnpheekaaGreat
open Go Go.Ideal
abbrev nilS : Value := .slice none 0 0
abbrev mpV (b : Nat) : Value := .map (some b)
abbrev Old (w w' : World) : Prop := Keeps w w' (fun _ => False)
theorem Old.trans {a b c : World} (h : Old a b) (k : Old b c) : Old a c := Keeps.trans h k (fun _ _ h => h) (fun _ _ h => h)
theorem Old.push (w : World) (o : Obj) : Old w (World.push w o) := Keeps.push w o _
theorem Old.set {w w' : World} (h : Old w w') {b : Nat} (hb : w.heap.size ≤ b) (o : Obj) : Old w (World.set w' b o) := Keeps.trans h (Keeps.set w' b o (F := fun j => j = b) (fun _ => rfl)) (fun _ _ h => h) (fun j hj h => by omega)
theorem Old.push2 (w : World) (o o' : Obj) : Old w (World.push (World.push w o) o') := (Old.push w o).trans (Old.push _ o')
theorem i5 : ∃ i z, Tryz.prog.info? 5 = some i ∧ i.zero = some z ∧ selfD 4 z = true ∧ i.size = 1 ∧ z.cells = #[z] ∧ i.bytes ≤ 1000 := by
  have h : (match Tryz.prog.info? 5 with | some i => (match i.zero with | some (.int k n) => decide (i.size = 1 ∧ i.bytes ≤ 1000) | _ => false) | none => false) = true := by kernel_rfl
  split at h
  · rename_i i hi
    split at h
    · rename_i k n hz
      have := of_decide_eq_true h
      exact ⟨i, _, hi, hz, rfl, this.1, rfl, this.2⟩
    · cases h
  · cases h
theorem i3 : ∃ i, Tryz.prog.info? 3 = some i ∧ i.zero = some (n64 0) ∧ i.size = 1 ∧ i.bytes ≤ 1000 := by
  have h : (match Tryz.prog.info? 3 with | some i => (match i.zero with | some (.int .i64 n) => decide (n = 0 ∧ i.size = 1 ∧ i.bytes ≤ 1000) | _ => false) | none => false) = true := by kernel_rfl
  split at h
  · rename_i i hi
    split at h
    · rename_i n hz
      have := of_decide_eq_true h
      exact ⟨i, hi, by rw [hz, this.1], this.2.1, this.2.2⟩
    · cases h
  · cases h
theorem u227 : Tryz.prog.underlying 227 = some (.slice 5) := by kernel_rfl
theorem u51 : Tryz.prog.underlying 51 = some (.slice 3) := by kernel_rfl
theorem a216 : Tryz.prog.underlying 216 = some (.array 6 3) := by kernel_rfl
theorem zeros {w : World} {n : Nat} (hn : n < 1000000) : RowE EI (World.push w (.cells (Array.replicate n (n64 0)) 3)) (.slice (some ⟨w.heap.size, 0, none⟩) n n) (List.replicate n 0) :=
  RowE.mk (c := Array.replicate n (n64 0)) (by simp [EInt]) (by
    rw [Array.toList_replicate]
    clear hn
    induction n with
    | zero => rfl
    | succ n ih => rw [List.replicate_succ, List.replicate_succ, ih]; rfl) (by simp) (by unfold OPEN; omega)
theorem run82 {K : Kont} {fuel : Nat} {w : World} : wpGFn Tryz.prog K fuel 82 h82 #[] w fun u w' => Old w w' ∧ ∃ b m, u = pt b ∧ cellsOf? w' b = some (#[mpV m], 266, (0, 0)) ∧ MapAt w' m [] ∧ w.heap.size ≤ b ∧ w.heap.size ≤ m := by
  rw [gfn_start]
  simp -implicitDefEqProofs [h82, W.e, W.mv, W.sq, W.og, fillS, Instr.fill]
  exact ⟨Old.push2 _ _ _, (MapAt.push w).keep (Old.push _ _) (fun h => h)⟩
theorem run83 {K : Kont} {fuel : Nat} {w : World} : wpGFn Tryz.prog K fuel 83 h83 #[] w fun u w' => Old w w' ∧ ∃ b m1 m2, u = pt b ∧ cellsOf? w' b = some (#[n64 0, mpV m1, mpV m2], 236, (0, 0)) ∧ MapAt w' m1 [] ∧ MapAt w' m2 [] ∧ w.heap.size ≤ b ∧ w.heap.size ≤ m1 ∧ w.heap.size ≤ m2 := by
  rw [gfn_start]
  simp -implicitDefEqProofs [h83, W.e, W.mv, W.sq, W.og, fillS, Instr.fill]
  refine ⟨(Old.push2 _ _ _).trans (Old.push _ _), w.heap.size, w.heap.size + 1, ⟨rfl, rfl⟩, ((MapAt.push w).keep (Old.push _ _) (fun h => h)).keep (Old.push _ _) (fun h => h), ?_, by omega, by omega, by omega⟩
  have := (MapAt.push (World.push w (.map #[] 0))).keep (Old.push _ (.cells #[.int .i64 0, .map (some w.heap.size), .map (some (w.heap.size + 1))] 236)) (fun h => h)
  simpa using this
theorem run84 {K : Kont} {fuel : Nat} {w : World} : wpGFn Tryz.prog K fuel 84 h84 #[] w fun u w' => Old w w' ∧ ∃ b, u = pt b ∧ cellsOf? w' b = some (#[nilS], 268, (0, 0)) ∧ w.heap.size ≤ b := by
  rw [gfn_start]
  simp -implicitDefEqProofs [h84, W.e, W.mv, W.sq, W.og, fillS, Instr.fill]
  exact Old.push _ _
theorem run85 {K : Kont} {fuel : Nat} {w : World} : wpGFn Tryz.prog K fuel 85 h85 #[] w fun u w' => Old w w' ∧ ∃ b, u = pt b ∧ cellsOf? w' b = some (#[nilS, nilS], 270, (0, 0)) ∧ w.heap.size ≤ b := by
  rw [gfn_start]
  simp -implicitDefEqProofs [h85, W.e, W.mv, W.sq, W.og, fillS, Instr.fill]
  exact Old.push _ _
theorem run86 {K : Kont} {fuel : Nat} {w : World} : wpGFn Tryz.prog K fuel 86 h86 #[] w fun u w' => Old w w' ∧ ∃ b, u = pt b ∧ w.heap.size ≤ b := by
  rw [gfn_start]
  simp -implicitDefEqProofs [h86, W.e, W.mv, W.sq, W.og, fillS, Instr.fill]
  exact Old.push _ _
theorem run168 {K : Kont} {fuel : Nat} {w : World} (n : Int) : wpGFn Tryz.prog K fuel 168 h168 #[n64 n] w fun u w' => Old w w' ∧ ((n < 1 ∨ 64 < n) ∧ u = .tuple #[.pointer none, n64 2] ∨ 1 ≤ n ∧ n ≤ 64 ∧ ∃ b, u = .tuple #[pt b, n64 0] ∧ cellsOf? w' b = some (#[n64 n, nilS], 419, (0, 0)) ∧ w.heap.size ≤ b) := by
  rw [gfn_start]
  simp -implicitDefEqProofs [h168, W.e, W.mv, W.sq, W.og, W.gr, fillS, Instr.fill]
  exact ⟨fun h1 => ⟨fun h2 => ⟨Keeps.refl _ _, .inr h2⟩, fun h2 => ⟨Old.push _ _, h1, h2⟩⟩, fun h => ⟨Keeps.refl _ _, .inl h⟩⟩
theorem run166 {K : Kont} {fuel : Nat} {w : World} {n : Nat} (h8 : 8 ≤ n) (h1 : n ≤ 1024) : wpGFn Tryz.prog K fuel 166 h166 #[n64 n] w fun u w' => Old w w' ∧ ∃ b, u = .tuple #[pt b, n64 0] ∧ w.heap.size ≤ b := by
  rw [gfn_start]
  have g1 : ¬ (n : Int) < 8 := by omega
  have g2 : ¬ 1024 < (n : Int) := by omega
  have g3 : (8 : Int) ≤ n := by omega
  have g4 : (n : Int) ≤ 1024 := by omega
  have x1 : IntKind.i64.wrap ((n : Int) * 64) = ((n * 64 : Nat) : Int) := by rw [IntKind.wrap_i64]; omega
  simp -implicitDefEqProofs [h166, W.e, W.mv, W.sq, W.og, W.gr, g1, g2, x1]
  obtain ⟨i, z, hi, hz, hs, hsz, hzc, hby⟩ := i5
  refine valA_of (R := fun x => x.1 = .slice (some ⟨w.heap.size, 0, none⟩) (n * 64) (n * 64) ∧ x.2 = World.push w (.cells (Array.replicate (n * 64) z) 5)) (make_go2 (n := n * 64) u227 hi hz hs hsz hzc (by omega) (by omega) hby rfl rfl (by simp) (by simp) ⟨rfl, rfl⟩) (fun u w1 hq => ?_)
  obtain ⟨hu, hw⟩ := hq
  simp only at hu hw
  subst hu hw
  simp -implicitDefEqProofs [fillS, Instr.fill]
  exact Old.push2 _ _ _
theorem run167 {K : Kont} {fuel : Nat} {w : World} {n : Nat} (h8 : 8 ≤ n) (h1 : n ≤ 1024) : wpGFn Tryz.prog K fuel 167 h167 #[n64 n] w fun u w' => Old w w' ∧ ∃ b v, u = .tuple #[pt b, n64 0] ∧ cellsOf? w' b = some (#[v, n64 n, n64 0, n64 0, n64 0, n64 0, n64 0], 417, (0, 0)) ∧ RowE EI w' v (List.replicate n 0) ∧ w.heap.size ≤ b ∧ ∀ x, blkOf v = some x → w.heap.size ≤ x := by
  rw [gfn_start]
  have g1 : ¬ (n : Int) < 8 := by omega
  have g2 : ¬ 1024 < (n : Int) := by omega
  have g3 : (8 : Int) ≤ n := by omega
  have g4 : (n : Int) ≤ 1024 := by omega
  simp -implicitDefEqProofs [h167, W.e, W.e0, W.mv, W.sq, W.og, W.gr, W.fa, W.nn, g1, g2]
  obtain ⟨i, hi, hz, hsz, hby⟩ := i3
  refine valA_of (R := fun x => x.1 = .slice (some ⟨w.heap.size, 0, none⟩) n n ∧ x.2 = World.push w (.cells (Array.replicate n (n64 0)) 3)) (make_go2 (n := n) u51 hi hz rfl hsz rfl (by omega) (by omega) hby rfl rfl (by simp) (by simp) ⟨rfl, rfl⟩) (fun u w1 hq => ?_)
  obtain ⟨hu, hw⟩ := hq
  simp only at hu hw
  subst hu hw
  have hz0 := zeros (w := w) (n := n) (by omega)
  have ho := Old.push w (.cells (Array.replicate n (n64 0)) 3)
  have hsz1 : (World.push w (.cells (Array.replicate n (n64 0)) 3)).heap.size = w.heap.size + 1 := by simp
  generalize World.push w (.cells (Array.replicate n (n64 0)) 3) = w1 at *
  simp -implicitDefEqProofs [fillS, Instr.fill]
  rw [iarr_eq (P := Tryz.prog) (x := .tmp 18) (ix := .const (.int .i64 0)) (b := w1.heap.size) (o := 1) (i := 0) (k := .i64) a216 hi rfl rfl (by simp) (by simp) (by decide)]
  simp -implicitDefEqProofs [hsz]
  have o1 := (ho.trans (Old.push w1 (.cells #[.slice (some ⟨w.heap.size, 0, none⟩) n n, n64 0, n64 0, n64 0, n64 0, n64 0, n64 0] 417)))
  have o2 : Keeps w1 (World.set (World.push w1 (.cells #[.slice (some ⟨w.heap.size, 0, none⟩) n n, n64 0, n64 0, n64 0, n64 0, n64 0, n64 0] 417)) w1.heap.size (.cells #[.slice (some ⟨w.heap.size, 0, none⟩) n n, n64 n, n64 0, n64 0, n64 0, n64 0, n64 0] 417)) (fun _ => False) := (Old.push w1 _).set (Nat.le_refl _) _
  exact ⟨ho.trans o2, hz0.keep o2 (fun _ _ h => h), by omega⟩
theorem set_rep (n q : Nat) (h : q < n) : (List.replicate q (1 : Int) ++ List.replicate (n - q) 0).set q 1 = List.replicate (q + 1) 1 ++ List.replicate (n - (q + 1)) 0 := by
  rw [List.set_append_right _ _ (by simp), List.length_replicate, Nat.sub_self, show n - q = (n - (q + 1)) + 1 by omega, List.replicate_succ (n := n - (q + 1)), List.set_cons_zero, List.replicate_succ' (n := q), List.append_assoc]
  rfl
structure Bud (K : Kont) : Prop where
  new : ∀ (w : World) (n : Int), (K.enter 296 #[n64 n] w).all fun x => Old w x.2 ∧ ((n < 8 ∨ 1024 < n) ∧ x.1 = .tuple #[.pointer none, n64 2] ∨ 8 ≤ n ∧ n ≤ 1024 ∧ ∃ b lv l, x.1 = .tuple #[pt b, n64 0] ∧ w.heap.size ≤ b ∧ (∀ k, k < 9 → ∀ y, blkOf (lv k) = some y → w.heap.size ≤ y) ∧ Chain l 0 n.toNat ∧ l.length ≤ 12 ∧ BudAt x.2 b n n lv (ofK l))
theorem BudAt.keep {w w' : World} {F : Nat → Prop} {b : Nat} {n fr : Int} {lv : Nat → Value} {ls : Nat → List Int} (h : BudAt w b n fr lv ls) (hk : Keeps w w' F) (hb : ¬ F b) (hl : ∀ k, k < 9 → ∀ x, blkOf (lv k) = some x → ¬ F x) : BudAt w' b n fr lv ls where
  cell := by obtain ⟨cs, h1, h2⟩ := h.cell; exact ⟨cs, hk.cells h1 hb, h2⟩
  row k hk9 := (h.row k hk9).keep hk (hl k hk9)
  apart := h.apart
structure KinAt (w : World) (B : Nat) (c n : Nat) (b : Nat) (kv : Value) (lv : Nat → Value) (l : List Blk) : Prop where
  cell : cellsOf? w c = some (#[pt b, n64 n, kv], 415, (0, 0))
  bud : BudAt w b n n lv (ofK l)
  chain : Chain l 0 n
  few : l.length ≤ 12
  old : B ≤ c ∧ B ≤ b ∧ ∀ k, k < 9 → ∀ x, blkOf (lv k) = some x → B ≤ x
theorem KinAt.keep {w w' : World} {F : Nat → Prop} {B c n b : Nat} {kv : Value} {lv : Nat → Value} {l : List Blk} (h : KinAt w B c n b kv lv l) (hk : Keeps w w' F) (hF : ∀ j, B ≤ j → ¬ F j) : KinAt w' B c n b kv lv l :=
  ⟨hk.cells h.cell (hF _ h.old.1), h.bud.keep hk (hF _ h.old.2.1) (fun k hk9 x hx => hF _ (h.old.2.2 k hk9 x hx)), h.chain, h.few, h.old⟩
theorem run165 {K : Kont} {fuel : Nat} (hB : Bud K) (hf : 2000000 ≤ fuel) {w : World} (n : Int) : wpGFn Tryz.prog K fuel 165 h165 #[n64 n] w fun u w' => Old w w' ∧ ((n < 8 ∨ 1024 < n) ∧ u = .tuple #[.pointer none, n64 2] ∨ 8 ≤ n ∧ n ≤ 1024 ∧ ∃ c b kv lv l, u = .tuple #[pt c, n64 0] ∧ KinAt w' w.heap.size c n.toNat b kv lv l) := by
  rw [gfn_start]
  simp -implicitDefEqProofs [h165, W.e, W.e0, W.mv, W.sq, W.og, W.fa, W.ld, W.ex, W.nn]
  refine valA_of (hB.new w n) (fun u w1 hq => ?_)
  obtain ⟨ho, ⟨hn, hu⟩ | ⟨h8, h1024, b, lv, l, hu, hb, hlv, hch, hfew, hbud⟩⟩ := hq
  · simp only at ho hu
    subst hu
    simp -implicitDefEqProofs
    exact ⟨ho, hn⟩
  · simp only at ho hu hbud
    subst hu
    obtain ⟨N, rfl⟩ : ∃ N : Nat, n = N := ⟨n.toNat, by omega⟩
    have x1 : IntKind.i64.wrap ((N : Int) + 8) = (N : Int) + 8 := by rw [IntKind.wrap_i64]; omega
    have x2 : IntKind.i64.wrap ((N : Int) + 8 - 1) = (N : Int) + 7 := by rw [IntKind.wrap_i64]; omega
    obtain ⟨M, hM⟩ : ∃ M : Nat, M = (N + 7) / 8 := ⟨_, rfl⟩
    have x3 : IntKind.i64.wrap (((N : Int) + 7).tdiv 8) = (M : Int) := by
      rw [show ((N : Int) + 7) = ((N + 7 : Nat) : Int) by omega, Int.tdiv_eq_ediv_of_nonneg (by omega), IntKind.wrap_i64]; omega
    simp -implicitDefEqProofs [x1, x2, x3]
    obtain ⟨i, hi, hz, hsz, hby⟩ := i3
    refine valA_of (R := fun x => x.1 = .slice (some ⟨w1.heap.size, 0, none⟩) M M ∧ x.2 = World.push w1 (.cells (Array.replicate M (n64 0)) 3)) (make_go2 (n := M) u51 hi hz rfl hsz rfl (by omega) (by omega) hby rfl rfl (by simp) (by simp) ⟨rfl, rfl⟩) (fun u w2 hq => ?_)
    obtain ⟨hu, hw⟩ := hq
    simp only at hu hw
    subst hu hw
    have hz0 := zeros (w := w1) (n := M) (by omega)
    have ho1 := Old.push w1 (.cells (Array.replicate M (n64 0)) 3)
    have hszw : (World.push w1 (.cells (Array.replicate M (n64 0)) 3)).heap.size = w1.heap.size + 1 := by simp
    have hbud2 := hbud.keep ho1 (fun h => h) (fun _ _ _ _ h => h)
    generalize World.push w1 (.cells (Array.replicate M (n64 0)) 3) = w2 at *
    have hlen : ∀ a w', lenS (.slice (some a) M M) w' = .ret (.int .i64 M, w') := fun a w' => rfl
    simp -implicitDefEqProofs [fillS, Instr.fill, hlen]
    have ho2 := Old.push w2 (.cells #[pt b, n64 N, .slice (some ⟨w1.heap.size, 0, none⟩) M M] 415)
    have hc3 : cellsOf? (World.push w2 (.cells #[pt b, n64 N, .slice (some ⟨w1.heap.size, 0, none⟩) M M] 415)) w2.heap.size = some (#[pt b, n64 N, .slice (some ⟨w1.heap.size, 0, none⟩) M M], 415, (0, 0)) := by simp
    have hz1 := hz0.keep ho2 (fun _ _ h => h)
    have hbud3 := hbud2.keep ho2 (fun h => h) (fun _ _ _ _ h => h)
    generalize World.push w2 (.cells #[pt b, n64 N, .slice (some ⟨w1.heap.size, 0, none⟩) M M] 415) = w3 at *
    have h1le := ho.1
    have h3le := ho2.1
    refine loop_go (fun m ρ w' => ∃ q : Nat, m = M - q ∧ q ≤ M ∧ ρ 6 = pt w2.heap.size ∧ ρ 29 = n64 M ∧ ρ 30 = n64 q ∧ Keeps w3 w' (fun j => j = w1.heap.size) ∧ RowE EI w' (.slice (some ⟨w1.heap.size, 0, none⟩) M M) (List.replicate q 1 ++ List.replicate (M - q) 0)) ?_ (i := M) ?_ (by show M < fuel; omega)
    · rintro m ρ w4 ⟨q, rfl, hq, e6, e29, e30, hk, hr⟩
      have hc4 := hk.cells hc3 (by omega)
      by_cases h : q < M
      · obtain ⟨rb, ro, rcap, rc, hve, hrc, hrsz, hext⟩ := hr.int (i := q) (by simp; omega)
        simp only [List.length_append, List.length_replicate] at hve
        have hqM : q + (M - q) = M := by omega
        rw [hqM] at hve
        simp only [Value.slice.injEq, Option.some.injEq, Addr.mk.injEq] at hve
        obtain ⟨⟨hrb, hro, _⟩, _, hcap⟩ := hve
        subst hrb hro hcap
        have y1 : IntKind.i64.wrap ((q : Int) + 1) = (q : Int) + 1 := by rw [IntKind.wrap_i64]; omega
        simp only [Nat.zero_add] at hrsz hext
        have hrsz' : q + 1 ≤ rc.size := hrsz
        simp -implicitDefEqProofs [e6, e29, e30, h, hc4, hrc, hrsz', y1]
        have hrs := hr.set (i := q) (by simp; omega) (1 : Int) (b := w1.heap.size) (o := 0) (cap := M) (c := rc) (by simp; omega) hrc
        rw [set_rep M q h] at hrs
        simp only [EInt, Nat.mul_one, Nat.zero_add, Ideal.putCells] at hrs
        exact ⟨M - (q + 1), by omega, q + 1, rfl, by omega, by omega, hk.trans (Keeps.set _ _ _ (F := fun j => j = w1.heap.size) (fun _ => rfl)) (fun _ _ h => h) (fun _ _ h => h), hrs⟩
      · have hqe : q = M := by omega
        subst hqe
        simp -implicitDefEqProofs [e6, e29, e30]
        have hbl := cells_lt (hbud.cell.choose_spec.1)
        have hk14 : Old w1 w4 := Keeps.trans (ho1.trans ho2) hk (fun _ _ h => h) (fun j hj h => by omega)
        have hkz : Keeps w3 w4 (fun j => j = w1.heap.size) := hk
        refine ⟨ho.trans hk14, by omega, by omega, b, _, lv, l, hc4, hbud.keep hk14 (fun h => h) (fun _ _ _ _ h => h), by simpa using hch, hfew, by omega, by omega, hlv⟩
    · exact ⟨0, by simp, Nat.zero_le _, by simp, by simp, by simp, Keeps.refl _ _, by simpa using hz1⟩
end Go.Proofs.YteljibbnpheekaaGreat
namespace Go.Proofs.YteljibbnpheekaaGreat
open Go Go.Ideal
structure Parts (K : Kont) : Prop where
  kinds : ∀ (w : World) (n : Int), (K.enter 165 #[n64 n] w).all fun x => Old w x.2 ∧ ((n < 8 ∨ 1024 < n) ∧ x.1 = .tuple #[.pointer none, n64 2] ∨ 8 ≤ n ∧ n ≤ 1024 ∧ ∃ c b kv lv l, x.1 = .tuple #[pt c, n64 0] ∧ KinAt x.2 w.heap.size c n.toNat b kv lv l)
  ram : ∀ (w : World) {n : Nat}, 8 ≤ n → n ≤ 1024 → (K.enter 166 #[n64 n] w).all fun x => Old w x.2 ∧ ∃ b, x.1 = .tuple #[pt b, n64 0] ∧ w.heap.size ≤ b
  frames : ∀ (w : World) {n : Nat}, 8 ≤ n → n ≤ 1024 → (K.enter 167 #[n64 n] w).all fun x => Old w x.2 ∧ ∃ b v, x.1 = .tuple #[pt b, n64 0] ∧ cellsOf? x.2 b = some (#[v, n64 n, n64 0, n64 0, n64 0, n64 0, n64 0], 417, (0, 0)) ∧ RowE EI x.2 v (List.replicate n 0) ∧ w.heap.size ≤ b ∧ ∀ y, blkOf v = some y → w.heap.size ≤ y
  tlb : ∀ (w : World) (n : Int), (K.enter 168 #[n64 n] w).all fun x => Old w x.2 ∧ ((n < 1 ∨ 64 < n) ∧ x.1 = .tuple #[.pointer none, n64 2] ∨ 1 ≤ n ∧ n ≤ 64 ∧ ∃ b, x.1 = .tuple #[pt b, n64 0] ∧ cellsOf? x.2 b = some (#[n64 n, nilS], 419, (0, 0)) ∧ w.heap.size ≤ b)
structure MemAt (w : World) (B : Nat) (m n : Nat) (mark : Int) (r k f b : Nat) (kv fv : Value) (lv : Nat → Value) (l : List Blk) : Prop where
  cell : cellsOf? w m = some (#[pt r, pt k, pt f, n64 mark], 225, (0, 0))
  kin : KinAt w B k n b kv lv l
  fr : cellsOf? w f = some (#[fv, n64 n, n64 0, n64 0, n64 0, n64 0, n64 0], 417, (0, 0))
  is : RowE EI w fv (List.replicate n 0)
  old : B ≤ m ∧ B ≤ f ∧ ∀ y, blkOf fv = some y → B ≤ y
theorem MemAt.keep {w w' : World} {F : Nat → Prop} {B m n : Nat} {mark : Int} {r k f b : Nat} {kv fv : Value} {lv : Nat → Value} {l : List Blk} (h : MemAt w B m n mark r k f b kv fv lv l) (hk : Keeps w w' F) (hF : ∀ j, B ≤ j → ¬ F j) : MemAt w' B m n mark r k f b kv fv lv l :=
  ⟨hk.cells h.cell (hF _ h.old.1), h.kin.keep hk hF, hk.cells h.fr (hF _ h.old.2.1), h.is.keep hk (fun y hy => hF _ (h.old.2.2 y hy)), h.old⟩
theorem KinAt.less {w : World} {B B' c n b : Nat} {kv : Value} {lv : Nat → Value} {l : List Blk} (h : KinAt w B c n b kv lv l) (hB : B' ≤ B) : KinAt w B' c n b kv lv l :=
  ⟨h.cell, h.bud, h.chain, h.few, Nat.le_trans hB h.old.1, Nat.le_trans hB h.old.2.1, fun k hk x hx => Nat.le_trans hB (h.old.2.2 k hk x hx)⟩
def MemOk (n mark : Int) : Prop := 8 ≤ n ∧ n ≤ 1024 ∧ 0 ≤ mark ∧ mark ≤ n
theorem run79 {K : Kont} {fuel : Nat} (hP : Parts K) {w : World} (n mark : Int) : wpGFn Tryz.prog K fuel 79 h79 #[n64 n, n64 mark] w fun u w' => Old w w' ∧ (¬ MemOk n mark ∧ u = .tuple #[.pointer none, n64 2] ∨ MemOk n mark ∧ ∃ m r k f b kv fv lv l, u = .tuple #[pt m, n64 0] ∧ MemAt w' w.heap.size m n.toNat mark r k f b kv fv lv l) := by
  rw [gfn_start]
  simp -implicitDefEqProofs [h79, W.e, W.e0, W.mv, W.sq, W.og, W.gr, W.fa, W.ex, W.nn]
  refine valA_of (hP.kinds w n) (fun u w1 hq => ?_)
  obtain ⟨ho, ⟨hn, hu⟩ | ⟨h8, h1024, c, b, kv, lv, l, hu, hkin⟩⟩ := hq
  · simp only at ho hu
    subst hu
    simp -implicitDefEqProofs
    exact ⟨ho, fun h => by have := h.1; have := h.2.1; omega⟩
  · simp only at ho hu hkin
    subst hu
    obtain ⟨N, rfl⟩ : ∃ N : Nat, n = N := ⟨n.toNat, by omega⟩
    by_cases h1 : mark < 0
    · simp -implicitDefEqProofs [h1]
      exact ⟨ho, fun h => by have := h.2.2.1; omega⟩
    · by_cases h2 : (N : Int) < mark
      · simp -implicitDefEqProofs [h1, h2]
        exact ⟨ho, fun h => by have := h.2.2.2; omega⟩
      · simp -implicitDefEqProofs [h1, h2, fillS, Instr.fill]
        have o2 := Old.push w1 (.cells #[.pointer none, pt c, .pointer none, n64 mark] 225)
        have hc2 : cellsOf? (World.push w1 (.cells #[.pointer none, pt c, .pointer none, n64 mark] 225)) w1.heap.size = some (#[.pointer none, pt c, .pointer none, n64 mark], 225, (0, 0)) := by simp
        have hs2 : (World.push w1 (.cells #[.pointer none, pt c, .pointer none, n64 mark] 225)).heap.size = w1.heap.size + 1 := by simp
        generalize World.push w1 (.cells #[.pointer none, pt c, .pointer none, n64 mark] 225) = w2 at *
        refine valA_of (hP.ram w2 (n := N) (by omega) (by omega)) (fun u w3 hq => ?_)
        obtain ⟨o3, r, hu, hr⟩ := hq
        simp only at o3 hu
        subst hu
        have hc3 := o3.cells hc2 (fun h => h)
        simp -implicitDefEqProofs [hc3]
        have o4 : Keeps w3 (World.set w3 w1.heap.size (.cells #[pt r, pt c, .pointer none, n64 mark] 225)) (fun j => j = w1.heap.size) := Keeps.set _ _ _ (fun _ => rfl)
        have hc4 : cellsOf? (World.set w3 w1.heap.size (.cells #[pt r, pt c, .pointer none, n64 mark] 225)) w1.heap.size = some (#[pt r, pt c, .pointer none, n64 mark], 225, (0, 0)) := by rw [cells_set, if_pos ⟨rfl, cells_lt hc3⟩]
        generalize World.set w3 w1.heap.size (.cells #[pt r, pt c, .pointer none, n64 mark] 225) = w4 at *
        have b1 := o2.1
        have b2 := o3.1
        have b3 := o4.1
        refine valA_of (hP.frames w4 (n := N) (by omega) (by omega)) (fun u w5 hq => ?_)
        obtain ⟨o5, f, fv, hu, hf5, hrow, hfb, hfv⟩ := hq
        simp only at o5 hu hf5 hrow
        subst hu
        have hc5 := o5.cells hc4 (fun h => h)
        simp -implicitDefEqProofs [hc5]
        have o6 : Keeps w5 (World.set w5 w1.heap.size (.cells #[pt r, pt c, pt f, n64 mark] 225)) (fun j => j = w1.heap.size) := Keeps.set _ _ _ (fun _ => rfl)
        have hc6 : cellsOf? (World.set w5 w1.heap.size (.cells #[pt r, pt c, pt f, n64 mark] 225)) w1.heap.size = some (#[pt r, pt c, pt f, n64 mark], 225, (0, 0)) := by rw [cells_set, if_pos ⟨rfl, cells_lt hc5⟩]
        generalize World.set w5 w1.heap.size (.cells #[pt r, pt c, pt f, n64 mark] 225) = w6 at *
        have b4 := ho.1
        have o16 : Old w1 w6 := Keeps.trans (Keeps.trans (Keeps.trans (Old.trans o2 o3) o4 (H := fun j => j = w1.heap.size) (fun _ _ h => h.elim) (fun _ _ h => h)) o5 (H := fun j => j = w1.heap.size) (fun _ _ h => h) (fun _ _ h => h.elim)) o6 (fun j hj h => by omega) (fun j hj h => by omega)
        refine ⟨ho.trans o16, ⟨by omega, by omega, by omega, by omega⟩, r, c, f, b, kv, fv, lv, l, hc6, ?_, o6.cells hf5 (by omega), hrow.keep o6 (fun y hy => by have := hfv y hy; omega), by omega, by omega, fun y hy => by have := hfv y hy; omega⟩
        simpa using hkin.keep o16 (fun _ _ h => h)
abbrev EP (te : TypeId) : En Nat := ⟨1, te, fun b => [pt b], fun _ => rfl, fun _ v hv => by simp at hv; subst hv; rfl, Nat.one_pos⟩
structure CpuN (w : World) (B : Nat) (b k : Nat) (lines : Int) (cv : Value) (ps : List Nat) (sm : Nat) : Prop where
  cell : cellsOf? w b = some (#[cv, mpV sm], 257, (0, 0))
  row : RowE (EP 261) w cv ps
  len : ps.length = k
  each : ∀ p ∈ ps, B ≤ p ∧ ∃ t s, cellsOf? w p = some (#[pt t, mpV s], 263, (0, 0)) ∧ cellsOf? w t = some (#[n64 lines, nilS], 419, (0, 0)) ∧ MapAt w s [] ∧ B ≤ t ∧ B ≤ s
  map : MapAt w sm []
  old : B ≤ b ∧ B ≤ sm ∧ ∀ y, blkOf cv = some y → B ≤ y
theorem CpuN.keep {w w' : World} {F : Nat → Prop} {B b k : Nat} {lines : Int} {cv : Value} {ps : List Nat} {sm : Nat} (h : CpuN w B b k lines cv ps sm) (hk : Keeps w w' F) (hF : ∀ j, B ≤ j → ¬ F j) : CpuN w' B b k lines cv ps sm :=
  ⟨hk.cells h.cell (hF _ h.old.1), h.row.keep hk (fun y hy => hF _ (h.old.2.2 y hy)), h.len, fun p hp => by
    obtain ⟨h1, t, s, h2, h3, h4, h5, h6⟩ := h.each p hp
    exact ⟨h1, t, s, hk.cells h2 (hF _ h1), hk.cells h3 (hF _ h5), h4.keep hk (hF _ h6), h5, h6⟩, h.map.keep hk (hF _ h.old.2.1), h.old⟩
theorem rowP (te : TypeId) (b : Nat) (w : World) : rowS te 1 1 #[.pointer none] [(0, .pointer (some ⟨b, 0, none⟩))] w = .ret (.slice (some ⟨w.heap.size, 0, none⟩) 1 1, World.push w (.cells #[pt b] te)) := rfl
theorem src_ptr {te : TypeId} {w : World} {r b : Nat} (h : cellsOf? w r = some (#[pt b], te, (0, 0))) : SrcE (EP te) w (.slice (some ⟨r, 0, none⟩) 1 1) [b] := (RowE.mk (E := EP te) (c := #[pt b]) (xs := [b]) h rfl rfl (by simp [OPEN])).src
def CpuOk (n lines : Int) : Prop := 1 ≤ n ∧ n ≤ 8 ∧ 1 ≤ lines ∧ lines ≤ 64
theorem run80 {K : Kont} {fuel : Nat} (hP : Parts K) (hf : 1000 ≤ fuel) {w : World} (n lines : Int) : wpGFn Tryz.prog K fuel 80 h80 #[n64 n, n64 lines] w fun u w' => Old w w' ∧ (¬ CpuOk n lines ∧ u = .tuple #[.pointer none, n64 2] ∨ CpuOk n lines ∧ ∃ b cv ps sm, u = .tuple #[pt b, n64 0] ∧ CpuN w' w.heap.size b n.toNat lines cv ps sm) := by
  rw [gfn_start]
  simp -implicitDefEqProofs [h80, W.e, W.e0, W.mv, W.sq, W.og, W.gr, W.fa, W.ld, W.ex, W.nn, fillS, Instr.fill]
  refine ⟨fun h1 => ⟨fun h2 => ⟨Keeps.refl _ _, fun h => by have := h.2.1; omega⟩, fun h2 => ?_⟩, fun h => ⟨Keeps.refl _ _, fun h' => by have := h'.1; omega⟩⟩
  obtain ⟨N, rfl⟩ : ∃ N : Nat, n = N := ⟨n.toNat, by omega⟩
  have o1 := Old.push2 w (.map #[] 0) (.cells #[.slice none 0 0, mpV w.heap.size] 257)
  have hm1 := (MapAt.push w).keep (Old.push (World.push w (.map #[] 0)) (.cells #[.slice none 0 0, mpV w.heap.size] 257)) (fun h => h)
  have hc1 : cellsOf? (World.push (World.push w (.map #[] 0)) (.cells #[.slice none 0 0, mpV w.heap.size] 257)) (w.heap.size + 1) = some (#[.slice none 0 0, mpV w.heap.size], 257, (0, 0)) := by simp
  generalize World.push (World.push w (.map #[] 0)) (.cells #[.slice none 0 0, mpV w.heap.size] 257) = w1 at *
  refine loop_go (fun m ρ w' => ∃ (q : Nat) (cv : Value) (ps : List Nat), m = N - q ∧ q ≤ N ∧ (q = 0 ∨ 1 ≤ lines ∧ lines ≤ 64) ∧ ρ 1 = n64 lines ∧ ρ 6 = pt (w.heap.size + 1) ∧ ρ 18 = n64 N ∧ ρ 19 = n64 q ∧ Old w w' ∧ CpuN w' w.heap.size (w.heap.size + 1) q lines cv ps w.heap.size) ?_ (i := N) ?_ (by show N < fuel; omega)
  · rintro m ρ w2 ⟨q, cv, ps, rfl, hq, hql, e1, e6, e18, e19, ho, hcp⟩
    by_cases h : q < N
    · simp -implicitDefEqProofs [e1, e18, e19, h]
      refine valA_of (hP.tlb w2 lines) (fun u w3 hq3 => ?_)
      obtain ⟨o3, ⟨hn, hu⟩ | ⟨hl1, hl2, t, hu, ht, htb⟩⟩ := hq3
      · simp only at o3 hu
        subst hu
        simp -implicitDefEqProofs
        exact ⟨ho.trans o3, fun h => by have := h.2.2; omega⟩
      · simp only at o3 hu ht
        subst hu
        have hcp3 := hcp.keep o3 (fun _ _ h => h)
        have hcell := hcp3.cell
        simp -implicitDefEqProofs [e6, hcell, fillS, Instr.fill, rowP]
        have o4 := (Old.push2 w3 (.map #[] 0) (.cells #[pt t, mpV w3.heap.size] 263)).trans (Old.push _ (.cells #[pt (w3.heap.size + 1)] 261))
        have hm4 := ((MapAt.push w3).keep (Old.push (World.push w3 (.map #[] 0)) (.cells #[pt t, mpV w3.heap.size] 263)) (fun h => h)).keep (Old.push _ (.cells #[pt (w3.heap.size + 1)] 261)) (fun h => h)
        have hp4 : cellsOf? (World.push (World.push (World.push w3 (.map #[] 0)) (.cells #[pt t, mpV w3.heap.size] 263)) (.cells #[pt (w3.heap.size + 1)] 261)) (w3.heap.size + 1) = some (#[pt t, mpV w3.heap.size], 263, (0, 0)) := by simp
        have hr4 : cellsOf? (World.push (World.push (World.push w3 (.map #[] 0)) (.cells #[pt t, mpV w3.heap.size] 263)) (.cells #[pt (w3.heap.size + 1)] 261)) (w3.heap.size + 1 + 1) = some (#[pt (w3.heap.size + 1)], 261, (0, 0)) := by simp
        have hcp4 := hcp3.keep o4 (fun _ _ h => h)
        have ht4 := o4.cells ht (fun h => h)
        generalize World.push (World.push (World.push w3 (.map #[] 0)) (.cells #[pt t, mpV w3.heap.size] 263)) (.cells #[pt (w3.heap.size + 1)] 261) = w4 at *
        have hlen := hcp4.len
        refine appE (E := EP 261) (by_ := 8) hcp4.row (src_ptr hr4) (by simp; omega) (by decide) (fun v5 w5 hr5 hk5 _ hb5 => ?_)
        have hcvb : ∀ y, blkOf cv = some y → y ≠ w.heap.size + 1 ∧ ∀ te c, cellsOf? w4 y = some (c, te, (0, 0)) → te = 261 := fun y hy => by
          obtain ⟨c, hc⟩ := rowTag hcp4.row hy
          refine ⟨fun he => ?_, fun te c' h' => ?_⟩
          · subst he; rw [hcp4.cell] at hc; simp at hc
          · rw [hc] at h'; simp at h'; exact h'.2.symm
        have hcell5 := hk5.cells hcp4.cell (fun hh => (hcvb _ hh).1 rfl)
        have hu1 := hr5.one
        have hu2 := hr5.cells1
        simp -implicitDefEqProofs [e1, e6, e18, e19, hcell5, hu1, hu2]
        have c1 : IntKind.i64.wrap ((q : Int) + 1) = ((q + 1 : Nat) : Int) := by rw [IntKind.wrap_i64]; omega
        have k6 : Keeps w5 (World.set w5 (w.heap.size + 1) (.cells #[v5, mpV w.heap.size] 257)) (fun j => j = w.heap.size + 1) := Keeps.set _ _ _ (fun _ => rfl)
        have hc6 : cellsOf? (World.set w5 (w.heap.size + 1) (.cells #[v5, mpV w.heap.size] 257)) (w.heap.size + 1) = some (#[v5, mpV w.heap.size], 257, (0, 0)) := by rw [cells_set, if_pos ⟨rfl, cells_lt hcell5⟩]
        generalize World.set w5 (w.heap.size + 1) (.cells #[v5, mpV w.heap.size] 257) = w6 at *
        have k46 : Keeps w4 w6 (fun j => blkOf cv = some j ∨ j = w.heap.size + 1) := Keeps.trans hk5 k6 (fun _ _ h => .inl h) (fun _ _ h => .inr h)
        have z2 := ho.1
        have z3 := o3.1
        have z4 := o4.1
        have z0 := cells_lt hcp.cell
        have hvn : ∀ y, blkOf v5 = some y → y = w4.heap.size := fun y hy => by rw [hb5 (by simp)] at hy; exact (Option.some.inj hy).symm
        have no : ∀ {b : Nat} {cs : Array Value} {te : Nat}, cellsOf? w4 b = some (cs, te, (0, 0)) → te ≠ 261 → te ≠ 257 → ¬ (blkOf cv = some b ∨ b = w.heap.size + 1) := fun hb h1 h2 hh => by
          rcases hh with hh | rfl
          · exact h1 ((hcvb _ hh).2 _ _ hb)
          · rw [hcp4.cell] at hb; simp at hb; exact h2 hb.2.symm
        have noM : ∀ {b : Nat} {ms : MapL}, MapAt w4 b ms → ¬ (blkOf cv = some b ∨ b = w.heap.size + 1) := fun hb hh => by
          have hn := hb.nocells
          rcases hh with hh | rfl
          · obtain ⟨c, hc⟩ := rowTag hcp4.row hh
            rw [hn] at hc; cases hc
          · rw [hcp4.cell] at hn; cases hn
        refine ⟨N - (q + 1), by omega, q + 1, rfl, by omega, .inr ⟨hl1, hl2⟩, c1, ?_, v5, ps ++ [w3.heap.size + 1], hc6, hr5.keep k6 (fun y hy => by have := hvn y hy; omega), by simp [hlen], fun p hp => ?_, hcp4.map.keep k46 (noM hcp4.map), by omega, by omega, fun y hy => by have := hvn y hy; omega⟩
        · exact Keeps.trans ((ho.trans o3).trans o4) k46 (fun _ _ h => h) (fun j hj h => by
            rcases h with h | rfl
            · have := hcp4.old.2.2 j h; omega
            · omega)
        · rw [List.mem_append, List.mem_singleton] at hp
          rcases hp with hp | rfl
          · obtain ⟨g1, t', s', g2, g3, g4, g5, g6⟩ := hcp4.each p hp
            exact ⟨g1, t', s', k46.cells g2 (no g2 (by decide) (by decide)), k46.cells g3 (no g3 (by decide) (by decide)), g4.keep k46 (noM g4), g5, g6⟩
          · exact ⟨by omega, t, w3.heap.size, k46.cells hp4 (no hp4 (by decide) (by decide)), k46.cells ht4 (no ht4 (by decide) (by decide)), hm4.keep k46 (noM hm4), by omega, by omega⟩
    · have hqe : q = N := by omega
      subst hqe
      simp -implicitDefEqProofs [e6, e18, e19]
      exact ⟨ho, ⟨by omega, by omega, by omega, by omega⟩, _, _, _, hcp⟩
  · exact ⟨0, .slice none 0 0, [], rfl, Nat.zero_le _, .inl rfl, by simp, by simp, by simp, by simp, o1, ⟨hc1, RowE.nil _, rfl, (fun p hp => by cases hp), hm1, by omega, Nat.le_refl _, (fun y hy => by cases hy)⟩⟩
def PoolOk (k n : Int) : Prop := (k = 3 ∨ k = 6) ∧ 0 ≤ n ∧ n ≤ 64
theorem run81 {K : Kont} {fuel : Nat} {w : World} (k n : Int) : wpGFn Tryz.prog K fuel 81 h81 #[n64 k, n64 n] w fun u w' => Old w w' ∧ (¬ PoolOk k n ∧ u = .tuple #[.pointer none, n64 2] ∨ PoolOk k n ∧ ∃ b m, u = .tuple #[pt b, n64 0] ∧ cellsOf? w' b = some (#[n64 k, n64 n, mpV m, n64 0, n64 0], 239, (0, 0)) ∧ MapAt w' m [] ∧ w.heap.size ≤ b ∧ w.heap.size ≤ m) := by
  rw [gfn_start]
  have h3 : (3 : Int) ≠ 6 := by decide
  by_cases hk : k = 3 ∨ k = 6
  · by_cases h0 : n < 0
    · rcases hk with rfl | rfl
      · simp -implicitDefEqProofs [h81, W.e, W.mv, W.sq, W.og, W.gr, h0]
        exact ⟨Keeps.refl _ _, fun h => by have := h.2.1; omega⟩
      · simp -implicitDefEqProofs [h81, W.e, W.mv, W.sq, W.og, W.gr, h0]
        exact ⟨Keeps.refl _ _, fun h => by have := h.2.1; omega⟩
    · by_cases h1 : 64 < n
      · rcases hk with rfl | rfl
        · simp -implicitDefEqProofs [h81, W.e, W.mv, W.sq, W.og, W.gr, h0, h1]
          exact ⟨Keeps.refl _ _, fun h => by have := h.2.2; omega⟩
        · simp -implicitDefEqProofs [h81, W.e, W.mv, W.sq, W.og, W.gr, h0, h1]
          exact ⟨Keeps.refl _ _, fun h => by have := h.2.2; omega⟩
      · have hok : PoolOk k n := ⟨hk, by omega, by omega⟩
        have fin : Old w (World.push (World.push w (.map #[] 0)) (.cells #[n64 k, n64 n, mpV w.heap.size, n64 0, n64 0] 239)) ∧ MapAt (World.push (World.push w (.map #[] 0)) (.cells #[n64 k, n64 n, mpV w.heap.size, n64 0, n64 0] 239)) w.heap.size [] := ⟨Old.push2 _ _ _, (MapAt.push w).keep (Old.push _ _) (fun h => h)⟩
        rcases hk with rfl | rfl
        · simp -implicitDefEqProofs [h81, W.e, W.mv, W.sq, W.og, W.gr, fillS, Instr.fill, h0, h1]
          exact ⟨fin.1, hok, fin.2⟩
        · simp -implicitDefEqProofs [h81, W.e, W.mv, W.sq, W.og, W.gr, fillS, Instr.fill, h0, h1]
          exact ⟨fin.1, hok, fin.2⟩
  · have g1 : ¬ k = 3 := fun h => hk (.inl h)
    have g2 : ¬ k = 6 := fun h => hk (.inr h)
    simp -implicitDefEqProofs [h81, W.e, W.mv, W.sq, W.og, W.gr, g1, g2]
    exact ⟨Keeps.refl _ _, fun h => hk h.1⟩
theorem nil129 {o1 o2 : Operand} {p : Option Addr} {w : World} : binS Tryz.prog .eql 129 o1 o2 (.pointer p) (.pointer none) w = .ret (.bool p.isNone, w) := nilEq (by kernel_rfl) (by kernel_rfl)
theorem nil128 {o1 o2 : Operand} {p : Option Addr} {w : World} : binS Tryz.prog .eql 128 o1 o2 (.pointer p) (.pointer none) w = .ret (.bool p.isNone, w) := nilEq (by kernel_rfl) (by kernel_rfl)
theorem nilI {P : Program} {t : TypeId} {ms : Array (String × TypeId)} {o1 o2 : Operand} {u : TypeId} {v : Value} {w : World} (hu : P.underlying t = some (.interface ms)) (hb : binFit P .eql t (.iface u v) .nilIface = true) : binS P .eql t o1 o2 (.iface u v) .nilIface w = .ret (.bool false, w) := by
  unfold binS
  simp only [hb, if_true]
  rw [eqGuard_none _ _ _ _ _ _ (fun _ h => by cases h) (fun h => by cases h)]
  have h1 : (binOp .eql t (.iface u v) .nilIface).run P w = .ok (.bool false) w := by
    have := run_nilEq hu (x := .iface u v) (y := .nilIface) (.inl ⟨u, v, rfl, rfl⟩) w
    simp only [binOp, Sem.run_bind, this, Result.andThen, Sem.run_pure]
  simp only [Sem.run_bind, Sem.run_pure, Result.andThen, h1, ofRun]
theorem run70 {K : Kont} {fuel : Nat} {w : World} {m : Nat} {r k f : Nat} {mark : Int} (hm : cellsOf? w m = some (#[pt r, pt k, pt f, n64 mark], 225, (0, 0))) : wpGFn Tryz.prog K fuel 70 h70 #[pt m] w fun u w' => u = pt r ∧ w' = w := by
  rw [gfn_start]
  simp -implicitDefEqProofs [h70, W.e, W.mv, W.sq, W.og, W.fa, W.ld, W.nn, hm, nil129]
theorem run88 {K : Kont} {fuel : Nat} {w : World} : wpGFn Tryz.prog K fuel 88 h88 #[n64 16] w fun u w' => Old w w' ∧ ∃ b, u = .tuple #[pt b, n64 0] ∧ w.heap.size ≤ b := by
  rw [gfn_start]
  simp -implicitDefEqProofs [h88, W.e, W.mv, W.sq, W.og, W.gr, fillS, Instr.fill]
  exact Old.push _ _
theorem run89 {K : Kont} {fuel : Nat} {w : World} : wpGFn Tryz.prog K fuel 89 h89 #[n64 8] w fun u w' => Old w w' ∧ ∃ b, u = .tuple #[pt b, n64 0] ∧ cellsOf? w' b = some (#[n64 8, nilS], 282, (0, 0)) ∧ w.heap.size ≤ b := by
  rw [gfn_start]
  simp -implicitDefEqProofs [h89, W.e, W.mv, W.sq, W.og, W.gr, fillS, Instr.fill]
  exact Old.push _ _
theorem u275 : ∃ ms, Tryz.prog.underlying 275 = some (.interface ms) := by
  have h : (match Tryz.prog.underlying 275 with | some (.interface ms) => true | _ => false) = true := by kernel_rfl
  split at h
  · rename_i ms hm; exact ⟨ms, hm⟩
  · cases h
theorem nil275 {o1 o2 : Operand} {u : TypeId} {v : Value} {w : World} : binS Tryz.prog .eql 275 o1 o2 (.iface u v) .nilIface w = .ret (.bool false, w) := by
  obtain ⟨ms, h⟩ := u275
  exact nilI h rfl
theorem run87 {K : Kont} {fuel : Nat} {w : World} {r : Nat} {t : Nat} {v : Value} : wpGFn Tryz.prog K fuel 87 h87 #[pt r, .iface t v] w fun u w' => Old w w' ∧ ∃ b, u = .tuple #[pt b, n64 0] ∧ w.heap.size ≤ b := by
  rw [gfn_start]
  simp -implicitDefEqProofs [h87, W.e, W.mv, W.sq, W.og, W.gr, nil128, nil275]
  have hfill : ∀ m w, fillS #[(0, 1), (1, 1), (2, 1)] #[.pointer none, .nilIface, .map none] [(0, pt r), (1, .iface t v), (2, mpV m)] w = .ret (.agg #[pt r, .iface t v, mpV m], w) := fun m w => rfl
  rw [hfill]
  simp -implicitDefEqProofs
  exact (Old.push2 _ _ _)
end Go.Proofs.YteljibbnpheekaaGreat
namespace Go.Proofs.YteljibbnpheekaaGreat
open Go Go.Ideal
theorem iface_eq {P : Program} {K : Kont} {ρ : Regs} {w : World} {t : TypeId} {x : Operand} {ty : TypeId} (hc : constFit x = true) (hp : plainTy P t = true) : sone P K ρ w (.raw (.makeInterface t x) ty) = .ret (.iface t (ρ x), w) := by
  have hops : ((Op.makeInterface t x).operands.all constFit) = true := by simp [Op.operands, hc]
  unfold plainTy at hp
  cases hu : P.underlying t with
  | none => rw [hu] at hp; cases hp
  | some d =>
    rw [hu] at hp
    have hrun : (execOp ρ { dst := none, op := .makeInterface t x, type := ty, pos := "", after := #[], guard := none }).run P w = .ok (.value (.iface t (ρ x))) w := by
      simp only [execOp, Instr.makeInterface, Sem.run_bind, run_underlying' hu, Result.andThen]
      cases d <;> first | (cases hp; done) | rfl
    simp only [sone, pstep, istep, hops, if_true, hrun, ofRun, pval, T.bind]
theorem plain163 : plainTy Tryz.prog 163 = true := by kernel_rfl
structure Big (K : Kont) : Prop where
  mem : ∀ (w : World) (n mark : Int), (K.enter 79 #[n64 n, n64 mark] w).all fun x => Old w x.2 ∧ (¬ MemOk n mark ∧ x.1 = .tuple #[.pointer none, n64 2] ∨ MemOk n mark ∧ ∃ m r k f b kv fv lv l, x.1 = .tuple #[pt m, n64 0] ∧ MemAt x.2 w.heap.size m n.toNat mark r k f b kv fv lv l)
  cpus : ∀ (w : World) (n lines : Int), (K.enter 80 #[n64 n, n64 lines] w).all fun x => Old w x.2 ∧ (¬ CpuOk n lines ∧ x.1 = .tuple #[.pointer none, n64 2] ∨ CpuOk n lines ∧ ∃ b cv ps sm, x.1 = .tuple #[pt b, n64 0] ∧ CpuN x.2 w.heap.size b n.toNat lines cv ps sm)
  pool : ∀ (w : World) (k n : Int), (K.enter 81 #[n64 k, n64 n] w).all fun x => Old w x.2 ∧ (¬ PoolOk k n ∧ x.1 = .tuple #[.pointer none, n64 2] ∨ PoolOk k n ∧ ∃ b m, x.1 = .tuple #[pt b, n64 0] ∧ cellsOf? x.2 b = some (#[n64 k, n64 n, mpV m, n64 0, n64 0], 239, (0, 0)) ∧ MapAt x.2 m [] ∧ w.heap.size ≤ b ∧ w.heap.size ≤ m)
  rmap : ∀ (w : World), (K.enter 82 #[] w).all fun x => Old w x.2 ∧ ∃ b m, x.1 = pt b ∧ cellsOf? x.2 b = some (#[mpV m], 266, (0, 0)) ∧ MapAt x.2 m [] ∧ w.heap.size ≤ b ∧ w.heap.size ≤ m
  obj : ∀ (w : World), (K.enter 83 #[] w).all fun x => Old w x.2 ∧ ∃ b m1 m2, x.1 = pt b ∧ cellsOf? x.2 b = some (#[n64 0, mpV m1, mpV m2], 236, (0, 0)) ∧ MapAt x.2 m1 [] ∧ MapAt x.2 m2 [] ∧ w.heap.size ≤ b ∧ w.heap.size ≤ m1 ∧ w.heap.size ≤ m2
  resv : ∀ (w : World), (K.enter 84 #[] w).all fun x => Old w x.2 ∧ ∃ b, x.1 = pt b ∧ cellsOf? x.2 b = some (#[nilS], 268, (0, 0)) ∧ w.heap.size ≤ b
  comp : ∀ (w : World), (K.enter 85 #[] w).all fun x => Old w x.2 ∧ ∃ b, x.1 = pt b ∧ cellsOf? x.2 b = some (#[nilS, nilS], 270, (0, 0)) ∧ w.heap.size ≤ b
  clock : ∀ (w : World), (K.enter 86 #[] w).all fun x => Old w x.2 ∧ ∃ b, x.1 = pt b ∧ w.heap.size ≤ b
  ram : ∀ {w : World} {m r k f : Nat} {mark : Int}, cellsOf? w m = some (#[pt r, pt k, pt f, n64 mark], 225, (0, 0)) → (K.enter 70 #[pt m] w).all fun x => x.1 = pt r ∧ x.2 = w
  table : ∀ (w : World) (r t : Nat) (v : Value), (K.enter 87 #[pt r, .iface t v] w).all fun x => Old w x.2 ∧ ∃ b, x.1 = .tuple #[pt b, n64 0] ∧ w.heap.size ≤ b
  gather : ∀ (w : World), (K.enter 88 #[n64 16] w).all fun x => Old w x.2 ∧ ∃ b, x.1 = .tuple #[pt b, n64 0] ∧ w.heap.size ≤ b
  moving : ∀ (w : World), (K.enter 89 #[n64 8] w).all fun x => Old w x.2 ∧ ∃ b, x.1 = .tuple #[pt b, n64 0] ∧ cellsOf? x.2 b = some (#[n64 8, nilS], 282, (0, 0)) ∧ w.heap.size ≤ b
theorem MemAt.less {w : World} {B B' m n : Nat} {mark : Int} {r k f b : Nat} {kv fv : Value} {lv : Nat → Value} {l : List Blk} (h : MemAt w B m n mark r k f b kv fv lv l) (hB : B' ≤ B) : MemAt w B' m n mark r k f b kv fv lv l :=
  ⟨h.cell, h.kin.less hB, h.fr, h.is, Nat.le_trans hB h.old.1, Nat.le_trans hB h.old.2.1, fun y hy => Nat.le_trans hB (h.old.2.2 y hy)⟩
theorem CpuN.less {w : World} {B B' b k : Nat} {lines : Int} {cv : Value} {ps : List Nat} {sm : Nat} (h : CpuN w B b k lines cv ps sm) (hB : B' ≤ B) : CpuN w B' b k lines cv ps sm :=
  ⟨h.cell, h.row, h.len, fun p hp => by
    obtain ⟨h1, t, s, h2, h3, h4, h5, h6⟩ := h.each p hp
    exact ⟨Nat.le_trans hB h1, t, s, h2, h3, h4, Nat.le_trans hB h5, Nat.le_trans hB h6⟩, h.map, Nat.le_trans hB h.old.1, Nat.le_trans hB h.old.2.1, fun y hy => Nat.le_trans hB (h.old.2.2 y hy)⟩
structure Sup where
  frames : Int
  mark : Int
  lines : Int
  cpus : Int
  surplus : Int
def Sup.v (u : Sup) : Value := .agg #[n64 u.frames, n64 u.mark, n64 u.lines, n64 u.cpus, n64 u.surplus]
def Sup.ok (u : Sup) : Prop := MemOk u.frames u.mark ∧ CpuOk u.cpus u.lines ∧ 0 ≤ u.surplus ∧ u.surplus ≤ 64
structure Fresh (w : World) (B : Nat) (x : Nat) (u : Sup) : Prop where
  cell : ∃ m t b g r o v c k wv pools bigs, cellsOf? w x = some (#[n64 u.frames, pt m, pt t, pt b, pt g, pt r, pt o, pt v, pt c, pt k, pt wv, mpV pools, mpV bigs, nilS, n64 0, n64 0], 143, (0, 0)) ∧
    (∃ r' k' f' b' kv fv lv l, MemAt w B m u.frames.toNat u.mark r' k' f' b' kv fv lv l) ∧ (∃ cv ps sm, CpuN w B b u.cpus.toNat u.lines cv ps sm) ∧
    (∃ m1, cellsOf? w r = some (#[mpV m1], 266, (0, 0)) ∧ MapAt w m1 [] ∧ B ≤ r ∧ B ≤ m1) ∧ (∃ m1 m2, cellsOf? w o = some (#[n64 0, mpV m1, mpV m2], 236, (0, 0)) ∧ MapAt w m1 [] ∧ MapAt w m2 [] ∧ B ≤ o ∧ B ≤ m1 ∧ B ≤ m2) ∧
    (cellsOf? w v = some (#[nilS], 268, (0, 0)) ∧ B ≤ v) ∧ (cellsOf? w c = some (#[nilS, nilS], 270, (0, 0)) ∧ B ≤ c) ∧ (cellsOf? w wv = some (#[n64 8, nilS], 282, (0, 0)) ∧ B ≤ wv) ∧
    (∃ p q pm qm, MapAt w pools [(3, pt p), (6, pt q)] ∧ B ≤ pools ∧ cellsOf? w p = some (#[n64 3, n64 u.surplus, mpV pm, n64 0, n64 0], 239, (0, 0)) ∧ MapAt w pm [] ∧ B ≤ p ∧ B ≤ pm ∧ cellsOf? w q = some (#[n64 6, n64 0, mpV qm, n64 0, n64 0], 239, (0, 0)) ∧ MapAt w qm [] ∧ B ≤ q ∧ B ≤ qm)
  old : B ≤ x
  ok : u.ok
theorem fillX (fr : Int) (m b rm ob rv cm ck j : Nat) (W : World) : fillS #[(0, 1), (1, 1), (2, 1), (3, 1), (4, 1), (5, 1), (6, 1), (7, 1), (8, 1), (9, 1), (10, 1), (11, 1), (12, 1), (13, 1), (14, 1), (15, 1)]
      #[n64 0, .pointer none, .pointer none, .pointer none, .pointer none, .pointer none, .pointer none, .pointer none, .pointer none, .pointer none, .pointer none, .map none, .map none, .slice none 0 0, n64 0, n64 0]
      [(0, n64 fr), (1, pt m), (3, pt b), (5, pt rm), (6, pt ob), (7, pt rv), (8, pt cm), (9, pt ck), (12, mpV j)] W = .ret (.agg #[n64 fr, pt m, .pointer none, pt b, .pointer none, pt rm, pt ob, pt rv, pt cm, pt ck, .pointer none, .map none, mpV j, nilS, n64 0, n64 0], W) := by kernel_rfl
set_option maxHeartbeats 1000000 in
theorem run20 {K : Kont} {fuel : Nat} (hB : Big K) {w : World} (u : Sup) : wpGFn Tryz.prog K fuel 20 h20 #[u.v] w fun z w' => Old w w' ∧ (¬ u.ok ∧ z = .tuple #[.pointer none, n64 2] ∨ u.ok ∧ ∃ x, z = .tuple #[pt x, n64 0] ∧ Fresh w' w.heap.size x u) := by
  rw [gfn_start]
  have hcells : u.v.cells = #[n64 u.frames, n64 u.mark, n64 u.lines, n64 u.cpus, n64 u.surplus] := rfl
  simp -implicitDefEqProofs [h20, W.e, W.e0, W.mv, W.sq, W.og, W.fa, W.ld, W.ex, W.nn, hcells]
  have o1 := Old.push w (.cells #[n64 u.frames, n64 u.mark, n64 u.lines, n64 u.cpus, n64 u.surplus] 25)
  have hc1 : cellsOf? (World.push w (.cells #[n64 u.frames, n64 u.mark, n64 u.lines, n64 u.cpus, n64 u.surplus] 25)) w.heap.size = some (#[n64 u.frames, n64 u.mark, n64 u.lines, n64 u.cpus, n64 u.surplus], 25, (0, 0)) := by simp
  generalize World.push w (.cells #[n64 u.frames, n64 u.mark, n64 u.lines, n64 u.cpus, n64 u.surplus] 25) = w1 at *
  refine valA_of (hB.mem w1 _ _) (fun z w2 hq => ?_)
  obtain ⟨o2, ⟨hn, hz⟩ | ⟨hmo, m, r', k', f', b', kv, fv, lv, l, hz, hmem⟩⟩ := hq
  · simp only at o2 hz
    subst hz
    simp -implicitDefEqProofs
    exact ⟨o1.trans o2, fun h => hn h.1⟩
  simp only at o2 hz hmem
  subst hz
  have hc2 := o2.cells hc1 (fun h => h)
  simp -implicitDefEqProofs [hc2]
  refine valA_of (hB.cpus w2 _ _) (fun z w3 hq => ?_)
  obtain ⟨o3, ⟨hn, hz⟩ | ⟨hco, b, cv, ps, sm, hz, hcpu⟩⟩ := hq
  · simp only at o3 hz
    subst hz
    simp -implicitDefEqProofs
    exact ⟨(o1.trans o2).trans o3, fun h => hn h.2.1⟩
  simp only at o3 hz hcpu
  subst hz
  have hc3 := o3.cells hc2 (fun h => h)
  simp -implicitDefEqProofs [hc3]
  refine valA_of (hB.pool w3 _ _) (fun z w4 hq => ?_)
  obtain ⟨o4, ⟨hn, hz⟩ | ⟨hpo, p, pm, hz, hp, hpm, hpb, hpmb⟩⟩ := hq
  · simp only at o4 hz
    subst hz
    simp -implicitDefEqProofs
    exact ⟨((o1.trans o2).trans o3).trans o4, fun h => hn ⟨.inl rfl, h.2.2.1, h.2.2.2⟩⟩
  simp only at o4 hz hp hpm
  subst hz
  have hc4 := o4.cells hc3 (fun h => h)
  simp -implicitDefEqProofs [hc4]
  refine valA_of (hB.rmap w4) (fun z w5 hq => ?_)
  obtain ⟨o5, rm, rmm, hz, hrm, hrmm, hrmb, hrmmb⟩ := hq
  simp only at o5 hz hrm hrmm
  subst hz
  have hc5 := o5.cells hc4 (fun h => h)
  simp -implicitDefEqProofs [hc5]
  refine valA_of (hB.obj w5) (fun z w6 hq => ?_)
  obtain ⟨o6, ob, om1, om2, hz, hob, hom1, hom2, hobb, hom1b, hom2b⟩ := hq
  simp only at o6 hz hob hom1 hom2
  subst hz
  have hc6 := o6.cells hc5 (fun h => h)
  simp -implicitDefEqProofs [hc6]
  refine valA_of (hB.resv w6) (fun z w7 hq => ?_)
  obtain ⟨o7, rv, hz, hrv, hrvb⟩ := hq
  simp only at o7 hz hrv
  subst hz
  have hc7 := o7.cells hc6 (fun h => h)
  simp -implicitDefEqProofs [hc7]
  refine valA_of (hB.comp w7) (fun z w8 hq => ?_)
  obtain ⟨o8, cm, hz, hcm, hcmb⟩ := hq
  simp only at o8 hz hcm
  subst hz
  have hc8 := o8.cells hc7 (fun h => h)
  simp -implicitDefEqProofs [hc8]
  refine valA_of (hB.clock w8) (fun z w9 hq => ?_)
  obtain ⟨o9, ck, hz, hckb⟩ := hq
  simp only at o9 hz
  subst hz
  have hc9 := o9.cells hc8 (fun h => h)
  have hne9 : ¬ w.heap.size = w9.heap.size := by have := cells_lt hc9; omega
  simp -implicitDefEqProofs [hc9, hne9]
  rw [fillX]
  simp -implicitDefEqProofs
  obtain ⟨X, hX⟩ : ∃ X, X = w9.heap.size + 1 := ⟨_, rfl⟩
  have hm9 : MemAt w9 w1.heap.size m u.frames.toNat u.mark r' k' f' b' kv fv lv l := hmem.keep (((((((o3.trans o4).trans o5).trans o6).trans o7).trans o8).trans o9)) (fun _ _ h => h)
  have hcp9 := hcpu.keep (((((o4.trans o5).trans o6).trans o7).trans o8).trans o9) (fun _ _ h => h)
  have o59 := (((o5.trans o6).trans o7).trans o8).trans o9
  have hp9 := o59.cells hp (fun h => h)
  have hpm9 := hpm.keep o59 (fun h => h)
  have o69 := ((o6.trans o7).trans o8).trans o9
  have hrm9 := o69.cells hrm (fun h => h)
  have hrmm9 := hrmm.keep o69 (fun h => h)
  have o79 := (o7.trans o8).trans o9
  have hob9 := o79.cells hob (fun h => h)
  have hom19 := hom1.keep o79 (fun h => h)
  have hom29 := hom2.keep o79 (fun h => h)
  have hrv9 := (o8.trans o9).cells hrv (fun h => h)
  have hcm9 := o9.cells hcm (fun h => h)
  have oo9 : Old w w9 := ((((((((o1.trans o2).trans o3).trans o4).trans o5).trans o6).trans o7).trans o8).trans o9)
  have s1 := o1.1; have s2 := o2.1; have s3 := o3.1; have s4 := o4.1; have s5 := o5.1; have s6 := o6.1; have s7 := o7.1; have s8 := o8.1; have s9 := o9.1
  have o10 := Old.push2 w9 (.map #[] 0) (.cells #[n64 u.frames, pt m, .pointer none, pt b, .pointer none, pt rm, pt ob, pt rv, pt cm, pt ck, .pointer none, .map none, mpV w9.heap.size, nilS, n64 0, n64 0] 143)
  have hx10 : cellsOf? (World.push (World.push w9 (.map #[] 0)) (.cells #[n64 u.frames, pt m, .pointer none, pt b, .pointer none, pt rm, pt ob, pt rv, pt cm, pt ck, .pointer none, .map none, mpV w9.heap.size, nilS, n64 0, n64 0] 143)) X = some (#[n64 u.frames, pt m, .pointer none, pt b, .pointer none, pt rm, pt ob, pt rv, pt cm, pt ck, .pointer none, .map none, mpV w9.heap.size, nilS, n64 0, n64 0], 143, (0, 0)) := by subst hX; simp
  rw [← hX]
  generalize World.push (World.push w9 (.map #[] 0)) (.cells #[n64 u.frames, pt m, .pointer none, pt b, .pointer none, pt rm, pt ob, pt rv, pt cm, pt ck, .pointer none, .map none, mpV w9.heap.size, nilS, n64 0, n64 0] 143) = w10 at *
  have hm10 := hm9.keep o10 (fun _ _ h => h)
  refine valA_of (hB.ram hm10.cell) (fun z w11 hq => ?_)
  obtain ⟨hz, hw⟩ := hq
  simp only at hz hw
  subst hz hw
  have hfillS : ∀ W : World, fillS #[(0, 1)] #[.pointer none] [(0, pt m)] W = .ret (.agg #[pt m], W) := fun _ => rfl
  simp -implicitDefEqProofs [hfillS]
  rw [iface_eq rfl plain163]
  simp -implicitDefEqProofs
  refine valA_of (hB.table _ _ _ _) (fun z w12 hq => ?_)
  obtain ⟨o12, t, hz, htb⟩ := hq
  simp only at o12 hz
  subst hz
  have hx12 := o12.cells hx10 (fun h => h)
  simp -implicitDefEqProofs [hx12]
  have k13 : Keeps w12 (World.set w12 X (.cells #[n64 u.frames, pt m, pt t, pt b, .pointer none, pt rm, pt ob, pt rv, pt cm, pt ck, .pointer none, .map none, mpV w9.heap.size, nilS, n64 0, n64 0] 143)) (fun j => j = X) := Keeps.set _ _ _ (fun _ => rfl)
  have hx13 : cellsOf? (World.set w12 X (.cells #[n64 u.frames, pt m, pt t, pt b, .pointer none, pt rm, pt ob, pt rv, pt cm, pt ck, .pointer none, .map none, mpV w9.heap.size, nilS, n64 0, n64 0] 143)) X = some (#[n64 u.frames, pt m, pt t, pt b, .pointer none, pt rm, pt ob, pt rv, pt cm, pt ck, .pointer none, .map none, mpV w9.heap.size, nilS, n64 0, n64 0], 143, (0, 0)) := by rw [cells_set, if_pos ⟨rfl, cells_lt hx12⟩]
  generalize World.set w12 X (.cells #[n64 u.frames, pt m, pt t, pt b, .pointer none, pt rm, pt ob, pt rv, pt cm, pt ck, .pointer none, .map none, mpV w9.heap.size, nilS, n64 0, n64 0] 143) = w13 at *
  refine valA_of (hB.gather w13) (fun z w14 hq => ?_)
  obtain ⟨o14, g, hz, hgb⟩ := hq
  simp only at o14 hz
  subst hz
  have hx14 := o14.cells hx13 (fun h => h)
  simp -implicitDefEqProofs [hx14]
  have k15 : Keeps w14 (World.set w14 X (.cells #[n64 u.frames, pt m, pt t, pt b, pt g, pt rm, pt ob, pt rv, pt cm, pt ck, .pointer none, .map none, mpV w9.heap.size, nilS, n64 0, n64 0] 143)) (fun j => j = X) := Keeps.set _ _ _ (fun _ => rfl)
  have hx15 : cellsOf? (World.set w14 X (.cells #[n64 u.frames, pt m, pt t, pt b, pt g, pt rm, pt ob, pt rv, pt cm, pt ck, .pointer none, .map none, mpV w9.heap.size, nilS, n64 0, n64 0] 143)) X = some (#[n64 u.frames, pt m, pt t, pt b, pt g, pt rm, pt ob, pt rv, pt cm, pt ck, .pointer none, .map none, mpV w9.heap.size, nilS, n64 0, n64 0], 143, (0, 0)) := by rw [cells_set, if_pos ⟨rfl, cells_lt hx14⟩]
  generalize World.set w14 X (.cells #[n64 u.frames, pt m, pt t, pt b, pt g, pt rm, pt ob, pt rv, pt cm, pt ck, .pointer none, .map none, mpV w9.heap.size, nilS, n64 0, n64 0] 143) = w15 at *
  refine valA_of (hB.moving w15) (fun z w16 hq => ?_)
  obtain ⟨o16, wv, hz, hwv, hwvb⟩ := hq
  simp only at o16 hz hwv
  subst hz
  have hx16 := o16.cells hx15 (fun h => h)
  simp -implicitDefEqProofs [hx16]
  have k17 : Keeps w16 (World.set w16 X (.cells #[n64 u.frames, pt m, pt t, pt b, pt g, pt rm, pt ob, pt rv, pt cm, pt ck, pt wv, .map none, mpV w9.heap.size, nilS, n64 0, n64 0] 143)) (fun j => j = X) := Keeps.set _ _ _ (fun _ => rfl)
  have hx17 : cellsOf? (World.set w16 X (.cells #[n64 u.frames, pt m, pt t, pt b, pt g, pt rm, pt ob, pt rv, pt cm, pt ck, pt wv, .map none, mpV w9.heap.size, nilS, n64 0, n64 0] 143)) X = some (#[n64 u.frames, pt m, pt t, pt b, pt g, pt rm, pt ob, pt rv, pt cm, pt ck, pt wv, .map none, mpV w9.heap.size, nilS, n64 0, n64 0], 143, (0, 0)) := by rw [cells_set, if_pos ⟨rfl, cells_lt hx16⟩]
  generalize World.set w16 X (.cells #[n64 u.frames, pt m, pt t, pt b, pt g, pt rm, pt ob, pt rv, pt cm, pt ck, pt wv, .map none, mpV w9.heap.size, nilS, n64 0, n64 0] 143) = w17 at *
  have hXw := cells_lt hx10
  have hb12 := o12.1
  have hb13 := k13.1
  have hb14 := o14.1
  have hb15 := k15.1
  have hb16 := o16.1
  have hb17 := k17.1
  have hwv17 := k17.cells hwv (by omega)
  refine valA_of (hB.pool w17 6 0) (fun z w18 hq => ?_)
  obtain ⟨o18, ⟨hn, hz⟩ | ⟨_, q, qm, hz, hqc, hqm, hqb, hqmb⟩⟩ := hq
  · exact absurd ⟨.inr rfl, by omega, by omega⟩ hn
  simp only at o18 hz hqc hqm
  subst hz
  have hx18 := o18.cells hx17 (fun h => h)
  have hwv18 := o18.cells hwv17 (fun h => h)
  simp -implicitDefEqProofs
  have o19 := Old.push w18 (.map #[] 0)
  have hm19 := MapAt.push w18
  have hs19 : (World.push w18 (.map #[] 0)).heap.size = w18.heap.size + 1 := by simp
  generalize World.push w18 (.map #[] 0) = w19 at *
  refine updateA hm19 (fun es1 n1 hm20 => ?_)
  have k20 : Keeps w19 (World.set w19 w18.heap.size (.map es1 n1)) (fun j => j = w18.heap.size) := Keeps.set _ _ _ (fun _ => rfl)
  generalize World.set w19 w18.heap.size (.map es1 n1) = w20 at *
  simp -implicitDefEqProofs
  refine updateA hm20 (fun es2 n2 hm21 => ?_)
  have k21 : Keeps w20 (World.set w20 w18.heap.size (.map es2 n2)) (fun j => j = w18.heap.size) := Keeps.set _ _ _ (fun _ => rfl)
  generalize World.set w20 w18.heap.size (.map es2 n2) = w21 at *
  have hXl := cells_lt hx18
  have hx21 := k21.cells (k20.cells (o19.cells hx18 (fun h => h)) (by omega)) (by omega)
  simp -implicitDefEqProofs [hx21]
  have k22 : Keeps w21 (World.set w21 X (.cells #[n64 u.frames, pt m, pt t, pt b, pt g, pt rm, pt ob, pt rv, pt cm, pt ck, pt wv, mpV w18.heap.size, mpV w9.heap.size, nilS, n64 0, n64 0] 143)) (fun j => j = X) := Keeps.set _ _ _ (fun _ => rfl)
  have hx22 : cellsOf? (World.set w21 X (.cells #[n64 u.frames, pt m, pt t, pt b, pt g, pt rm, pt ob, pt rv, pt cm, pt ck, pt wv, mpV w18.heap.size, mpV w9.heap.size, nilS, n64 0, n64 0] 143)) X = some (#[n64 u.frames, pt m, pt t, pt b, pt g, pt rm, pt ob, pt rv, pt cm, pt ck, pt wv, mpV w18.heap.size, mpV w9.heap.size, nilS, n64 0, n64 0], 143, (0, 0)) := by rw [cells_set, if_pos ⟨rfl, cells_lt hx21⟩]
  generalize World.set w21 X (.cells #[n64 u.frames, pt m, pt t, pt b, pt g, pt rm, pt ob, pt rv, pt cm, pt ck, pt wv, mpV w18.heap.size, mpV w9.heap.size, nilS, n64 0, n64 0] 143) = w22 at *
  have hb18 := o18.1
  have hb19 := o19.1
  have hb20 := k20.1
  have hb21 := k21.1
  have hb10 := o10.1
  -- all that was there at 9 is there
  have kk : ∀ {a c : World} {H G : Nat → Prop}, Keeps a c G → (∀ j, j < a.heap.size → G j → H j) → Keeps a c H := fun h hG => h.mono hG
  have h1022 : Keeps w11 w22 (fun j => j = X) := by
    refine Keeps.trans (Keeps.trans (Keeps.trans (Keeps.trans (Keeps.trans (Keeps.trans (Keeps.trans (Keeps.trans (Keeps.trans (Keeps.trans (Keeps.trans o12 k13 (H := fun j => j = X) ?_ ?_) o14 (H := fun j => j = X) ?_ ?_) k15 (H := fun j => j = X) ?_ ?_) o16 (H := fun j => j = X) ?_ ?_) k17 (H := fun j => j = X) ?_ ?_) o18 (H := fun j => j = X) ?_ ?_) o19 (H := fun j => j = X) ?_ ?_) k20 (H := fun j => j = X) ?_ ?_) k21 (H := fun j => j = X) ?_ ?_) k22 (H := fun j => j = X) ?_ ?_) (Keeps.refl _ (fun _ => False)) ?_ ?_ <;>
    first
      | exact fun _ _ h => h.elim
      | exact fun _ _ h => h
      | (intro j hj h; omega)
  have h922 : Old w9 w22 := Keeps.trans o10 h1022 (fun _ _ h => h) (fun j hj h => by omega)
  have h1722 : Keeps w17 w22 (fun j => j = X) := by
    refine Keeps.trans (Keeps.trans (Keeps.trans (Keeps.trans o18 o19 (H := fun j => j = X) ?_ ?_) k20 (H := fun j => j = X) ?_ ?_) k21 (H := fun j => j = X) ?_ ?_) k22 (H := fun j => j = X) ?_ ?_ <;>
    first
      | exact fun _ _ h => h.elim
      | exact fun _ _ h => h
      | (intro j hj h; omega)
  have h1822 : Keeps w18 w22 (fun j => j = X) := by
    refine Keeps.trans (Keeps.trans (Keeps.trans o19 k20 (H := fun j => j = X) ?_ ?_) k21 (H := fun j => j = X) ?_ ?_) k22 (H := fun j => j = X) ?_ ?_ <;>
    first
      | exact fun _ _ h => h.elim
      | exact fun _ _ h => h
      | (intro j hj h; omega)
  have hqX : q ≠ X := fun h => by subst h; rw [hx18] at hqc; simp at hqc
  have hqmX : qm ≠ X := fun h => by subst h; have := hqm.nocells; rw [hx18] at this; cases this
  have hwvX : wv ≠ X := fun h => by subst h; rw [hx17] at hwv17; simp at hwv17
  refine ⟨oo9.trans h922, ⟨hmo, hco, hpo.2.1, hpo.2.2⟩, ⟨m, t, b, g, rm, ob, rv, cm, ck, wv, w18.heap.size, w9.heap.size, hx22, ?_, ?_, ?_, ?_, ?_, ?_, ?_, ?_⟩, by omega, ⟨hmo, hco, hpo.2.1, hpo.2.2⟩⟩
  · exact ⟨r', k', f', b', kv, fv, lv, l, (hm9.keep h922 (fun _ _ h => h)).less (by omega)⟩
  · exact ⟨cv, ps, sm, (hcp9.keep h922 (fun _ _ h => h)).less (by omega)⟩
  · exact ⟨rmm, h922.cells hrm9 (fun h => h), hrmm9.keep h922 (fun h => h), by omega, by omega⟩
  · exact ⟨om1, om2, h922.cells hob9 (fun h => h), hom19.keep h922 (fun h => h), hom29.keep h922 (fun h => h), by omega, by omega, by omega⟩
  · exact ⟨h922.cells hrv9 (fun h => h), by omega⟩
  · exact ⟨h922.cells hcm9 (fun h => h), by omega⟩
  · exact ⟨h1722.cells hwv17 hwvX, by omega⟩
  · refine ⟨p, q, pm, qm, ?_, by omega, h922.cells hp9 (fun h => h), hpm9.keep h922 (fun h => h), by omega, by omega, h1822.cells hqc hqX, hqm.keep h1822 hqmX, by omega, by omega⟩
    exact hm21.keep k22 (by omega)
end Go.Proofs.YteljibbnpheekaaGreat
