import Derived.Test.YteljibbnpheekaaGreatWg
import Derived.Test.YteljibbnpheekaaGreatJs
namespace Go.Proofs.YteljibbnpheekaaGreat
open Go Go.Ideal
abbrev EI : En Int := EInt 3
section
variable {P : Program} {K : Kont} {ρ : Env} {w : World} {Q : Value × World → Prop}
theorem iarr_eq {t e : TypeId} {x ix : Operand} {ty : TypeId} {len b o i : Nat} {k : IntKind} {inf : TypeInfo} (hu : P.underlying t = some (.array len e)) (hi : P.info? e = some inf) (hcx : constFit x = true) (hci : constFit ix = true)
    (hx : ev ρ x = .pointer (some ⟨b, o, none⟩)) (hix : ev ρ ix = .int k (i : Int)) (hlt : i < len) : sone P K (ev ρ) w (.raw (.indexAddr t x ix) ty) = .ret (.pointer (some ⟨b, o + i * inf.size, none⟩), w) := by
  have hops : ((Op.indexAddr t x ix).operands.all constFit) = true := by simp [Op.operands, hcx, hci]
  have hrun : (execOp (ev ρ) { dst := none, op := .indexAddr t x ix, type := ty, pos := "", after := #[], guard := none }).run P w = .ok (.value (.pointer (some ⟨b, o + i * inf.size, none⟩))) w := by
    simp only [execOp, Instr.indexAt, hx, hix, asIntOf, Sem.run_bind, Sem.run_pure, Result.andThen, run_underlying' hu, Instr.sureAddr]
    rw [if_pos ⟨Int.natCast_nonneg _, Int.ofNat_lt.2 hlt⟩]
    simp only [Sem.run_bind, run_sizeOf' hi, Result.andThen, Sem.run_pure, Int.toNat_natCast, Addr.add_off]
  simp only [sone, pstep, istep, hops, if_true, hrun, ofRun, pval, T.bind]
theorem make_go2 {t e : TypeId} {lx cx : Operand} {n : Nat} {ty : TypeId} {i : TypeInfo} {z : Value} (hu : P.underlying t = some (.slice e)) (hi : P.info? e = some i) (hz : i.zero = some z) (hs : selfD 4 z = true) (h1 : i.size = 1) (hzc : z.cells = #[z]) (hn : 0 < n) (hlt : n < 1000000) (hby : i.bytes ≤ 1000)
    (hcl : constFit lx = true) (hcc : constFit cx = true) (hl : ev ρ lx = .int .i64 n) (hc' : ev ρ cx = .int .i64 n)
    (hq : Q (.slice (some ⟨w.heap.size, 0, none⟩) n n, World.push w (.cells (Array.replicate n z) e))) :
    (sone P K (ev ρ) w (.raw (.makeSlice t lx cx) ty)).all Q := by
  have hwr : IntKind.i64.wrap (n : Int) = n := by rw [IntKind.wrap_i64]; omega
  have hc : ((Op.makeSlice t lx cx).operands.all constFit) = true := by simp [Op.operands, hcl, hcc]
  have hel : elemOk P t = true := by
    unfold elemOk zeroOk
    simp only [hu, hi, hz, hs]
  have hcap : capFit (.int .i64 n) = true := by
    simp only [capFit, hwr, decide_eq_true_eq]; omega
  have hti : ∀ w : World, (typeInfo e).run P w = .ok i w := fun w => by simp [typeInfo, program, Sem.run, hi, Result.andThen]
  have har : ∀ (m : Nat) (w : World), (askRoom m).run P w = .ok () w := fun m w => by
    unfold askRoom
    split <;> rfl
  have hmul : (i.bytes : Int) * (n : Int) ≤ 1000 * 1000000 := Int.mul_le_mul (by omega) (by omega) (by omega) (by omega)
  have hbig : ¬ ((i.bytes : Int) * (n : Int) > 2 ^ 48) := by
    have : (2 : Int) ^ 48 = 281474976710656 := by decide
    omega
  have hneg : ¬ (n : Int) < 0 := by omega
  have hn0 : ¬ n = 0 := by omega
  have hrow : (Array.range n).map (fun k => #[z][k % (#[z] : Array Value).size]!) = Array.replicate n z := by
    apply Array.ext (by simp)
    intro k g1 g2
    simp [Nat.mod_one]
  have hrun : (execOp (ev ρ) { dst := none, op := .makeSlice t lx cx, type := ty, pos := "", after := #[], guard := none }).run P w =
      .ok (.value (.slice (some ⟨w.heap.size, 0, none⟩) n n)) (World.push w (.cells (Array.replicate n z) e)) := by
    simp only [execOp, Instr.makeSlice, Sem.run_bind, run_underlying' hu, Result.andThen, hl, hc', asInt, asIntOf, Sem.run_pure, hti, hwr]
    simp only [hneg, hbig, decide_false, Bool.or_false, Bool.false_eq_true, gt_iff_lt, Int.lt_irrefl, if_false, Int.toNat_natCast, h1, Nat.mul_one, hn0, Sem.run_bind, Result.andThen, har, run_sizeOf' hi, run_zero hi hz, hzc, Sem.run_pure, hrow, newRow]
    simp [World.push]
  simp only [sone, pstep, istep, hc, if_true, hc', hel, hcap, Bool.and_self, hrun, ofRun, pval, T.bind]
  exact hq
end
theorem run587 {K : Kont} {fuel : Nat} {w : World} (a : Int) : wpGFn Tryz.prog K fuel 587 h587 #[n64 a] w fun v w' => v = .bool false ∧ w' = w := by
  rw [gfn_start]
  simp -implicitDefEqProofs [h587, W.e, W.mv, W.sq, W.og]
theorem run499 {K : Kont} {fuel : Nat} {w : World} (a : Int) : wpGFn Tryz.prog K fuel 499 h499 #[n64 a] w fun v w' => v = .bool false ∧ w' = w := by
  rw [gfn_start]
  simp -implicitDefEqProofs [h499, W.e, W.mv, W.sq, W.og]
structure Nan (K : Kont) : Prop where
  n587 : ∀ w a, (K.enter 587 #[n64 a] w).all fun x => x.1 = .bool false ∧ x.2 = w
  n499 : ∀ w a, (K.enter 499 #[n64 a] w).all fun x => x.1 = .bool false ∧ x.2 = w
theorem run397 {K : Kont} {fuel : Nat} (hN : Nan K) {w : World} (a b : Int) : wpGFn Tryz.prog K fuel 397 h397 #[n64 a, n64 b] w fun v w' => v = .bool (decide (a < b)) ∧ w' = w := by
  rw [gfn_start]
  simp -implicitDefEqProofs [h397, W.e, W.mv, W.sq, W.og, W.gr]
  refine valA_of (hN.n499 _ _) (fun v3 w3 q3 => ?_)
  obtain ⟨hv3, hw3⟩ := q3
  simp only at hv3 hw3
  subst hv3 hw3
  simp -implicitDefEqProofs
theorem getOf {c : Array Value} {i : Nat} {v : Value} (h : c[i]? = some v) : ∀ h', c[i]'h' = v := fun h' => by
  rw [Array.getElem?_eq_getElem h'] at h; exact Option.some.inj h
structure Less (K : Kont) : Prop extends Nan K where
  less : ∀ w a b, (K.enter 397 #[n64 a, n64 b] w).all fun x => x.1 = .bool (decide (a < b)) ∧ x.2 = w
theorem shr366 {o1 o2 : Operand} {w : World} (i j q : Nat) (hq : q = (i + j) / 2) : binS Tryz.prog .shr 366 o1 o2 (.int .u64 ((i : Int) + j)) (.int .u64 1) w = .ret (.int .u64 q, w) := by
  have h1 : min (1 : Int).toNat IntKind.u64.bits = 1 := by decide
  have h2 : ((i : Int) + j).fdiv 2 = q := by rw [Int.fdiv_eq_ediv_of_nonneg _ (by decide)]; omega
  simp only [binS, arith, or_true, if_true, h1]
  simp
  exact h2
theorem run557 {K : Kont} {fuel : Nat} (hL : Less K) (hf : 2000000 ≤ fuel) {w : World} {v : Value} {l : List Int} (hv : RowE EI w v l) {t : Int} (hl : ∀ x ∈ l, x < t) (hn : l.length ≤ 1000000) :
    wpGFn Tryz.prog K fuel 557 h557 #[v, n64 t] w fun u w' => u = .tuple #[n64 l.length, .bool false] ∧ w' = w := by
  rw [gfn_start]
  have hlen := fun w' => hv.lenS (w' := w')
  simp -implicitDefEqProofs [h557, W.e, W.mv, W.sq, W.og, W.gr, W.ld, hlen]
  refine loop_go (fun k ρ w' => ∃ i : Nat, k = l.length - i ∧ i ≤ l.length ∧ ρ 6 = n64 l.length ∧ ρ 7 = n64 i ∧ ρ 8 = n64 l.length ∧ ρ 0 = v ∧ ρ 1 = n64 t ∧ w' = w) ?_ (i := l.length) ?_ (by show l.length < fuel; omega)
  · rintro k ρ w2 ⟨i, rfl, hi, e6, e7, e8, e0, e1, rfl⟩
    by_cases h : i < l.length
    · obtain ⟨mid, hmid⟩ : ∃ mid, mid = (i + l.length) / 2 := ⟨_, rfl⟩
      have hm1 : i ≤ mid := by omega
      have hm2 : mid < l.length := by omega
      obtain ⟨rb, ro, rcap, rc, hve, hrc, hrsz, hext⟩ := hv.int hm2
      have x1 : IntKind.i64.wrap ((i : Int) + l.length) = (i : Int) + l.length := by rw [IntKind.wrap_i64]; omega
      have x2 : IntKind.u64.wrap ((i : Int) + l.length) = (i : Int) + l.length := by rw [IntKind.wrap_u64]; omega
      have x3 : IntKind.i64.wrap (mid : Int) = mid := by rw [IntKind.wrap_i64]; omega
      have x4 : IntKind.i64.wrap ((mid : Int) + 1) = (mid : Int) + 1 := by rw [IntKind.wrap_i64]; omega
      have hsh := fun o1 o2 w => shr366 (o1 := o1) (o2 := o2) (w := w) i l.length mid hmid
      have hget := getOf hext
      simp -implicitDefEqProofs [e7, e8, e0, e1, h, x1, x2, x3, hsh, hve, hrc, hrsz, hget, hm2]
      refine valA_of (hL.less _ _ _) (fun u w3 hq => ?_)
      obtain ⟨hu, hw⟩ := hq
      simp only at hu hw
      subst hu hw
      have hlt := hl l[mid] (List.getElem_mem hm2)
      simp -implicitDefEqProofs [e6, e8, e0, e1, hlt, x4]
      exact ⟨l.length - (mid + 1), by omega, mid + 1, rfl, by omega, by omega, hve⟩
    · have hie : i = l.length := by omega
      subst hie
      simp -implicitDefEqProofs [e6, e7, e8]
  · exact ⟨0, rfl, Nat.zero_le _, by simp, by simp, by simp, by simp, by simp, by simp⟩
theorem run510 {K : Kont} {fuel : Nat} {w : World} {v : Value} {l : List Int} (hv : RowE EI w v l) (hn : l.length ≤ 900000) {s : Int} {vb : Nat} (hvb : cellsOf? w vb = some (#[.int .i64 s], 3, (0, 0))) :
    wpGFn Tryz.prog K fuel 510 h510 #[v, .int .i64 l.length, .slice (some ⟨vb, 0, none⟩) 1 1] w fun u w' => RowE EI w' u (l ++ [s]) ∧ Keeps w w' (fun j => blkOf v = some j) ∧ blkOf u = some w.heap.size := by
  rw [gfn_start]
  have hlen := fun w' => hv.lenS (w' := w')
  have htl := tail_eq (k := .i64) (i := l.length) (n := l.length) hv (Nat.le_refl _) (by omega) rfl
  simp only [EInt] at htl
  have hl1 : ∀ a w', lenS (.slice (some a) 1 1) w' = .ret (.int .i64 1, w') := fun a w' => rfl
  simp -implicitDefEqProofs [h510, W.e, W.mv, W.sq, W.og, hlen, htl, hl1]
  refine appE (E := EI) (by_ := 8) hv (src_int hvb) (by simp; omega) (by decide) (fun v4 w4 hr4 hk4 _ hb4 => ?_)
  simp -implicitDefEqProofs
  exact ⟨hr4, hk4, hb4 (by simp)⟩
structure Srch (K : Kont) : Prop where
  find : ∀ {w : World} {v : Value} {l : List Int}, RowE EI w v l → ∀ {t : Int}, (∀ x ∈ l, x < t) → l.length ≤ 1000000 → (K.enter 557 #[v, n64 t] w).all fun x => x.1 = .tuple #[n64 l.length, .bool false] ∧ x.2 = w
  ins : ∀ {w : World} {v : Value} {l : List Int}, RowE EI w v l → l.length ≤ 900000 → ∀ {s : Int} {vb : Nat}, cellsOf? w vb = some (#[.int .i64 s], 3, (0, 0)) →
    (K.enter 510 #[v, .int .i64 l.length, .slice (some ⟨vb, 0, none⟩) 1 1] w).all fun x => RowE EI x.2 x.1 (l ++ [s]) ∧ Keeps w x.2 (fun j => blkOf v = some j) ∧ blkOf x.1 = some w.heap.size
theorem rowTag {α : Type} {E : En α} {w : World} {v : Value} {xs : List α} (h : RowE E w v xs) {b : Nat} (hb : blkOf v = some b) : ∃ c, cellsOf? w b = some (c, E.te, (0, 0)) := by
  rcases h with ⟨rfl, _⟩ | ⟨b', o, cap, c, rfl, h2, _⟩
  · cases hb
  · simp only [blkOf, Option.some.injEq] at hb
    subst hb
    exact ⟨c, h2⟩
structure BudAt (w : World) (b : Nat) (n fr : Int) (lv : Nat → Value) (ls : Nat → List Int) : Prop where
  cell : ∃ cs, cellsOf? w b = some (cs, 516, (0, 0)) ∧ cs.size = 11 ∧ cs[0]? = some (n64 n) ∧ cs[10]? = some (n64 fr) ∧ ∀ k, k < 9 → cs[1 + k]? = some (lv k)
  row : ∀ k, k < 9 → RowE EI w (lv k) (ls k)
  apart : ∀ j k, j < 9 → k < 9 → j ≠ k → ∀ x, blkOf (lv j) = some x → blkOf (lv k) ≠ some x
theorem a514 : Tryz.prog.underlying 514 = some (.array 9 51) := by kernel_rfl
theorem i51' : (Tryz.prog.info? 51).map (·.size) = some 1 := by kernel_rfl
theorem i51 : ∃ inf, Tryz.prog.info? 51 = some inf ∧ inf.size = 1 := by
  have h := i51'
  cases hi : Tryz.prog.info? 51 with
  | none => rw [hi] at h; cases h
  | some inf => rw [hi] at h; exact ⟨inf, rfl, by simpa using h⟩
theorem iarr514 {K : Kont} {ρ : Env} {w : World} {x ix : Operand} {ty : TypeId} {b o i : Nat} {k : IntKind} (hcx : constFit x = true) (hci : constFit ix = true) (hx : ev ρ x = .pointer (some ⟨b, o, none⟩)) (hix : ev ρ ix = .int k (i : Int)) (hlt : i < 9) :
    sone Tryz.prog K (ev ρ) w (.raw (.indexAddr 514 x ix) ty) = .ret (.pointer (some ⟨b, o + i, none⟩), w) := by
  obtain ⟨inf, h1, h2⟩ := i51
  have := iarr_eq (P := Tryz.prog) (K := K) (w := w) (ty := ty) a514 h1 hcx hci hx hix hlt
  rw [this, h2, Nat.mul_one]
theorem run509 {K : Kont} {fuel : Nat} (hS : Srch K) {w : World} {b : Nat} {n fr : Int} {lv : Nat → Value} {ls : Nat → List Int} (hb : BudAt w b n fr lv ls) {k : Nat} (hk : k < 9) {t : Int} (hl : ∀ x ∈ ls k, x < t) (hn : (ls k).length ≤ 1000000) :
    wpGFn Tryz.prog K fuel 509 h509 #[pt b, n64 t, n64 k] w fun u w' => u = .tuple #[n64 (ls k).length, .bool false] ∧ w' = w := by
  rw [gfn_start]
  obtain ⟨cs, hc, hsz, h0, h10, hcs⟩ := hb.cell
  have hck := hcs k hk
  simp -implicitDefEqProofs [h509, W.e, W.mv, W.sq, W.og, W.fa, W.ld, W.ex, W.nn]
  rw [iarr514 (x := .tmp 11) (ix := .tmp 9) (b := b) (o := 1) (i := k) (k := .i64) rfl rfl (by simp) (by simp) hk]
  have hl1 : 1 + k < cs.size := by omega
  have hget := getOf hck
  simp -implicitDefEqProofs [hc, hl1, hget]
  refine valA_of (hS.find (hb.row k hk) hl hn) (fun u w3 hq => ?_)
  obtain ⟨hu, hw⟩ := hq
  simp only at hu hw
  subst hu hw
  simp -implicitDefEqProofs
structure Plc (K : Kont) : Prop extends Srch K where
  place : ∀ {w : World} {b : Nat} {n fr : Int} {lv : Nat → Value} {ls : Nat → List Int}, BudAt w b n fr lv ls → ∀ {k : Nat}, k < 9 → ∀ {t : Int}, (∀ x ∈ ls k, x < t) → (ls k).length ≤ 1000000 →
    (K.enter 509 #[pt b, n64 t, n64 k] w).all fun x => x.1 = .tuple #[n64 (ls k).length, .bool false] ∧ x.2 = w
def upd {α : Type} (f : Nat → α) (k : Nat) (x : α) : Nat → α := fun j => if j = k then x else f j
theorem upd_at {α : Type} (f : Nat → α) (k : Nat) (x : α) : upd f k x k = x := by simp [upd]
theorem upd_ne {α : Type} (f : Nat → α) {j k : Nat} (x : α) (h : j ≠ k) : upd f k x j = f j := by simp [upd, h]
theorem run424 {K : Kont} {fuel : Nat} (hP : Plc K) {w : World} {b : Nat} {n fr : Int} {lv : Nat → Value} {ls : Nat → List Int} (hb : BudAt w b n fr lv ls) {k : Nat} (hk : k < 9) {t : Int} (hl : ∀ x ∈ ls k, x < t) (hn : (ls k).length ≤ 900000) :
    wpGFn Tryz.prog K fuel 424 h424 #[pt b, n64 t, n64 k] w fun _u w' => (∃ v', BudAt w' b n fr (upd lv k v') (upd ls k (ls k ++ [t])) ∧ ∀ x, blkOf v' = some x → w.heap.size ≤ x) ∧ Keeps w w' (fun j => j = b ∨ blkOf (lv k) = some j) := by
  rw [gfn_start]
  obtain ⟨cs, hc, hsz, h0, h10, hcs⟩ := hb.cell
  have hck := hcs k hk
  have hl1 : 1 + k < cs.size := by omega
  have hget := getOf hck
  simp -implicitDefEqProofs [h424, W.e, W.e0, W.mv, W.sq, W.og, W.fa, W.ld, W.ex, W.nn]
  refine valA_of (hP.place hb hk hl (by omega)) (fun u w3 hq => ?_)
  obtain ⟨hu, hw⟩ := hq
  simp only at hu hw
  subst hu hw
  simp -implicitDefEqProofs
  rw [iarr514 (x := .tmp 20) (ix := .tmp 18) (b := b) (o := 1) (i := k) (k := .i64) rfl rfl (by simp) (by simp) hk]
  have hbne : ¬ b = w3.heap.size := by have := cells_lt hc; omega
  have hveq := (hb.row k hk).veq
  simp -implicitDefEqProofs [hc, hl1, hget, row1, hbne, hveq]
  have kp := Keeps.push w3 (.cells #[.int .i64 t] 3) (fun _ => False)
  have hc4 := kp.cells hc (fun h => h)
  have hb4 : cellsOf? (World.push w3 (.cells #[.int .i64 t] 3)) w3.heap.size = some (#[.int .i64 t], 3, (0, 0)) := by simp
  have hr4 := (hb.row k hk).keep kp (fun _ _ h => h)
  generalize World.push w3 (.cells #[.int .i64 t] 3) = w4 at *
  refine valA_of (hP.ins hr4 hn hb4) (fun u w5 hq => ?_)
  obtain ⟨hu, hk5, hbu⟩ := hq
  simp only at hu hk5 hbu
  simp -implicitDefEqProofs
  rw [iarr514 (x := .tmp 28) (ix := .tmp 16) (b := b) (o := 1) (i := k) (k := .i64) rfl rfl (by simp) (by simp) hk]
  have hne : ∀ j, j < 9 → blkOf (lv j) ≠ some b := fun j hj hh => by
    obtain ⟨_, h2⟩ := rowTag (hb.row j hj) hh
    rw [hc] at h2; simp [EInt] at h2
  have hc5 := hk5.cells hc4 (hne k hk)
  have hu1 := hu.one
  have hu2 := hu.cells1
  simp -implicitDefEqProofs [hc5, hu1, hu2]
  refine ⟨fun _ => ?_, by omega⟩
  have k1 : Keeps w5 (World.set w5 b (.cells (cs.setIfInBounds (1 + k) u) 516)) (fun j => j = b) := Keeps.set _ b _ (fun _ => rfl)
  have k2 : Keeps w3 (World.set w5 b (.cells (cs.setIfInBounds (1 + k) u) 516)) (fun j => j = b ∨ blkOf (lv k) = some j) :=
    ((kp.trans hk5 (H := fun j => j = b ∨ blkOf (lv k) = some j) (fun _ _ h => h.elim) (fun _ _ h => .inr h)).trans k1 (fun _ _ h => h) (fun _ _ h => .inl h))
  have hb5 := cells_lt hc5
  have hold : ∀ j, j < 9 → ∀ x, blkOf (lv j) = some x → x < w3.heap.size := fun j hj x hx => (hb.row j hj).block_lt hx
  have hub : ∀ x, blkOf u = some x → x = w4.heap.size := fun x hx => by rw [hbu] at hx; exact (Option.some.inj hx).symm
  have h34 : w3.heap.size ≤ w4.heap.size := kp.1
  refine ⟨⟨u, ?_, fun x hx => by have := hub x hx; omega⟩, k2⟩
  refine ⟨⟨cs.setIfInBounds (1 + k) u, by rw [cells_set, if_pos ⟨rfl, hb5⟩], by simp [hsz], by rw [Array.getElem?_setIfInBounds_ne (by omega)]; exact h0, by rw [Array.getElem?_setIfInBounds_ne (by omega)]; exact h10, fun j hj => ?_⟩, fun j hj => ?_, fun i j hi hj hij x hx hy => ?_⟩
  · by_cases h : j = k
    · subst h; rw [upd_at, Array.getElem?_setIfInBounds_self_of_lt (by omega)]
    · rw [upd_ne _ _ h, Array.getElem?_setIfInBounds_ne (by omega)]; exact hcs j hj
  · by_cases h : j = k
    · subst h; rw [upd_at, upd_at]
      exact hu.keep k1 (fun x hx hh => by have := hub x hx; have := cells_lt hc4; omega)
    · rw [upd_ne _ _ h, upd_ne _ _ h]
      exact (hb.row j hj).keep k2 (fun x hx hh => by
        rcases hh with rfl | hh
        · exact hne j hj hx
        · exact hb.apart j k hj hk h x hx hh)
  · by_cases h : i = k
    · subst h
      rw [upd_at] at hx; rw [upd_ne _ _ (Ne.symm hij)] at hy
      have := hub x hx; have := hold j hj x hy; omega
    · rw [upd_ne _ _ h] at hx
      by_cases h' : j = k
      · subst h'; rw [upd_at] at hy
        have := hub x hy; have := hold i hi x hx; omega
      · rw [upd_ne _ _ h'] at hy
        exact hb.apart i j hi hj hij x hx hy
end Go.Proofs.YteljibbnpheekaaGreat
namespace Go.Proofs.YteljibbnpheekaaGreat
open Go Go.Ideal
abbrev Blk := Nat × Nat
def Chain : List Blk → Nat → Nat → Prop
  | [], a, b => a = b
  | (k, f) :: l, a, b => f = a ∧ k ≤ 8 ∧ Chain l (a + 2 ^ k) b
theorem Chain.snoc : ∀ {l : List Blk} {a b k : Nat}, Chain l a b → k ≤ 8 → Chain (l ++ [(k, b)]) a (b + 2 ^ k)
  | [], a, b, k, h, hk => by cases h; exact ⟨rfl, hk, rfl⟩
  | (j, f) :: l, a, b, k, h, hk => ⟨h.1, h.2.1, h.2.2.snoc hk⟩
theorem Chain.le : ∀ {l : List Blk} {a b : Nat}, Chain l a b → a ≤ b
  | [], a, b, h => by cases h; exact Nat.le_refl _
  | (j, f) :: l, a, b, h => Nat.le_trans (Nat.le_add_right _ _) h.2.2.le
theorem Chain.lt : ∀ {l : List Blk} {a b : Nat}, Chain l a b → ∀ p ∈ l, p.1 ≤ 8 ∧ a ≤ p.2 ∧ p.2 + 2 ^ p.1 ≤ b
  | [], _, _, _, _, h => by cases h
  | (j, f) :: l, a, b, h, p, hp => by
    rcases List.mem_cons.1 hp with rfl | hp
    · exact ⟨h.2.1, by rw [h.1]; exact Nat.le_refl _, by rw [h.1]; exact h.2.2.le⟩
    · obtain ⟨h1, h2, h3⟩ := h.2.2.lt p hp
      exact ⟨h1, Nat.le_trans (Nat.le_add_right _ _) h2, h3⟩
def ofK (l : List Blk) (k : Nat) : List Int := (l.filter fun p => decide (p.1 = k)).map fun p => (p.2 : Int)
theorem ofK_snoc (l : List Blk) (k f : Nat) : ofK (l ++ [(k, f)]) = upd (ofK l) k (ofK l k ++ [(f : Int)]) := by
  funext j
  unfold ofK upd
  rw [List.filter_append, List.map_append]
  by_cases h : j = k
  · subst h; simp
  · rw [if_neg h]; simp [Ne.symm h]
theorem ofK_len (l : List Blk) (k : Nat) : (ofK l k).length ≤ l.length := by
  unfold ofK; rw [List.length_map]; exact List.length_filter_le _ _
def Few (n at_ len : Nat) : Prop := ∃ j, j ≤ 8 ∧ at_ % 2 ^ j = 0 ∧ ((j = 8 ∧ len = at_ / 256) ∨ (j < 8 ∧ n - at_ < 2 ^ j ∧ len + j ≤ n / 256 + 8))
theorem Few.start (n : Nat) : Few n 0 0 := ⟨8, Nat.le_refl _, by decide, .inl ⟨rfl, rfl⟩⟩
theorem Few.step {n at_ len k : Nat} (h : Few n at_ len) (hk : k ≤ 8) (h1 : at_ % 2 ^ k = 0) (h2 : 2 ^ k ≤ n - at_) (hm : ∀ j, k < j → j ≤ 8 → ¬ (at_ % 2 ^ j = 0 ∧ 2 ^ j ≤ n - at_)) : Few n (at_ + 2 ^ k) (len + 1) := by
  obtain ⟨j, hj, h3, h4⟩ := h
  refine ⟨k, hk, by rw [Nat.add_mod_right]; exact h1, ?_⟩
  have p1 : at_ + 2 ^ k ≤ n := by have := Nat.two_pow_pos k; omega
  rcases h4 with ⟨rfl, h5⟩ | ⟨hj8, h5, h6⟩
  · by_cases hk8 : k = 8
    · subst hk8; left; refine ⟨rfl, ?_⟩; simp only [Nat.reducePow] at *; omega
    · right
      have hd : at_ % 2 ^ (k + 1) = 0 := by
        obtain ⟨c, hc⟩ := Nat.dvd_of_mod_eq_zero h3
        refine Nat.mod_eq_zero_of_dvd ⟨2 ^ (8 - (k + 1)) * c, ?_⟩
        rw [hc, ← Nat.mul_assoc, ← Nat.pow_add]; congr 2; omega
      have hb := hm (k + 1) (by omega) (by omega)
      have hp : 2 ^ (k + 1) = 2 ^ k * 2 := Nat.pow_succ 2 k
      have hlt : ¬ 2 ^ (k + 1) ≤ n - at_ := fun h => hb ⟨hd, h⟩
      refine ⟨by omega, by omega, ?_⟩
      have : at_ / 256 ≤ n / 256 := Nat.div_le_div_right (by omega)
      omega
  · right
    have hkj : k < j := by
      by_cases h : k < j
      · exact h
      · have := Nat.pow_le_pow_right (n := 2) (by decide) (show j ≤ k by omega)
        omega
    have hd : at_ % 2 ^ (k + 1) = 0 := by
      obtain ⟨c, hc⟩ := Nat.dvd_of_mod_eq_zero h3
      refine Nat.mod_eq_zero_of_dvd ⟨2 ^ (j - (k + 1)) * c, ?_⟩
      rw [hc, ← Nat.mul_assoc, ← Nat.pow_add]; congr 2; omega
    have hb := hm (k + 1) (by omega) (by omega)
    have hp : 2 ^ (k + 1) = 2 ^ k * 2 := Nat.pow_succ 2 k
    have hlt : ¬ 2 ^ (k + 1) ≤ n - at_ := fun h => hb ⟨hd, h⟩
    exact ⟨by omega, by omega, by omega⟩
theorem Few.end_ {n len : Nat} (h : Few n n len) (hn : n ≤ 1024) : len ≤ 12 := by
  obtain ⟨j, hj, _, ⟨rfl, h⟩ | ⟨h1, _, h⟩⟩ := h <;> omega
theorem andMask (a k : Nat) (hk : k ≤ 8) (ha : a < 4096) : and64 (a : Int) ((2 : Int) ^ k - 1) = ((a % 2 ^ k : Nat) : Int) := by
  have h1 : (2 : Int) ^ k - 1 = ((2 ^ k - 1 : Nat) : Int) := by
    have := Nat.two_pow_pos k
    rw [Int.natCast_sub this]; simp
  rw [h1]
  unfold and64
  rw [BitVec.ofInt_natCast, BitVec.ofInt_natCast, BitVec.toNat_and, BitVec.toNat_ofNat, BitVec.toNat_ofNat]
  have hp : 2 ^ k ≤ 256 := Nat.pow_le_pow_right (n := 2) (by decide) hk
  rw [Nat.mod_eq_of_lt (a := a) (by omega), Nat.mod_eq_of_lt (a := 2 ^ k - 1) (by omega), Nat.and_two_pow_sub_one_eq_mod]
  have : a % 2 ^ k < 2 ^ k := Nat.mod_lt _ (Nat.two_pow_pos k)
  rw [IntKind.wrap_i64]
  omega
structure Put (K : Kont) : Prop where
  put : ∀ {w : World} {b : Nat} {n fr : Int} {lv : Nat → Value} {ls : Nat → List Int}, BudAt w b n fr lv ls → ∀ {k : Nat}, k < 9 → ∀ {t : Int}, (∀ x ∈ ls k, x < t) → (ls k).length ≤ 900000 →
    (K.enter 424 #[pt b, n64 t, n64 k] w).all fun x => (∃ v', BudAt x.2 b n fr (upd lv k v') (upd ls k (ls k ++ [t])) ∧ ∀ x, blkOf v' = some x → w.heap.size ≤ x) ∧ Keeps w x.2 (fun j => j = b ∨ blkOf (lv k) = some j)
theorem ofK_lt {l : List Blk} {a b : Nat} (h : Chain l a b) (k : Nat) : ∀ x ∈ ofK l k, x < (b : Int) := fun x hx => by
  unfold ofK at hx
  obtain ⟨p, hp, rfl⟩ := List.mem_map.1 hx
  obtain ⟨_, _, h3⟩ := h.lt p (List.mem_filter.1 hp).1
  have := Nat.two_pow_pos p.1
  omega
theorem run296 {K : Kont} {fuel : Nat} (hP : Put K) (hf : 2000000 ≤ fuel) {w : World} (n : Int) :
    wpGFn Tryz.prog K fuel 296 h296 #[n64 n] w fun u w' => Keeps w w' (fun _ => False) ∧ ((n < 8 ∨ 1024 < n) ∧ u = .tuple #[.pointer none, n64 2] ∨ 8 ≤ n ∧ n ≤ 1024 ∧ ∃ b lv l, u = .tuple #[pt b, n64 0] ∧ w.heap.size ≤ b ∧ (∀ k, k < 9 → ∀ x, blkOf (lv k) = some x → w.heap.size ≤ x) ∧ Chain l 0 n.toNat ∧ l.length ≤ 12 ∧ BudAt w' b n n lv (ofK l)) := by
  rw [gfn_start]
  simp -implicitDefEqProofs [h296, W.e, W.e0, W.mv, W.sq, W.og, W.gr, W.fa, W.nn, fillS, Instr.fill]
  refine ⟨fun h8 => ⟨fun h => ⟨Keeps.refl _ _, .inr h⟩, fun h1024 => ?_⟩, fun h => ⟨Keeps.refl _ _, .inl h⟩⟩
  obtain ⟨N, hN⟩ : ∃ N : Nat, n = N := ⟨n.toNat, by omega⟩
  subst hN
  have kp := Keeps.push w (.cells #[n64 N, .slice none 0 0, .slice none 0 0, .slice none 0 0, .slice none 0 0, .slice none 0 0, .slice none 0 0, .slice none 0 0, .slice none 0 0, .slice none 0 0, n64 0] 516) (fun _ => False)
  have hb0 : BudAt (World.push w (.cells #[n64 N, .slice none 0 0, .slice none 0 0, .slice none 0 0, .slice none 0 0, .slice none 0 0, .slice none 0 0, .slice none 0 0, .slice none 0 0, .slice none 0 0, n64 0] 516)) w.heap.size N 0 (fun _ => .slice none 0 0) (ofK []) :=
    ⟨⟨_, by simp; rfl, rfl, rfl, rfl, fun k hk => by
      match k, hk with
      | 0, _ | 1, _ | 2, _ | 3, _ | 4, _ | 5, _ | 6, _ | 7, _ | 8, _ => rfl⟩, fun k hk => RowE.nil _, fun i j _ _ _ x hx => by cases hx⟩
  generalize World.push w (.cells #[n64 N, .slice none 0 0, .slice none 0 0, .slice none 0 0, .slice none 0 0, .slice none 0 0, .slice none 0 0, .slice none 0 0, .slice none 0 0, .slice none 0 0, n64 0] 516) = w1 at *
  refine loop_go (fun m ρ w' => ∃ (a : Nat) (lv : Nat → Value) (l : List Blk), m = N - a ∧ a ≤ N ∧ ρ 0 = n64 N ∧ ρ 4 = pt w.heap.size ∧ ρ 5 = n64 a ∧ Keeps w w' (fun _ => False) ∧ (∀ k, k < 9 → ∀ x, blkOf (lv k) = some x → w.heap.size ≤ x) ∧ Chain l 0 a ∧ Few N a l.length ∧ BudAt w' w.heap.size N 0 lv (ofK l)) ?_ (i := N) ?_ (by show N < fuel; omega)
  · rintro m ρ w2 ⟨a, lv, l, rfl, ha, e0, e4, e5, hk, hlv, hch, hfew, hb⟩
    by_cases h : a < N
    · simp -implicitDefEqProofs [e0, e5, h]
      refine loop_go (fun m ρ' w' => ∃ k : Nat, m = k ∧ k ≤ 8 ∧ ρ' 0 = n64 N ∧ ρ' 4 = pt w.heap.size ∧ ρ' 5 = n64 a ∧ ρ' 6 = n64 k ∧ w' = w2 ∧ ∀ j, k < j → j ≤ 8 → ¬ (a % 2 ^ j = 0 ∧ 2 ^ j ≤ N - a)) ?_ (i := 8) ?_ (by show 8 < fuel; omega)
      · rintro m ρ' w3 ⟨k, rfl, hk8, e0', e4', e5', e6', rfl, hmax⟩
        have hp : (2 : Int) ^ m = ((2 ^ m : Nat) : Int) := by simp
        have hp256 : 2 ^ m ≤ 256 := Nat.pow_le_pow_right (n := 2) (by decide) hk8
        have hp1 : 1 ≤ 2 ^ m := Nat.two_pow_pos m
        have hmin : min m 64 = m := by omega
        have c1 : IntKind.i64.wrap ((2 : Int) ^ m) = (2 : Int) ^ m := by rw [hp, IntKind.wrap_i64]; omega
        have c2 : IntKind.i64.wrap ((2 : Int) ^ m - 1) = (2 : Int) ^ m - 1 := by rw [hp, IntKind.wrap_i64]; omega
        have c3 := andMask a m hk8 (by omega)
        have c4 : IntKind.i64.wrap ((N : Int) - a) = (N : Int) - a := by rw [IntKind.wrap_i64]; omega
        by_cases h1 : a % 2 ^ m = 0
        · have c3' : and64 (a : Int) ((2 : Int) ^ m - 1) = 0 := by rw [c3, h1]; rfl
          by_cases h2 : 2 ^ m ≤ N - a
          · have g1 : (2 : Int) ^ m ≤ (N : Int) - a := by rw [hp]; omega
            have g2 : ¬ (N : Int) - a < (2 : Int) ^ m := by omega
            have hm9 : m < 9 := by omega
            simp -implicitDefEqProofs [e0', e4', e5', e6', hmin, c1, c2, c3', c4, g2]
            refine valA_of (hP.put hb hm9 (ofK_lt hch m) (by have := ofK_len l m; obtain ⟨j, _, _, ⟨_, h⟩ | ⟨_, _, h⟩⟩ := hfew <;> omega)) (fun u w4 hq => ?_)
            obtain ⟨⟨v', hb4, hnew4⟩, hk4⟩ := hq
            simp only at hb4 hk4 hnew4
            have c5 : IntKind.i64.wrap ((a : Int) + (2 : Int) ^ m) = (a : Int) + (2 : Int) ^ m := by rw [hp, IntKind.wrap_i64]; omega
            simp -implicitDefEqProofs [e0', e4', e5', e6', hmin, c1, c5]
            have hnew : ∀ x, blkOf v' = some x → w.heap.size ≤ x := fun x hx => Nat.le_trans hk.1 (hnew4 x hx)
            refine ⟨N - (a + 2 ^ m), by omega, a + 2 ^ m, rfl, by omega, by simp, hk.trans hk4 (fun _ _ h => h) (fun j hj h => ?_), upd lv m v', fun k hk9 x hx => ?_, l ++ [(m, a)], hch.snoc hk8, by rw [List.length_append]; exact hfew.step hk8 h1 h2 hmax, by rw [ofK_snoc]; exact hb4⟩
            · rcases h with rfl | h
              · omega
              · have := hlv m hm9 j h; omega
            · by_cases h : k = m
              · subst h; rw [upd_at] at hx; exact hnew x hx
              · rw [upd_ne _ _ h] at hx; exact hlv k hk9 x hx
          · have g1 : (N : Int) - a < (2 : Int) ^ m := by rw [hp]; omega
            have g2 : ¬ (2 : Int) ^ m ≤ (N : Int) - a := by omega
            obtain ⟨q, rfl⟩ : ∃ q, m = q + 1 := ⟨m - 1, by
              have : m ≠ 0 := fun h => by subst h; simp at h2; omega
              omega⟩
            have c6 : IntKind.i64.wrap (((q + 1 : Nat) : Int) - 1) = (q : Int) := by rw [IntKind.wrap_i64]; omega
            have c7 : IntKind.i64.wrap (q : Int) = (q : Int) := by rw [IntKind.wrap_i64]; omega
            simp -implicitDefEqProofs [e0', e4', e5', e6', hmin, c1, c2, c3', c4, g1, c7]
            refine ⟨by omega, fun _ => ⟨by omega, fun _ => ⟨q, by omega, by omega, rfl, fun j hj hj8 hj0 => ?_⟩⟩⟩
            by_cases hjq : j = q + 1
            · subst hjq; omega
            · have := hmax j (by omega) hj8; omega
        · have c3' : ¬ and64 (a : Int) ((2 : Int) ^ m - 1) = 0 := by rw [c3]; omega
          obtain ⟨q, rfl⟩ : ∃ q, m = q + 1 := ⟨m - 1, by
            have : m ≠ 0 := fun h => by subst h; simp at h1; omega
            omega⟩
          have c6 : IntKind.i64.wrap (((q + 1 : Nat) : Int) - 1) = (q : Int) := by rw [IntKind.wrap_i64]; omega
          have c7 : IntKind.i64.wrap (q : Int) = (q : Int) := by rw [IntKind.wrap_i64]; omega
          simp -implicitDefEqProofs [e0', e4', e5', e6', hmin, c1, c2, c3', c7]
          refine ⟨by omega, fun _ => ⟨q, by omega, by omega, rfl, fun j hj hj8 hj0 => ?_⟩⟩
          by_cases hjq : j = q + 1
          · subst hjq; exact absurd hj0 h1
          · have := hmax j (by omega) hj8; omega
      · exact ⟨8, rfl, Nat.le_refl _, by simp [e0], by simp [e4], by simp [e5], by simp, rfl, fun j h1 h2 => by omega⟩
    · have hae : a = N := by omega
      subst hae
      obtain ⟨cs, hc, hsz, h0, h10, hcs⟩ := hb.cell
      simp -implicitDefEqProofs [e0, e4, e5, hc, hsz]
      have k1 : Keeps w2 (World.set w2 w.heap.size (.cells (cs.setIfInBounds 10 (n64 a)) 516)) (fun j => j = w.heap.size) := Keeps.set _ _ _ (fun _ => rfl)
      refine ⟨hk.trans k1 (fun _ _ h => h) (fun j hj h => by omega), by omega, by omega, lv, hlv, l, hch, hfew.end_ (by omega), ⟨cs.setIfInBounds 10 (n64 a), by rw [cells_set, if_pos ⟨rfl, cells_lt hc⟩], by simp [hsz], by rw [Array.getElem?_setIfInBounds_ne (by omega)]; exact h0, by rw [Array.getElem?_setIfInBounds_self_of_lt (by omega)], fun j hj => by rw [Array.getElem?_setIfInBounds_ne (by omega)]; exact hcs j hj⟩, fun j hj => (hb.row j hj).keep k1 (fun x hx hh => ?_), hb.apart⟩
      subst hh
      obtain ⟨_, h2⟩ := rowTag (hb.row j hj) hx
      rw [hc] at h2; simp [EInt] at h2
  · exact ⟨0, fun _ => .slice none 0 0, [], rfl, Nat.zero_le _, by simp, by simp, by simp, kp, (fun k _ x hx => by cases hx), rfl, Few.start N, hb0⟩
end Go.Proofs.YteljibbnpheekaaGreat
