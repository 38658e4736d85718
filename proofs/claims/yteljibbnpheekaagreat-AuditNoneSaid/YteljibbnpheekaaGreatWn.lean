import Derived.Test.YteljibbnpheekaaGreatWj
namespace Go.Proofs.YteljibbnpheekaaGreat
open Go Go.Ideal
def Sorts (w : World) (v : Value) (xs : List Blk) (w' : World) : Prop := (∃ ys, RowE EBk w' v ys ∧ ys.Perm xs) ∧ Keeps w w' (fun j => blkOf v = some j)
theorem run551 {K : Kont} {fuel : Nat} (h : ∀ {w : World} {v : Value} {xs : List Blk}, RowE EBk w v xs → xs.length ≤ 12 → (K.enter 579 #[v, n64 0, n64 xs.length, f493] w).all fun x => Sorts w v xs x.2) (hf : 0 < fuel) {w : World} {v b : Value} {xs : List Blk} (hv : RowE EBk w v xs) (hn : xs.length ≤ 12) :
    wpGFn Tryz.prog K fuel 551 h551 #[v, n64 0, n64 xs.length, b, f493] w fun _ w' => Sorts w v xs w' := by
  rw [gfn_start]
  simp -implicitDefEqProofs [h551, W.e, W.mv, W.sq, W.og, W.gr, W.ex]
  refine loop_exit ?_ hf
  have x1 : IntKind.i64.wrap (xs.length : Int) = xs.length := by rw [IntKind.wrap_i64]; omega
  have g1 : (xs.length : Int) ≤ 12 := by omega
  simp -implicitDefEqProofs [x1, g1]
  refine valA_of (h hv hn) (fun z w1 hq => ?_)
  simp -implicitDefEqProofs
  exact hq
structure SortB (K : Kont) : Prop extends Sort0 K where
  p551 : ∀ {w : World} {v b : Value} {xs : List Blk}, RowE EBk w v xs → xs.length ≤ 12 → (K.enter 551 #[v, n64 0, n64 xs.length, b, f493] w).all fun x => Sorts w v xs x.2
theorem run492 {K : Kont} {fuel : Nat} (hS : SortB K) {w : World} {v : Value} {xs : List Blk} (hv : RowE EBk w v xs) (hn : xs.length ≤ 12) :
    wpGFn Tryz.prog K fuel 492 h492 #[v, f493] w fun _ w' => Sorts w v xs w' := by
  rw [gfn_start]
  have hl := fun w' => hv.lenS (w' := w')
  have hw : IntKind.u64.wrap (xs.length : Int) = xs.length := by rw [IntKind.wrap_u64]; omega
  simp -implicitDefEqProofs [h492, W.e, W.mv, W.sq, W.og, hl, hw]
  refine valA_of (hS.len w (n := xs.length) (by omega)) (fun z w1 hq => ?_)
  obtain ⟨hw1, b, hb⟩ := hq
  simp only at hw1 hb
  subst hw1 hb
  simp -implicitDefEqProofs
  refine valA_of (hS.p551 hv hn) (fun z w2 hq => ?_)
  simp -implicitDefEqProofs
  exact hq
def byK (l : List Blk) (k : Nat) : List Blk := l.filter fun p => decide (p.1 < k)
theorem byK_step (l : List Blk) (k : Nat) : (byK l k ++ l.filter fun p => decide (p.1 = k)).Perm (byK l (k + 1)) := by
  have h := List.filter_append_perm (fun p : Blk => decide (p.1 < k)) (byK l (k + 1))
  refine List.Perm.trans ?_ h
  unfold byK
  rw [List.filter_filter, List.filter_filter]
  have e1 : (fun p : Blk => decide (p.1 < k) && decide (p.1 < k + 1)) = fun p => decide (p.1 < k) := by
    funext p; by_cases h : p.1 < k
    · have : p.1 < k + 1 := by omega
      simp [h, this]
    · simp [h]
  have e2 : (fun p : Blk => !decide (p.1 < k) && decide (p.1 < k + 1)) = fun p => decide (p.1 = k) := by
    funext p; by_cases h : p.1 = k
    · simp [h]
    · by_cases h' : p.1 < k
      · simp [h, h']
      · have : ¬ p.1 < k + 1 := by omega
        simp [h, h', this]
  rw [e1, e2]
theorem byK_all {l : List Blk} (h : ∀ p ∈ l, p.1 ≤ 8) : byK l 9 = l := by
  unfold byK
  rw [List.filter_eq_self]
  intro p hp
  have := h p hp
  simp; omega
def tolds (l : List Blk) (k : Nat) : List Blk := l.filter fun p => decide (p.1 = k)
theorem tolds_ofK (l : List Blk) (k : Nat) : ofK l k = (tolds l k).map fun p => (p.2 : Int) := rfl
theorem tolds_fst {l : List Blk} {k : Nat} : ∀ p ∈ tolds l k, p.1 = k := fun p hp => by
  have := (List.mem_filter.1 hp).2; simpa using this
theorem ag51 : aggOf Tryz.prog 51 = some none := by kernel_rfl
theorem rowB (f k : Nat) (w : World) : rowS 183 2 1 #[n64 0, n64 0] [(0, .agg #[n64 (f : Int), n64 (k : Int)])] w = .ret (.slice (some ⟨w.heap.size, 0, none⟩) 1 1, World.push w (.cells #[n64 f, n64 k] 183)) := rfl
theorem src_blk {w : World} {r f k : Nat} (h : cellsOf? w r = some (#[n64 f, n64 k], 183, (0, 0))) : SrcE EBk w (.slice (some ⟨r, 0, none⟩) 1 1) [(k, f)] := (RowE.mk (E := EBk) (c := #[n64 f, n64 k]) (xs := [(k, f)]) h rfl rfl (by simp [OPEN])).src
theorem run387 {K : Kont} {fuel : Nat} (hS : ∀ {w : World} {v : Value} {xs : List Blk}, RowE EBk w v xs → xs.length ≤ 12 → (K.enter 492 #[v, f493] w).all fun x => Sorts w v xs x.2) (hf : 1000 ≤ fuel) {w : World} {b n : Nat} {lv : Nat → Value} {l : List Blk} (hb : BudAt w b n n lv (ofK l)) (hl : ∀ p ∈ l, p.1 ≤ 8) (hn : l.length ≤ 12) :
    wpGFn Tryz.prog K fuel 387 h387 #[pt b] w fun z w' => Old w w' ∧ ∃ ys, RowE EBk w' z ys ∧ ys.Perm l ∧ ∀ x, blkOf z = some x → w.heap.size ≤ x := by
  rw [gfn_start]
  obtain ⟨cs, hc, hsz, h0, h10, hcs⟩ := hb.cell
  have hsz2 : 1 + 9 ≤ cs.size := by omega
  simp -implicitDefEqProofs [h387, W.e, W.mv, W.sq, W.og, W.fa, W.ld, W.nn, hc, hsz2, n411]
  have hget : ∀ k, k < 9 → (cs.extract 1 (1 + 9))[k]? = some (lv k) := fun k hk => by rw [Array.getElem?_extract, if_pos (by omega)]; exact hcs k hk
  refine loop_go (fun m ρ w' => ∃ (k : Nat) (v : Value) (ys : List Blk), m = 9 - k ∧ k ≤ 9 ∧ ρ 3 = v ∧ ρ 14 = .agg (cs.extract 1 (1 + 9)) ∧ ρ 15 = n64 k ∧ Old w w' ∧ RowE EBk w' v ys ∧ ys.Perm (byK l k) ∧ ∀ x, blkOf v = some x → w.heap.size ≤ x) ?_ (i := 9) ?_ (by show 9 < fuel; omega)
  · rintro m ρ w1 ⟨k, v, ys, rfl, hk, e3, e14, e15, ho, hr, hp, hvb⟩
    by_cases h : k < 9
    · have hk9 : (k : Int) < 9 := by omega
      simp -implicitDefEqProofs [e15, hk9]
      obtain ⟨inf, i1, i2⟩ := i51
      rw [idxArr (cs := cs.extract 1 (1 + 9)) (k := .i64) (i := k) (v := lv k) a514 i1 i2 ag51 rfl rfl (by simp [e14]) (by simp [e15]) h (hget k h)]
      have hlr := (hb.row k h).keep ho (fun _ _ h => h)
      have hln := fun w' => hlr.lenS (w' := w')
      have hlenk : (ofK l k).length = (tolds l k).length := by rw [tolds_ofK, List.length_map]
      rw [hlenk] at hln
      simp -implicitDefEqProofs [hln]
      have hys12 : ys.length ≤ 12 := by rw [hp.length_eq]; exact Nat.le_trans (List.length_filter_le _ _) hn
      have htl : (tolds l k).length ≤ 12 := Nat.le_trans (List.length_filter_le _ _) hn
      refine loop_go (fun m ρ w' => ∃ (q : Nat) (v : Value), m = (tolds l k).length - q ∧ q ≤ (tolds l k).length ∧ ρ 3 = v ∧ ρ 4 = n64 k ∧ ρ 14 = .agg (cs.extract 1 (1 + 9)) ∧ ρ 15 = n64 k ∧ ρ 19 = lv k ∧ ρ 20 = n64 (tolds l k).length ∧ ρ 21 = n64 q ∧ Old w w' ∧ RowE EBk w' v (ys ++ (tolds l k).take q) ∧ ∀ x, blkOf v = some x → w.heap.size ≤ x) ?_ (i := (tolds l k).length) ?_ (by show (tolds l k).length < fuel; omega)
      · rintro m ρ w2 ⟨q, v, rfl, hq, e3, e4, e14, e15, e19, e20, e21, ho, hr, hvb⟩
        by_cases h' : q < (tolds l k).length
        · have hlr := (hb.row k h).keep ho (fun _ _ h => h)
          obtain ⟨rb, ro, rcap, rc, hve, hrc, hrsz, hext⟩ := hlr.int (i := q) (by omega)
          have hgq : (ofK l k)[q]'(by omega) = (((tolds l k)[q]).2 : Int) := by simp [tolds_ofK]
          rw [hgq] at hext
          rw [hlenk] at hve
          have hkq : ((tolds l k)[q]).1 = k := tolds_fst _ (List.getElem_mem h')
          generalize hfq : ((tolds l k)[q]).2 = fq at *
          have hkt : (tolds l k)[q] = (k, fq) := Prod.ext hkq hfq
          have hgetq := getOf hext
          have x1 : IntKind.i64.wrap ((q : Int) + 1) = (q : Int) + 1 := by rw [IntKind.wrap_i64]; omega
          simp -implicitDefEqProofs [e3, e4, e19, e20, e21, h', hve, hrc, hrsz, hgetq, fillS, Instr.fill, rowB]
          have o3 := Old.push w2 (.cells #[n64 fq, n64 k] 183)
          have hs3 : cellsOf? (World.push w2 (.cells #[n64 fq, n64 k] 183)) w2.heap.size = some (#[n64 fq, n64 k], 183, (0, 0)) := by simp
          have hr3 := hr.keep o3 (fun _ _ h => h)
          have hz := o3.1
          have hz2 := ho.1
          generalize World.push w2 (.cells #[n64 fq, n64 k] 183) = w3 at *
          refine appE (E := EBk) (by_ := 16) hr3 (src_blk hs3) (by simp; omega) (by decide) (fun v4 w4 hr4 hk4 _ hb4 => ?_)
          simp -implicitDefEqProofs [e4, e14, e15, e19, e20, e21, x1]
          refine ⟨(tolds l k).length - (q + 1), by omega, q + 1, rfl, by omega, hve, by omega, Keeps.trans (ho.trans o3) hk4 (fun _ _ h => h) (fun j hj h => by have := hvb j h; omega), ?_, fun x hx => by rw [hb4 (by simp)] at hx; have := Option.some.inj hx; omega⟩
          rw [List.take_succ_eq_append_getElem h', hkt, ← List.append_assoc]
          exact hr4
        · have hqe : q = (tolds l k).length := by omega
          subst hqe
          rw [List.take_length] at hr
          have x1 : IntKind.i64.wrap ((k : Int) + 1) = (k : Int) + 1 := by rw [IntKind.wrap_i64]; omega
          simp -implicitDefEqProofs [e3, e14, e15, e20, e21, x1]
          exact ⟨9 - (k + 1), by omega, k + 1, rfl, by omega, by omega, ho, _, hr, (List.Perm.append_right _ hp).trans (byK_step l k), hvb⟩
      · exact ⟨0, v, by simp, Nat.zero_le _, by simp [e3], by simp, by simp [e14], by simp [e15], by simp, by simp, by simp, ho, by simpa using hr, hvb⟩
    · have hke : k = 9 := by omega
      subst hke
      rw [byK_all hl] at hp
      simp -implicitDefEqProofs [e3, e15]
      refine valA_of (hS hr (by rw [hp.length_eq]; exact hn)) (fun z w2 hq => ?_)
      obtain ⟨⟨zs, hz1, hz2⟩, hk2⟩ := hq
      simp only at hz1 hk2
      simp -implicitDefEqProofs [e3]
      exact ⟨Keeps.trans ho hk2 (fun _ _ h => h) (fun j hj h => by have := hvb j h; omega), zs, hz1, hz2.trans hp, hvb⟩
  · exact ⟨0, nilS, [], rfl, Nat.zero_le _, by simp, by simp, by simp, Keeps.refl _ _, RowE.nil _, by simp [byK], fun x hx => by cases hx⟩
end Go.Proofs.YteljibbnpheekaaGreat
namespace Go.Proofs.YteljibbnpheekaaGreat
open Go Go.Ideal
theorem under111 : Tryz.prog.underlying 111 = some (.map 3 3) := by kernel_rfl
structure PoolN (w : World) (p pm : Nat) (k n : Int) : Prop where
  cell : cellsOf? w p = some (#[n64 k, n64 n, mpV pm, n64 0, n64 0], 239, (0, 0))
  map : MapAt w pm []
theorem PoolN.keep {w w' : World} {F : Nat → Prop} {p pm : Nat} {k n : Int} (h : PoolN w p pm k n) (hk : Keeps w w' F) (h1 : ¬ F p) (h2 : ¬ F pm) : PoolN w' p pm k n := ⟨hk.cells h.cell h1, h.map.keep hk h2⟩
section
variable {K : Kont} {fuel : Nat} {w : World}
theorem run159 (hS : ∀ {w : World} {v : Value}, Emp v → (K.enter 137 #[v] w).all fun x => x.2 = w) (hf : 1 < fuel) {c p pm : Nat} {k n : Int} {t : TypeId} (hc : cellsOf? w c = some (#[pt p], t, (0, 0))) (h : PoolN w p pm k n) : wpGFn Tryz.prog K fuel 159 h159 #[pt c] w fun z w' => Old w w' ∧ Emp z := by
  rw [gfn_start]
  have hp := h.cell
  simp -implicitDefEqProofs [h159, W.e, W.mv, W.sq, W.og, W.fa, W.ld, W.ex, W.nn, hc, hp]
  refine mrange_go (m := []) (r := pm) under111 (by simp) rfl h.map (fun o hit hno hk1 => ?_)
  simp -implicitDefEqProofs
  refine loop_exit ?_ (by show 0 < fuel; omega)
  simp -implicitDefEqProofs
  refine next_go (m := []) (it := w.heap.size) (r := pm) (done := []) (by simp) rfl hit (fun hall => ?_) (fun k u w2 hg hkn hit2 hk2 => ?_)
  · simp -implicitDefEqProofs
    refine valA_of (hS ⟨_, _, rfl⟩) (fun z w2 hq => ?_)
    simp only at hq
    subst hq
    simp -implicitDefEqProofs
    exact ⟨hk1, _, _, rfl⟩
  · cases hg
theorem run161 {c p pm : Nat} {k n : Int} {t : TypeId} (hc : cellsOf? w c = some (#[pt p], t, (0, 0))) (h : PoolN w p pm k n) : wpGFn Tryz.prog K fuel 161 h161 #[pt c] w fun _z w' => w' = w := by
  rw [gfn_start]
  have hp := h.cell
  simp -implicitDefEqProofs [h161, W.e, W.mv, W.sq, W.og, W.fa, W.ld, W.nn, hc, hp, len_map h.map.is]
theorem run162 {c p pm : Nat} {k n : Int} {t : TypeId} (hc : cellsOf? w c = some (#[pt p], t, (0, 0))) (h : PoolN w p pm k n) : wpGFn Tryz.prog K fuel 162 h162 #[pt c] w fun _z w' => w' = w := by
  rw [gfn_start]
  have hp := h.cell
  simp -implicitDefEqProofs [h162, W.mv, W.sq, W.og, W.fa, W.ld, W.nn, hc, hp]
theorem run158 (hQ : ∀ {c p pm : Nat} {k n : Int} {t : TypeId} {w : World}, cellsOf? w c = some (#[pt p], t, (0, 0)) → PoolN w p pm k n → (K.enter 159 #[pt c] w).all fun x => Old w x.2 ∧ Emp x.1) {c p pm : Nat} {k n : Int} {t : TypeId} (hc : cellsOf? w c = some (#[pt p], t, (0, 0))) (h : PoolN w p pm k n) : wpGFn Tryz.prog K fuel 158 h158 #[pt p, .func (.func 159) #[] #[pt c]] w fun z w' => Old w w' ∧ Emp z := by
  rw [gfn_start]
  simp -implicitDefEqProofs [h158, W.e, W.mv, W.sq, W.og, n148, body 159 body159]
  refine valA_of (hQ hc h) (fun z w2 hq => ?_)
  simp -implicitDefEqProofs
  exact hq
theorem run160 (f : Nat) (hf : f = 161 ∨ f = 162) (hQ : ∀ {c p pm : Nat} {k n : Int} {t : TypeId} {w : World}, cellsOf? w c = some (#[pt p], t, (0, 0)) → PoolN w p pm k n → (K.enter f #[pt c] w).all fun x => x.2 = w) {c p pm : Nat} {k n : Int} {t : TypeId} (hc : cellsOf? w c = some (#[pt p], t, (0, 0))) (h : PoolN w p pm k n) : wpGFn Tryz.prog K fuel 160 h160 #[pt p, .func (.func f) #[] #[pt c]] w fun _z w' => w' = w := by
  rw [gfn_start]
  have hb : (Tryz.prog.funcs[f]?).any (fun fn => fn.body.isSome && fn.name != "runtime.NumGoroutine") = true := by
    rcases hf with rfl | rfl
    · exact body161
    · exact body162
  simp -implicitDefEqProofs [h160, W.e, W.mv, W.sq, W.og, n148, body f hb]
  refine valA_of (hQ hc h) (fun z w2 hq => ?_)
  simp -implicitDefEqProofs
  exact hq
theorem run253 (hQ : ∀ {w : World} {b n : Nat} {lv : Nat → Value} {l : List Blk}, BudAt w b n n lv (ofK l) → (∀ p ∈ l, p.1 ≤ 8) → l.length ≤ 12 → (K.enter 387 #[pt b] w).all fun x => Old w x.2 ∧ ∃ ys, RowE EBk x.2 x.1 ys ∧ ys.Perm l ∧ ∀ y, blkOf x.1 = some y → w.heap.size ≤ y)
    {B c n b : Nat} {kv : Value} {lv : Nat → Value} {l : List Blk} (h : KinAt w B c n b kv lv l) : wpGFn Tryz.prog K fuel 253 h253 #[pt c] w fun z w' => Old w w' ∧ ∃ ys, RowE EBk w' z ys ∧ ys.Perm l ∧ ∀ y, blkOf z = some y → w.heap.size ≤ y := by
  rw [gfn_start]
  have hc := h.cell
  simp -implicitDefEqProofs [h253, W.e, W.mv, W.sq, W.og, W.fa, W.ld, W.nn, n222, hc]
  refine valA_of (hQ h.bud (fun p hp => (h.chain.lt p hp).1) h.few) (fun z w2 hq => ?_)
  simp -implicitDefEqProofs
  exact hq
theorem run126 (hQ : ∀ {w : World} {B c n b : Nat} {kv : Value} {lv : Nat → Value} {l : List Blk}, KinAt w B c n b kv lv l → (K.enter 253 #[pt c] w).all fun x => Old w x.2 ∧ ∃ ys, RowE EBk x.2 x.1 ys ∧ ys.Perm l ∧ ∀ y, blkOf x.1 = some y → w.heap.size ≤ y)
    {B m n : Nat} {mark : Int} {r k f b : Nat} {kv fv : Value} {lv : Nat → Value} {l : List Blk} (h : MemAt w B m n mark r k f b kv fv lv l) : wpGFn Tryz.prog K fuel 126 h126 #[pt m] w fun z w' => Old w w' ∧ ∃ ys, RowE EBk w' z ys ∧ ys.Perm l ∧ ∀ y, blkOf z = some y → w.heap.size ≤ y := by
  rw [gfn_start]
  have hc := h.cell
  simp -implicitDefEqProofs [h126, W.e, W.mv, W.sq, W.og, W.fa, W.ld, W.nn, nil129, hc]
  refine valA_of (hQ h.kin) (fun z w2 hq => ?_)
  simp -implicitDefEqProofs
  exact hq
def Tells (w : World) (z : Value) (n : Nat) (w0 : World) : Prop := ∃ ys l, RowE EBk w z ys ∧ ys.Perm l ∧ Chain l 0 n ∧ l.length ≤ 12 ∧ ∀ y, blkOf z = some y → w0.heap.size ≤ y
theorem run37 (hQ : ∀ {w : World} {B m n : Nat} {mark : Int} {r k f b : Nat} {kv fv : Value} {lv : Nat → Value} {l : List Blk}, MemAt w B m n mark r k f b kv fv lv l → (K.enter 126 #[pt m] w).all fun x => Old w x.2 ∧ ∃ ys, RowE EBk x.2 x.1 ys ∧ ys.Perm l ∧ ∀ y, blkOf x.1 = some y → w.heap.size ≤ y)
    {B x : Nat} {u : Sup} (h : Fresh w B x u) : wpGFn Tryz.prog K fuel 37 h37 #[pt x] w fun z w' => Old w w' ∧ Tells w' z u.frames.toNat w := by
  obtain ⟨m, t, b, g, r, o, v, c, k, wv, pools, bigs, hx, ⟨_, _, _, _, _, _, _, l, hm⟩, -⟩ := h.cell
  rw [gfn_start]
  simp -implicitDefEqProofs [h37, W.e, W.mv, W.sq, W.og, W.fa, W.ld, W.nn, hx, n40]
  refine valA_of (hQ hm) (fun z w1 hq => ?_)
  obtain ⟨ho, ys, h1, h2, h3⟩ := hq
  simp -implicitDefEqProofs
  exact ⟨ho, ys, l, h1, h2, hm.kin.chain, hm.kin.few, h3⟩
theorem run125 (hS : ∀ {w : World} {v f : Value}, Emp v → (K.enter 250 #[v, f] w).all fun x => x.2 = w) {b : Nat} (h : cellsOf? w b = some (#[nilS], 268, (0, 0))) : wpGFn Tryz.prog K fuel 125 h125 #[pt b] w fun z w' => Old w w' ∧ Emp z := by
  rw [gfn_start]
  have hlt := cells_lt h
  have hne : ¬ b = w.heap.size := by omega
  simp -implicitDefEqProofs [h125, W.e, W.mv, W.sq, W.og, W.fa, W.ld, W.nn, h, n135, row0, hne]
  refine app0 (es := 4) (by decide) (by decide) (empRow 215 4 (by decide) w) ?_
  simp -implicitDefEqProofs
  refine valA_of (hS ⟨_, _, rfl⟩) (fun z w1 hq => ?_)
  simp only at hq
  subst hq
  simp -implicitDefEqProofs
  exact ⟨Old.push _ _, _, _, rfl⟩
theorem run36 (hQ : ∀ {w : World} {b : Nat}, cellsOf? w b = some (#[nilS], 268, (0, 0)) → (K.enter 125 #[pt b] w).all fun x => Old w x.2 ∧ Emp x.1) {B x : Nat} {u : Sup} (h : Fresh w B x u) : wpGFn Tryz.prog K fuel 36 h36 #[pt x] w fun z w' => Old w w' ∧ Emp z := by
  obtain ⟨m, t, b, g, r, o, v, c, k, wv, pools, bigs, hx, -, -, -, -, ⟨hv, _⟩, -⟩ := h.cell
  rw [gfn_start]
  simp -implicitDefEqProofs [h36, W.e, W.mv, W.sq, W.og, W.fa, W.ld, W.nn, hx, n40]
  refine valA_of (hQ hv) (fun z w1 hq => ?_)
  simp -implicitDefEqProofs
  exact hq
theorem run75 (hQ : ∀ {c p pm : Nat} {k n : Int} {t : TypeId} {w : World}, cellsOf? w c = some (#[pt p], t, (0, 0)) → PoolN w p pm k n → (K.enter 158 #[pt p, .func (.func 159) #[] #[pt c]] w).all fun x => Old w x.2 ∧ Emp x.1) {p pm : Nat} {k n : Int} (h : PoolN w p pm k n) : wpGFn Tryz.prog K fuel 75 h75 #[pt p] w fun z w' => Old w w' ∧ Emp z := by
  rw [gfn_start]
  simp -implicitDefEqProofs [h75, W.e, W.mv, W.sq, W.og, W.ld]
  have o1 := Old.push w (.cells #[pt p] 148)
  have hc1 : cellsOf? (World.push w (.cells #[pt p] 148)) w.heap.size = some (#[pt p], 148, (0, 0)) := by simp
  have hp1 := h.keep o1 (fun h => h) (fun h => h)
  generalize World.push w (.cells #[pt p] 148) = w1 at *
  refine valA_of (hQ hc1 hp1) (fun z w2 hq => ?_)
  simp -implicitDefEqProofs
  exact ⟨o1.trans hq.1, hq.2⟩
theorem run76 (hQ : ∀ {c p pm : Nat} {k n : Int} {t : TypeId} {w : World}, cellsOf? w c = some (#[pt p], t, (0, 0)) → PoolN w p pm k n → (K.enter 160 #[pt p, .func (.func 161) #[] #[pt c]] w).all fun x => x.2 = w) {p pm : Nat} {k n : Int} (h : PoolN w p pm k n) : wpGFn Tryz.prog K fuel 76 h76 #[pt p] w fun _z w' => Old w w' := by
  rw [gfn_start]
  simp -implicitDefEqProofs [h76, W.e, W.mv, W.sq, W.og, W.ld]
  have o1 := Old.push w (.cells #[pt p] 148)
  have hc1 : cellsOf? (World.push w (.cells #[pt p] 148)) w.heap.size = some (#[pt p], 148, (0, 0)) := by simp
  have hp1 := h.keep o1 (fun h => h) (fun h => h)
  generalize World.push w (.cells #[pt p] 148) = w1 at *
  refine valA_of (hQ hc1 hp1) (fun z w2 hq => ?_)
  simp only at hq
  subst hq
  simp -implicitDefEqProofs
  exact o1
theorem run77 (hQ : ∀ {c p pm : Nat} {k n : Int} {t : TypeId} {w : World}, cellsOf? w c = some (#[pt p], t, (0, 0)) → PoolN w p pm k n → (K.enter 160 #[pt p, .func (.func 162) #[] #[pt c]] w).all fun x => x.2 = w) {p pm : Nat} {k n : Int} (h : PoolN w p pm k n) : wpGFn Tryz.prog K fuel 77 h77 #[pt p] w fun _z w' => Old w w' := by
  rw [gfn_start]
  simp -implicitDefEqProofs [h77, W.e, W.mv, W.sq, W.og, W.ld]
  have o1 := Old.push w (.cells #[pt p] 148)
  have hc1 : cellsOf? (World.push w (.cells #[pt p] 148)) w.heap.size = some (#[pt p], 148, (0, 0)) := by simp
  have hp1 := h.keep o1 (fun h => h) (fun h => h)
  generalize World.push w (.cells #[pt p] 148) = w1 at *
  refine valA_of (hQ hc1 hp1) (fun z w2 hq => ?_)
  simp only at hq
  subst hq
  simp -implicitDefEqProofs
  exact o1
structure PoolQ (K : Kont) : Prop where
  free : ∀ {w : World} {p pm : Nat} {k n : Int}, PoolN w p pm k n → (K.enter 75 #[pt p] w).all fun x => Old w x.2 ∧ Emp x.1
  total : ∀ {w : World} {p pm : Nat} {k n : Int}, PoolN w p pm k n → (K.enter 76 #[pt p] w).all fun x => Old w x.2
  prom : ∀ {w : World} {p pm : Nat} {k n : Int}, PoolN w p pm k n → (K.enter 77 #[pt p] w).all fun x => Old w x.2
theorem run18 (hQ : PoolQ K) {B x : Nat} {u : Sup} (h : Fresh w B x u) (k : Int) (hk : k = 3 ∨ k = 6) : wpGFn Tryz.prog K fuel 18 h18 #[pt x, n64 k] w fun z w' => Old w w' ∧ ∃ v a b, z = .tuple #[v, a, b] ∧ Emp v := by
  obtain ⟨m, t, b, g, r, o, v, c, kk, wv, pools, bigs, hx, -, -, -, -, -, -, -, ⟨p, q, pm, qm, hpo, _, hp, hpm, _, _, hq, hqm, _, _⟩⟩ := h.cell
  rw [gfn_start]
  obtain ⟨pp, ppm, k', n', hP, hg⟩ : ∃ pp ppm k' n', PoolN w pp ppm k' n' ∧ getM [((3 : Int), pt p), (6, pt q)] k = some (pt pp) := by
    rcases hk with rfl | rfl
    · exact ⟨p, pm, _, _, ⟨hp, hpm⟩, rfl⟩
    · exact ⟨q, qm, _, _, ⟨hq, hqm⟩, rfl⟩
  simp -implicitDefEqProofs [h18, W.e, W.mv, W.sq, W.og, W.fa, W.ld, W.nn, hx, n40, lookup_map hpo.is, hg]
  refine valA_of (hQ.free hP) (fun z w1 hq => ?_)
  obtain ⟨o1, hz⟩ := hq
  simp -implicitDefEqProofs
  have hP1 := hP.keep o1 (fun h => h) (fun h => h)
  refine valA_of (hQ.total hP1) (fun z2 w2 o2 => ?_)
  simp -implicitDefEqProofs
  have hP2 := hP1.keep o2 (fun h => h) (fun h => h)
  refine valA_of (hQ.prom hP2) (fun z3 w3 o3 => ?_)
  simp -implicitDefEqProofs
  exact ⟨(o1.trans o2).trans o3, hz⟩
end
end Go.Proofs.YteljibbnpheekaaGreat
namespace Go.Proofs.YteljibbnpheekaaGreat
open Go Go.Ideal
structure Fnd (w : World) (fb ib ob : Nat) (x : Value) (n : Nat) (is of : List Int) : Prop where
  cell : cellsOf? w fb = some (#[x, .slice (some ⟨ib, 0, none⟩) n n, .slice (some ⟨ob, 0, none⟩) n n], 207, (0, 0))
  ri : RowE EI w (.slice (some ⟨ib, 0, none⟩) n n) is
  ro : RowE EI w (.slice (some ⟨ob, 0, none⟩) n n) of
  li : is.length = n
  lo : of.length = n
  ne : ib ≠ ob
theorem Fnd.keep {w w' : World} {F : Nat → Prop} {fb ib ob : Nat} {x : Value} {n : Nat} {is of : List Int} (h : Fnd w fb ib ob x n is of) (hk : Keeps w w' F) (h1 : ¬ F fb) (h2 : ¬ F ib) (h3 : ¬ F ob) : Fnd w' fb ib ob x n is of :=
  ⟨hk.cells h.cell h1, h.ri.keep hk (fun y hy => by cases hy; exact h2), h.ro.keep hk (fun y hy => by cases hy; exact h3), h.li, h.lo, h.ne⟩
theorem run147 {K : Kont} {fuel : Nat} {w : World} {fb ib ob : Nat} {x : Value} {n : Nat} {is of : List Int} (h : Fnd w fb ib ob x n is of) {f : Nat} (hf : f < n) (v : Int) (hb : ∀ y, y ∈ of → 0 ≤ y ∧ y < 1000000) : wpGFn Tryz.prog K fuel 147 h147 #[pt fb, n64 f, n64 v] w fun _ w' => Fnd w' fb ib ob x n (is.set f v) (of.set f (of[f]'(by rw [h.lo]; exact hf) + 1)) ∧ Keeps w w' (fun j => j = ib ∨ j = ob) := by
  rw [gfn_start]
  have hc := h.cell
  have hl : ∀ (a : Addr) w', lenS (.slice (some a) n n) w' = .ret (.int .i64 n, w') := fun a w' => rfl
  have hfi : (f : Int) < n := by omega
  obtain ⟨rb, ro, rcap, rc, hve, hrc, hrsz, hext⟩ := h.ri.int (i := f) (by rw [h.li]; exact hf)
  rw [h.li] at hve
  simp only [Value.slice.injEq, Option.some.injEq, Addr.mk.injEq] at hve
  obtain ⟨⟨g1, g2, _⟩, _, g3⟩ := hve
  subst g1 g2 g3
  obtain ⟨rb, ro, rcap, oc, hve, hoc, hosz, hoxt⟩ := h.ro.int (i := f) (by rw [h.lo]; exact hf)
  rw [h.lo] at hve
  simp only [Value.slice.injEq, Option.some.injEq, Addr.mk.injEq] at hve
  obtain ⟨⟨g1, g2, _⟩, _, g3⟩ := hve
  subst g1 g2 g3
  simp only [Nat.zero_add] at hrsz hext hosz hoxt
  have hfb : fb ≠ ib ∧ fb ≠ ob := ⟨fun e => by subst e; rw [hc] at hrc; simp at hrc, fun e => by subst e; rw [hc] at hoc; simp at hoc⟩
  have hbo := hb (of[f]'(by rw [h.lo]; exact hf)) (List.getElem_mem _)
  have x1 : IntKind.i64.wrap (of[f]'(by rw [h.lo]; exact hf) + 1) = of[f]'(by rw [h.lo]; exact hf) + 1 := by rw [IntKind.wrap_i64]; omega
  have hrsz1 : f + 1 ≤ rc.size := hrsz
  have hosz1 : f + 1 ≤ oc.size := hosz
  have n1 : ¬ fb = ib := hfb.1
  have n2 : ¬ ob = ib := fun e => h.ne e.symm
  have hget := getOf hoxt
  simp -implicitDefEqProofs [h147, W.e, W.e0, W.mv, W.sq, W.og, W.gr, W.fa, W.ld, W.nn, hc, hl, hfi, hrc, hrsz1, n1, n2, hoc, hosz, hosz1, hget, x1]
  have s1 := h.ri.set (i := f) (by rw [h.li]; exact hf) v (b := ib) (o := 0) (cap := n) (c := rc) (by rw [h.li]) hrc
  simp only [EInt, Nat.mul_one, Nat.zero_add, Ideal.putCells] at s1
  have k1 : Keeps w (World.set w ib (.cells (rc.setIfInBounds f (n64 v)) 3)) (fun j => j = ib) := Keeps.set _ _ _ (fun _ => rfl)
  have r1 := h.ro.keep k1 (fun y hy => by cases hy; exact n2)
  have hoc1 := k1.cells hoc n2
  have hc1 := k1.cells hc n1
  generalize World.set w ib (.cells (rc.setIfInBounds f (n64 v)) 3) = w1 at *
  have s2 := r1.set (i := f) (by rw [h.lo]; exact hf) (of[f]'(by rw [h.lo]; exact hf) + 1) (b := ob) (o := 0) (cap := n) (c := oc) (by rw [h.lo]) hoc1
  simp only [EInt, Nat.mul_one, Nat.zero_add, Ideal.putCells] at s2
  have k2 : Keeps w1 (World.set w1 ob (.cells (oc.setIfInBounds f (n64 (of[f]'(by rw [h.lo]; exact hf) + 1))) 3)) (fun j => j = ob) := Keeps.set _ _ _ (fun _ => rfl)
  exact ⟨⟨k2.cells hc1 hfb.2, s1.keep k2 (fun y hy => by cases hy; exact h.ne), s2, by simp [h.li], by simp [h.lo], h.ne⟩, Keeps.trans k1 k2 (fun _ _ h => .inl h) (fun _ _ h => .inr h)⟩
def covB (p : Blk) (f : Nat) : Int := if p.2 ≤ f ∧ f < p.2 + 2 ^ p.1 then 1 else 0
def cov (l : List Blk) (f : Nat) : Int := (l.map fun p => covB p f).sum
theorem cov_perm {l m : List Blk} (h : l.Perm m) (f : Nat) : cov l f = cov m f := by
  unfold cov
  induction h with
  | nil => rfl
  | cons x _ ih => simp only [List.map_cons, List.sum_cons, ih]
  | swap x y l => simp only [List.map_cons, List.sum_cons]; omega
  | trans _ _ h1 h2 => rw [h1, h2]
theorem cov_snoc (l : List Blk) (p : Blk) (f : Nat) : cov (l ++ [p]) f = cov l f + covB p f := by
  unfold cov; rw [List.map_append, List.sum_append]; simp
theorem cov_chain : ∀ {l : List Blk} {a b : Nat}, Chain l a b → ∀ f, cov l f = if a ≤ f ∧ f < b then 1 else 0
  | [], a, b, h, f => by
    cases h
    have : ¬ (a ≤ f ∧ f < a) := by omega
    simp [cov, this]
  | (k, g) :: l, a, b, h, f => by
    obtain ⟨rfl, _, h3⟩ := h
    have ih := cov_chain h3 f
    have hle := h3.le
    have h1 : cov ((k, g) :: l) f = covB (k, g) f + cov l f := by simp [cov]
    rw [h1, ih]
    unfold covB
    simp only
    have := Nat.two_pow_pos k
    by_cases c1 : g ≤ f ∧ f < g + 2 ^ k
    · rw [if_pos c1, if_neg (by omega), if_pos (by omega)]; rfl
    · by_cases c2 : g + 2 ^ k ≤ f ∧ f < b
      · rw [if_neg c1, if_pos c2, if_pos (by omega)]; rfl
      · rw [if_neg c1, if_neg c2, if_neg (by omega)]; rfl
theorem covB_01 (p : Blk) (f : Nat) : 0 ≤ covB p f ∧ covB p f ≤ 1 := by unfold covB; split <;> omega
theorem cov_le (l : List Blk) (f : Nat) : 0 ≤ cov l f ∧ cov l f ≤ l.length := by
  induction l with
  | nil => simp [cov]
  | cons p l ih =>
    have h1 : cov (p :: l) f = covB p f + cov l f := by simp [cov]
    have := covB_01 p f
    rw [h1, List.length_cons]; omega
end Go.Proofs.YteljibbnpheekaaGreat
