/-
  Insert in the middle of a row of ints, laid as an answer in ideal runs (printed by mk_insl.py).
-/
import Derived.Test.YteljibbnpheekaaGreatTa
import Derived.Test.YteljibbnpheekaaGreatJs
import Derived.Test.YteljibbnpheekaaGreatJq
namespace Go.Proofs.YteljibbnpheekaaGreat
open Go Go.Ideal Go.RowKit
theorem setCells_facts (b : Nat) : ∀ (vs : List Value) (o : Nat) (w : World),
    (w.setCells b o vs).os = w.os ∧ (w.setCells b o vs).tape = w.tape ∧ (w.setCells b o vs).output = w.output ∧ (w.setCells b o vs).drawn = w.drawn ∧ (w.setCells b o vs).heap.size = w.heap.size ∧
    (∀ k, k ≠ b → (w.setCells b o vs).heap[k]? = w.heap[k]?) ∧ ∀ c e fz, w.heap[b]? = some (.cells c e fz) → (w.setCells b o vs).heap[b]? = some (.cells (Ideal.putCells c o vs) e fz)
  | [], o, w => ⟨rfl, rfl, rfl, rfl, rfl, fun _ _ => rfl, fun _ _ _ h => h⟩
  | v :: vs, o, w => by
    obtain ⟨h1, h2, h3, h4, h5, h6, h7⟩ := setCells_facts b vs (o + 1) (w.setCell ⟨b, o, none⟩ v)
    have e : w.setCells b o (v :: vs) = (w.setCell ⟨b, o, none⟩ v).setCells b (o + 1) vs := rfl
    rw [e]
    refine ⟨h1, h2, h3, h4, h5.trans (by simp), fun k hk => (h6 k hk).trans ?_, fun c e fz h => ?_⟩
    · simp only [World.setCell, Array.getElem?_modify]
      rw [if_neg (fun h => hk h.symm)]
    · refine h7 (c.setIfInBounds o v) e fz ?_
      simp only [World.setCell, Array.getElem?_modify, if_true, h]
      rfl
theorem ar3 {β : Beta} {a b c : Value} {args' : Array Value} (h : AR β #[a, b, c] args') : ∃ a' b' c', args' = #[a', b', c'] ∧ VR β a a' ∧ VR β b b' ∧ VR β c c' := by
  obtain ⟨hs, hv⟩ := h
  obtain ⟨l⟩ := args'
  match l, hs with
  | [a', b', c'], _ => exact ⟨a', b', c', rfl, hv 0 _ _ rfl rfl, hv 1 _ _ rfl rfl, hv 2 _ _ rfl rfl⟩
theorem realSlice {β : Beta} {b o n cap : Nat} {v' : Value} (h : VR β (.slice (some ⟨b, o, none⟩) n cap) v') (hn : n ≠ 0) :
    ∃ bi cap', β b = some bi ∧ v' = .slice (some ⟨bi.r, o + bi.d, none⟩) n cap' ∧ (cap = OPEN → n ≤ cap' ∧ o + bi.d + cap' * bi.es ≤ bi.tot) ∧ (cap < OPEN → cap' = cap) := by
  cases h with
  | slice hb hs =>
    rename_i o' cap' bi
    rcases hs with ⟨h1, h2, h3, h4⟩ | ⟨h1, h2, ⟨h, h3, h4, h5⟩ | ⟨h, _⟩⟩ | ⟨h1, h, _⟩
    · rcases h4 with h | h
      · subst h; exact ⟨bi, cap', hb, rfl, (fun h => by omega), fun _ => h2⟩
      · omega
    · subst h; exact ⟨bi, cap', hb, rfl, (fun _ => ⟨h4, h5⟩), fun h => by omega⟩
    · exact absurd h hn
    · subst h; exact ⟨bi, cap', hb, rfl, (fun h => by omega), fun h => by omega⟩
theorem realRow {B : Nat} {w0 : Base} {β : Beta} {σ w : World} (hR : R Tryz.prog B w0 β σ w) {b : Nat} {c : Array Value} {bi : BI} (h : σ.heap[b]? = some (.cells c 3 (0, 0))) (hb : β b = some bi) :
    ∃ c', w.heap[bi.r]? = some (.cells c' 3 (0, 0)) ∧ c.size = bi.n ∧ c'.size = bi.tot ∧ bi.d + bi.n ≤ bi.tot ∧ (∀ i v, c[i]? = some v → ∃ v', c'[bi.d + i]? = some v' ∧ VR β v v') ∧ bi.es = 1 := by
  obtain ⟨ob, hob, hor⟩ := hR.obj b _ bi h hb rfl
  have he : bi.es = 1 := by
    have hsz3 := size3_510
    cases hi : Tryz.prog.info? 3 with
    | none => rw [hi] at hsz3; simp at hsz3
    | some i => rw [hi] at hsz3; simp only [Option.map_some, Option.some.injEq] at hsz3; rw [← hR.esz b c 3 (0, 0) bi h rfl hb i hi, hsz3]
  cases hor with
  | @cells _ c' _ _ fz' hcn htot hd hcc hfz =>
    have hfz0 : fz' = (0, 0) := by
      rcases hfz with ⟨_, h⟩ | h
      · exact h
      · exact absurd h.2.1 (by simp)
    subst hfz0
    exact ⟨c', hob, hcn, htot, hd, hcc, he⟩
theorem seg {β : Beta} {c c' : Array Value} {d o k : Nat} (hcc : ∀ i v, c[i]? = some v → ∃ v', c'[d + i]? = some v' ∧ VR β v v') (hk : o + k ≤ c.size) (h1 : (c.extract o (o + k)).toList.all Ideal.one1 = true) (hd : o + d + k ≤ c'.size) :
    (c'.extract (o + d) (o + d + k)).toList.length = k ∧ (∀ j v, (c'.extract (o + d) (o + d + k)).toList[j]? = some v → c'[o + d + j]? = some v) ∧ (∀ v ∈ (c'.extract (o + d) (o + d + k)).toList, v.oneCell' = true) ∧
    ∀ j v, j < k → c[o + j]? = some v → ∃ v', (c'.extract (o + d) (o + d + k)).toList[j]? = some v' ∧ VR β v v' := by
  have hl : (c'.extract (o + d) (o + d + k)).toList.length = k := by simp; omega
  have hg : ∀ j v, (c'.extract (o + d) (o + d + k)).toList[j]? = some v → c'[o + d + j]? = some v := by
    intro j v hj
    have hj2 : j < k := by have := (List.getElem?_eq_some_iff.1 hj).1; omega
    rw [Array.getElem?_toList, Array.getElem?_extract, if_pos (by omega)] at hj
    exact hj
  have hq : ∀ j v, j < k → c[o + j]? = some v → ∃ v', (c'.extract (o + d) (o + d + k)).toList[j]? = some v' ∧ VR β v v' := by
    intro j v hj hv
    obtain ⟨v', h2, h3⟩ := hcc _ _ hv
    refine ⟨v', ?_, h3⟩
    rw [Array.getElem?_toList, Array.getElem?_extract, if_pos (by omega), ← h2]
    congr 1; omega
  refine ⟨hl, hg, fun v hv => ?_, hq⟩
  obtain ⟨j, hj, rfl⟩ := List.getElem_of_mem hv
  rw [hl] at hj
  have hc : c[o + j]? = some c[o + j] := Array.getElem?_eq_getElem (by omega)
  obtain ⟨v', h2, h3⟩ := hq j _ hj hc
  have : (c'.extract (o + d) (o + d + k)).toList[j] = v' := by
    rw [List.getElem?_eq_getElem (by omega)] at h2
    simpa using h2
  rw [this]
  refine h3.one1 ?_
  rw [List.all_eq_true] at h1
  refine h1 _ ?_
  refine List.mem_of_getElem? (i := j) ?_
  rw [Array.getElem?_toList, Array.getElem?_extract, if_pos (by omega)]
  exact hc
def insRow (c : Array Value) (o n i : Nat) (v : Array Value) : Array Value := c.extract o (o + i) ++ v ++ c.extract (o + i) (o + n)
def insS (args : Array Value) (w : World) : Option (T (Value × World)) :=
  match args.toList with
  | [.slice (some ⟨b, o, none⟩) n cap, .int .i64 i, .slice (some ⟨vb, vo, none⟩) 1 _] =>
    if 0 ≤ i ∧ i < n then
      match cellsOf? w b, cellsOf? w vb with
      | some (c, e, (0, 0)), some (vcs, ve, (0, 0)) =>
        if (cap = OPEN ∨ cap = n) ∧ e = 3 ∧ ve = 3 ∧ o + n ≤ c.size ∧ vo + 1 ≤ vcs.size ∧ n ≤ 1000000 ∧ vb ≠ b ∧ (c.extract o (o + n)).toList.all one1 = true ∧ (vcs.extract vo (vo + 1)).toList.all one1 = true then
          some (.ret (.slice (some ⟨w.heap.size, 0, none⟩) (n + 1) OPEN, Ideal.kill (w.alloc (.cells (insRow c o n i.toNat (vcs.extract vo (vo + 1))) 3)) b))
        else some .bad
      | _, _ => some .bad
    else none
  | _ => none
def insH (f0 : FuncId) : HeapAns := fun f a w => if f = f0 then insS a w else none
theorem insRow_at (c v : Array Value) (o n i : Nat) (hi : i < n) (hc : o + n ≤ c.size) (hv : v.size = 1) (j : Nat) :
    (insRow c o n i v)[j]? = if j < i then c[o + j]? else if j < i + 1 then v[j - i]? else if j < n + 1 then c[o + (j - 1)]? else none := by
  unfold insRow
  have h1 : (c.extract o (o + i)).size = i := by simp; omega
  have h2 : (c.extract o (o + i) ++ v).size = i + 1 := by rw [Array.size_append, h1, hv]
  by_cases g1 : j < i
  · rw [if_pos g1, Array.getElem?_append_left (by omega), Array.getElem?_append_left (by omega), Array.getElem?_extract, if_pos (by omega)]
  · rw [if_neg g1]
    by_cases g2 : j < i + 1
    · rw [if_pos g2, Array.getElem?_append_left (by omega), Array.getElem?_append_right (by omega), h1]
    · rw [if_neg g2, Array.getElem?_append_right (by omega), h2]
      by_cases g3 : j < n + 1
      · rw [if_pos g3, Array.getElem?_extract, if_pos (by omega)]
        congr 1; omega
      · rw [if_neg g3]
        refine Array.getElem?_eq_none ?_
        simp; omega
theorem insRow_size (c v : Array Value) (o n i : Nat) (hi : i < n) (hc : o + n ≤ c.size) (hv : v.size = 1) : (insRow c o n i v).size = n + 1 := by
  unfold insRow; simp [hv]; omega
theorem alloc_ext {w : World} {o o' : Obj} {w' : World} (h1 : w'.os = w.os) (h2 : w'.tape = w.tape) (h3 : w'.output = w.output) (h5 : w'.heap.size = w.heap.size + 1) (h6 : ∀ k, k ≠ w.heap.size → w'.heap[k]? = (w.alloc o).heap[k]?) (h7 : w'.heap[w.heap.size]? = some o') :
    w' = { w.alloc o' with drawn := w'.drawn } := by
  obtain ⟨hp, tp, dr, os, out⟩ := w'
  simp only at h1 h2 h3 h5 h6 h7
  have hh : hp = (w.alloc o').heap := by
    apply Array.ext_getElem?
    intro k
    rw [alloc_heap]
    by_cases hk : k = w.heap.size
    · subst hk; rw [if_pos rfl, h7]
    · rw [if_neg hk, h6 k hk, alloc_heap, if_neg hk]
  subst h1; subst h2; subst h3
  show World.mk _ _ _ _ _ = World.mk _ _ _ _ _
  rw [hh]
  rfl
theorem R.drawnAt {P : Program} {B : Nat} {w0 : Base} {β : Beta} {σ w : World} (h : R P B w0 β σ w) (n : Nat) : R P B w0 β σ { w with drawn := n } :=
  { below := ⟨h.below.os, h.below.tape, h.below.output, h.below.size, h.below.block⟩, held := h.held, size := h.size, dom := h.dom, cov := h.cov, obj := h.obj, dd := h.dd, esz := h.esz, new := h.new, free := h.free, inj := h.inj }
theorem ins_laid : LaidH Tryz.prog (insH 510) := ⟨fun {B w0 β σ w f args args' t Q} hR ha hf hQ => by
  unfold insH at hf
  split at hf
  case isFalse => cases hf
  rename_i he
  subst he
  unfold insS at hf
  split at hf
  case h_2 => cases hf
  rename_i b o n cap i vb vo vc harr
  obtain ⟨args⟩ := args
  simp only at harr
  subst harr
  split at hf
  case isFalse => cases hf
  rename_i hin
  split at hf
  case h_2 => simp only [Option.some.injEq] at hf; subst hf; exact hQ.elim
  rename_i c e vcs ve hc hvc
  split at hf
  case isFalse => simp only [Option.some.injEq] at hf; subst hf; exact hQ.elim
  rename_i hh
  obtain ⟨hcap, rfl, rfl, hsz, hvsz, hn6, hne, h1c, h1v⟩ := hh
  simp only [Option.some.injEq] at hf
  subst hf
  obtain ⟨q, rfl⟩ := Int.eq_ofNat_of_zero_le hin.1
  have hqn : q < n := by omega
  have hO : OPEN = 4611686018427387904 := rfl
  obtain ⟨v1, v2, v3, rfl, hv1, hv2, hv3⟩ := ar3 ha
  have hv2' : v2 = .int .i64 q := by cases hv2; rfl
  subst hv2'
  obtain ⟨bi, cap', hb, rfl, hO1, hO2⟩ := realSlice hv1 (by omega)
  obtain ⟨bv, vc', hbv, rfl, -, -⟩ := realSlice hv3 (by omega)
  have hcb := cellsOf?_spec hc
  have hvb := cellsOf?_spec hvc
  obtain ⟨c', hc', hcn, hct, hcd, hcc, hes⟩ := realRow hR hcb hb
  obtain ⟨u', hu', hun, hut, hud, huc, -⟩ := realRow hR hvb hbv
  have hcap' : n ≤ cap' ∧ o + bi.d + cap' ≤ bi.tot := by
    rcases hcap with h | h
    · have := hO1 h; rw [hes] at this; omega
    · have := hO2 (by omega); omega
  have hner : bv.r ≠ bi.r := fun h => hne (hR.inj _ _ _ _ _ _ hvb hcb hbv hb rfl rfl h)
  obtain ⟨s1, s2, s3, s4⟩ := seg hcc hsz h1c (by omega)
  obtain ⟨u1, u2, u3, u4⟩ := seg huc hvsz h1v (by omega)
  generalize hcs : (c'.extract (o + bi.d) (o + bi.d + n)).toList = cs at *
  generalize hvs : (u'.extract (vo + bv.d) (vo + bv.d + 1)).toList = vs at *
  have hcell : ∀ j v, cs[j]? = some v → w.cell? ⟨bi.r, o + bi.d + j, none⟩ = some v := fun j v h => cell?_eq_some.2 ⟨_, _, _, hc', s2 j v h⟩
  have hcellv : ∀ j v, vs[j]? = some v → w.cell? ⟨bv.r, vo + bv.d + j, none⟩ = some v := fun j v h => cell?_eq_some.2 ⟨_, _, _, hu', u2 j v h⟩
  have hvx : (vcs.extract vo (vo + 1)).size = 1 := by simp; omega
  have hrs := insRow_size c (vcs.extract vo (vo + 1)) o n q hqn hsz hvx
  have hra := insRow_at c (vcs.extract vo (vo + 1)) o n q hqn hsz hvx
  -- the cells of the new row, there
  have hnew : ∀ (c2 : Array Value) (d2 : Nat), (∀ j, j < q → c2[d2 + j]? = cs[j]?) → (∀ j, j < 1 → c2[d2 + (q + j)]? = vs[j]?) → (∀ j, q ≤ j → j < n → c2[d2 + (j + 1)]? = cs[j]?) →
      ∀ i v, (insRow c o n q (vcs.extract vo (vo + 1)))[i]? = some v → ∃ v', c2[d2 + i]? = some v' ∧ VR β v v' := by
    intro c2 d2 k1 k2 k3 i v hv
    rw [hra i] at hv
    by_cases g1 : i < q
    · rw [if_pos g1] at hv
      obtain ⟨v', a, b⟩ := s4 i v (by omega) hv
      exact ⟨v', by rw [k1 i g1, a], b⟩
    · rw [if_neg g1] at hv
      by_cases g2 : i < q + 1
      · rw [if_pos g2, Array.getElem?_extract, if_pos (by omega)] at hv
        obtain ⟨v', a, b⟩ := u4 (i - q) v (by omega) hv
        refine ⟨v', ?_, b⟩
        have := k2 (i - q) (by omega)
        rw [show q + (i - q) = i by omega] at this
        rw [this, a]
      · rw [if_neg g2] at hv
        by_cases g3 : i < n + 1
        · rw [if_pos g3] at hv
          obtain ⟨v', a, b⟩ := s4 (i - 1) v (by omega) hv
          refine ⟨v', ?_, b⟩
          have := k3 (i - 1) (by omega) (by omega)
          rw [show i - 1 + 1 = i by omega] at this
          rw [this, a]
        · rw [if_neg g3] at hv; cases hv
  have hdl : (cs.drop (q)).length = n - q := by rw [List.length_drop, s1]
  by_cases hroom : n + 1 ≤ cap'
  · refine (ins_shift_510 bi.r (o + bi.d) n cap' q bv.r (vo + bv.d) vc' cs vs w hqn hroom hn6 hner s1 u1 hcell (fun j hj => ?_) (fun j hj => by simp [World.frozen?, hc']) hcellv s3 u3 3 3 u'.size c'.size (by simp [World.shape?, hu']) (by simp [World.shape?, hc']) (by omega) (by simp [World.frozen?, hu']) (by simp [World.frozen?, hu'])).mono fun e w' hh => ?_
    · rw [Option.isSome_iff_exists]
      exact ⟨c'[o + bi.d + j]'(by omega), cell?_eq_some.2 ⟨_, _, _, hc', Array.getElem?_eq_getElem _⟩⟩
    · obtain ⟨rfl, rfl⟩ := hh
      obtain ⟨a1, a2, a3, a4, a5, a6, a7⟩ := setCells_facts bi.r (cs.drop (q)) (o + bi.d + (q + 1)) w.drew
      obtain ⟨b1, b2, b3, b4, b5, b6, b7⟩ := setCells_facts bi.r vs (o + bi.d + q) (w.drew.setCells bi.r (o + bi.d + (q + 1)) (cs.drop (q)))
      have hrow := b7 _ _ _ (a7 _ _ _ (show w.drew.heap[bi.r]? = _ from hc'))
      have hz1 : (Ideal.putCells c' (o + bi.d + (q + 1)) (cs.drop (q))).size = c'.size := putCells_size _ _ _
      have p1 := putCells_at c' (cs.drop (q)) (o + bi.d + (q + 1))
      have p2 := putCells_at (Ideal.putCells c' (o + bi.d + (q + 1)) (cs.drop (q))) vs (o + bi.d + q)
      rw [hdl] at p1
      rw [u1, hz1] at p2
      have hat : ∀ j, j < n → c'[o + bi.d + j]? = cs[j]? := fun j hj => by
        rw [← hcs, Array.getElem?_toList, Array.getElem?_extract, if_pos (by omega)]
      have hR2 := hR.drew.regrow hb hcb (cs := insRow c o n q (vcs.extract vo (vo + 1))) (d2 := o + bi.d) (w' := (w.drew.setCells bi.r (o + bi.d + (q + 1)) (cs.drop (q))).setCells bi.r (o + bi.d + q) vs)
        (b1.trans a1) (b2.trans a2) (b3.trans a3) (b5.trans a5) (fun k hk => (b6 k hk).trans (a6 k hk)) hrow (by rw [putCells_size, hz1]; exact hct) (by rw [hrs]; omega)
        (hnew _ _ (fun j hj => by
            rw [p2 _ (by omega), if_neg (by omega), p1 _ (by omega), if_neg (by omega)]; exact hat j (by omega))
          (fun j hj => by
            rw [p2 _ (by omega), if_pos (by omega)]; congr 1; omega)
          (fun j hj hj2 => by
            rw [p2 _ (by omega), if_neg (by omega), p1 _ (by omega), if_pos (by omega), List.getElem?_drop]; congr 1; omega))
      refine ⟨_, _, _, Beta.le_put hR.fresh, hR2, ?_, hQ⟩
      refine .slice (bi := ⟨bi.r, o + bi.d, (insRow c o n q (vcs.extract vo (vo + 1))).size, bi.es, bi.tot⟩) (by unfold Beta.put; rw [if_pos rfl]) (.inr (.inl ⟨rfl, by simp only [hes]; decide, .inl ⟨by simp, ?_, hroom, ?_⟩⟩))
      · simp only [hrs, hes]; omega
      · simp only [hes]; omega
  · refine (ins_grow_510 bi.r (o + bi.d) n cap' q bv.r (vo + bv.d) vc' cs vs w hqn hcap'.1 (by omega) (by omega) s1 u1 hcell hcellv s3 u3).mono fun e w' hh => ?_
    obtain ⟨rfl, hw'⟩ := hh
    have hG := grownCap_ge w (n + 1) cap' 3
    generalize grownCap w (n + 1) cap' 3 = G at *
    generalize hrow0 : ((cs.take (q)).toArray ++ Builtin.zeroCells zSpot_510.cells (n + 1 - q) ++ Builtin.zeroCells zSpot_510.cells (G - (n + 1))) = row0 at hw'
    have hzs : ∀ m, (Builtin.zeroCells zSpot_510.cells m).size = m := fun m => by
      have : zSpot_510.cells.size = 1 := by kernel_rfl
      simp [Builtin.zeroCells]
    have htl : (cs.take (q)).length = q := by rw [List.length_take, s1]; omega
    have hr0 : row0.size = G := by
      rw [← hrow0]; simp only [Array.size_append, hzs, List.size_toArray, htl]; omega
    have hr0a : ∀ j, j < q → row0[j]? = cs[j]? := by
      intro j hj
      rw [← hrow0, Array.append_assoc, Array.getElem?_append_left (by simp; omega)]
      simp [hj]
    obtain ⟨a1, a2, a3, a4, a5, a6, a7⟩ := setCells_facts w.heap.size vs (q) (w.alloc (.cells row0 3)).drew
    obtain ⟨b1, b2, b3, b4, b5, b6, b7⟩ := setCells_facts w.heap.size (cs.drop (q)) ((q + 1)) ((w.alloc (.cells row0 3)).drew.setCells w.heap.size (q) vs).drew
    have hrow := b7 _ _ _ (show ((w.alloc (.cells row0 3)).drew.setCells w.heap.size (q) vs).drew.heap[w.heap.size]? = _ from a7 _ _ _ (show (w.alloc (.cells row0 3)).heap[w.heap.size]? = some (.cells row0 3) by rw [alloc_heap, if_pos rfl]))
    rw [← hw'] at b1 b2 b3 b4 b5 b6 hrow
    have hz1 : (Ideal.putCells row0 (q) vs).size = row0.size := putCells_size _ _ _
    have p1 := putCells_at row0 vs (q)
    have p2 := putCells_at (Ideal.putCells row0 (q) vs) (cs.drop (q)) ((q + 1))
    rw [u1] at p1
    rw [hdl, hz1] at p2
    have hext := alloc_ext (w := w) (o := .cells row0 3) (b1.trans a1) (b2.trans a2) (b3.trans a3) (by rw [b5]; show (World.setCells _ _ _ _).heap.size = _; rw [a5]; simp) (fun k hk => (b6 k hk).trans (a6 k hk)) hrow
    have hfin := putCells_size (Ideal.putCells row0 (q) vs) (cs.drop (q)) ((q + 1))
    have hR1 := R.alloc hR (o := .cells (insRow c o n q (vcs.extract vo (vo + 1))) 3) (d := 0) (n := (insRow c o n q (vcs.extract vo (vo + 1))).size) (es := 1) (tot := G)
      (OR.cells rfl (by rw [hfin, hz1, hr0]) (by simp only [hrs]; omega) (fun i v hv => by
        obtain ⟨v', h1, h2⟩ := hnew (Ideal.putCells (Ideal.putCells row0 (q) vs) ((q + 1)) (cs.drop (q))) 0 (fun j hj => by
            rw [Nat.zero_add, p2 _ (by omega), if_neg (by omega), p1 _ (by omega), if_neg (by omega)]; exact hr0a j hj)
          (fun j hj => by
            rw [Nat.zero_add, p2 _ (by omega), if_neg (by omega), p1 _ (by omega), if_pos (by omega)]; congr 1; omega)
          (fun j hj hj2 => by
            rw [Nat.zero_add, p2 _ (by omega), if_pos (by omega), List.getElem?_drop]; congr 1; omega) i v hv
        exact ⟨v', h1, h2.mono (Beta.le_put hR.fresh)⟩) (.inl ⟨rfl, rfl⟩))
      (fun c2 e2 fz2 he i hi => by
        simp only [Obj.cells.injEq] at he
        obtain ⟨_, rfl, _⟩ := he
        have := hR.esz _ _ _ _ _ hcb rfl hb i hi
        omega) rfl
    have hR2 := (hR1.kill (b := b) (by have := hR.dom _ _ hb; simp; omega))
    rw [hext]
    refine ⟨_, _, _, Beta.le_put hR.fresh, R.drawnAt hR2 _, ?_, hQ⟩
    refine .slice (bi := ⟨w.heap.size, 0, (insRow c o n q (vcs.extract vo (vo + 1))).size, 1, G⟩) (by unfold Beta.put; rw [if_pos rfl]) (.inr (.inl ⟨rfl, Nat.one_pos, .inl ⟨rfl, ?_, hG, ?_⟩⟩))
    · show (insRow c o n q (vcs.extract vo (vo + 1))).size ≤ 0 + G * 1
      rw [hrs]; omega
    · show 0 + G * 1 ≤ G
      omega⟩
end Go.Proofs.YteljibbnpheekaaGreat
