/-
  Insert in the middle and Delete, laid as answers in ideal runs.
-/
import Derived.Test.YtcfhhfdkecbphaaRa
import Derived.Test.YtcfhhfdkecbphaaRb
import Derived.Test.YtcfhhfdkecbphaaJs
namespace Go.Proofs.Ytcfhhfdkecbphaa
open Go Go.Ideal Go.RowKit

theorem setCells_facts (b : Nat) : ∀ (vs : List Value) (o : Nat) (w : World),
    (w.setCells b o vs).os = w.os ∧ (w.setCells b o vs).tape = w.tape ∧ (w.setCells b o vs).output = w.output ∧ (w.setCells b o vs).drawn = w.drawn ∧ (w.setCells b o vs).heap.size = w.heap.size ∧
    (∀ k, k ≠ b → (w.setCells b o vs).heap[k]? = w.heap[k]?) ∧ ∀ c e fz, w.heap[b]? = some (.cells c e fz) → (w.setCells b o vs).heap[b]? = some (.cells (Ideal.putCells c o vs) e fz)
  | [], o, w => ⟨rfl, rfl, rfl, rfl, rfl, fun _ _ => rfl, fun _ _ _ h => h⟩
  | v :: vs, o, w => by
    obtain ⟨h1, h2, h3, h4, h5, h6, h7⟩ := setCells_facts b vs (o + 1) (w.setCell ⟨b, o, none⟩ v)
    have e : w.setCells b o (v :: vs) = (w.setCell ⟨b, o, none⟩ v).setCells b (o + 1) vs := rfl
    rw [e]
    refine ⟨h1, h2, h3, h4, h5.trans (by simp), fun k hk => (h6 k hk).trans ?_, fun c e fz h => ?_⟩
    · simp only [World.setCell, Array.getElem?_modify]
      rw [if_neg (fun h => hk h.symm)]
    · refine h7 (c.setIfInBounds o v) e fz ?_
      simp only [World.setCell, Array.getElem?_modify, if_true, h]
      rfl

theorem ar3 {β : Beta} {a b c : Value} {args' : Array Value} (h : AR β #[a, b, c] args') : ∃ a' b' c', args' = #[a', b', c'] ∧ VR β a a' ∧ VR β b b' ∧ VR β c c' := by
  obtain ⟨hs, hv⟩ := h
  obtain ⟨l⟩ := args'
  match l, hs with
  | [a', b', c'], _ => exact ⟨a', b', c', rfl, hv 0 _ _ rfl rfl, hv 1 _ _ rfl rfl, hv 2 _ _ rfl rfl⟩

theorem realSlice {β : Beta} {b o n cap : Nat} {v' : Value} (h : VR β (.slice (some ⟨b, o, none⟩) n cap) v') (hn : n ≠ 0) :
    ∃ bi cap', β b = some bi ∧ v' = .slice (some ⟨bi.r, o + bi.d, none⟩) n cap' ∧ (cap = OPEN → n ≤ cap' ∧ o + bi.d + cap' * bi.es ≤ bi.tot) ∧ (cap < OPEN → cap' = cap) := by
  cases h with
  | slice hb hs =>
    rename_i o' cap' bi
    rcases hs with ⟨h1, h2, h3, h4⟩ | ⟨h1, h2, ⟨h, h3, h4, h5⟩ | ⟨h, _⟩⟩ | ⟨h1, h, _⟩
    · rcases h4 with h | h
      · subst h; exact ⟨bi, cap', hb, rfl, (fun h => by omega), fun _ => h2⟩
      · omega
    · subst h; exact ⟨bi, cap', hb, rfl, (fun _ => ⟨h4, h5⟩), fun h => by omega⟩
    · exact absurd h hn
    · subst h; exact ⟨bi, cap', hb, rfl, (fun h => by omega), fun h => by omega⟩

theorem realRow {B : Nat} {w0 : Base} {β : Beta} {σ w : World} (hR : R Try.prog B w0 β σ w) {b : Nat} {c : Array Value} {bi : BI} (h : σ.heap[b]? = some (.cells c 27 (0, 0))) (hb : β b = some bi) :
    ∃ c', w.heap[bi.r]? = some (.cells c' 27 (0, 0)) ∧ c.size = bi.n ∧ c'.size = bi.tot ∧ bi.d + bi.n ≤ bi.tot ∧ (∀ i v, c[i]? = some v → ∃ v', c'[bi.d + i]? = some v' ∧ VR β v v') ∧ bi.es = 2 := by
  obtain ⟨ob, hob, hor⟩ := hR.obj b _ bi h hb rfl
  have he : bi.es = 2 := by
    have h27 := size27
    cases hi : Try.prog.info? 27 with
    | none => rw [hi] at h27; simp at h27
    | some i => rw [hi] at h27; simp only [Option.map_some, Option.some.injEq] at h27; rw [← hR.esz b c 27 (0, 0) bi h rfl hb i hi, h27]
  cases hor with
  | @cells _ c' _ _ fz' hcn htot hd hcc hfz =>
    have hfz0 : fz' = (0, 0) := by
      rcases hfz with ⟨_, h⟩ | h
      · exact h
      · exact absurd h.2.1 (by simp)
    subst hfz0
    exact ⟨c', hob, hcn, htot, hd, hcc, he⟩

/-- A stretch of a row, there and here. -/
theorem seg {β : Beta} {c c' : Array Value} {d o k : Nat} (hcc : ∀ i v, c[i]? = some v → ∃ v', c'[d + i]? = some v' ∧ VR β v v') (hk : o + k ≤ c.size) (h1 : (c.extract o (o + k)).toList.all Ideal.one1 = true) (hd : o + d + k ≤ c'.size) :
    (c'.extract (o + d) (o + d + k)).toList.length = k ∧ (∀ j v, (c'.extract (o + d) (o + d + k)).toList[j]? = some v → c'[o + d + j]? = some v) ∧ (∀ v ∈ (c'.extract (o + d) (o + d + k)).toList, v.oneCell' = true) ∧
    ∀ j v, j < k → c[o + j]? = some v → ∃ v', (c'.extract (o + d) (o + d + k)).toList[j]? = some v' ∧ VR β v v' := by
  have hl : (c'.extract (o + d) (o + d + k)).toList.length = k := by simp; omega
  have hg : ∀ j v, (c'.extract (o + d) (o + d + k)).toList[j]? = some v → c'[o + d + j]? = some v := by
    intro j v hj
    have hj2 : j < k := by have := (List.getElem?_eq_some_iff.1 hj).1; omega
    rw [Array.getElem?_toList, Array.getElem?_extract, if_pos (by omega)] at hj
    exact hj
  have hq : ∀ j v, j < k → c[o + j]? = some v → ∃ v', (c'.extract (o + d) (o + d + k)).toList[j]? = some v' ∧ VR β v v' := by
    intro j v hj hv
    obtain ⟨v', h2, h3⟩ := hcc _ _ hv
    refine ⟨v', ?_, h3⟩
    rw [Array.getElem?_toList, Array.getElem?_extract, if_pos (by omega), ← h2]
    congr 1; omega
  refine ⟨hl, hg, fun v hv => ?_, hq⟩
  obtain ⟨j, hj, rfl⟩ := List.getElem_of_mem hv
  rw [hl] at hj
  have hc : c[o + j]? = some c[o + j] := Array.getElem?_eq_getElem (by omega)
  obtain ⟨v', h2, h3⟩ := hq j _ hj hc
  have : (c'.extract (o + d) (o + d + k)).toList[j] = v' := by
    rw [List.getElem?_eq_getElem (by omega)] at h2
    simpa using h2
  rw [this]
  refine h3.one1 ?_
  rw [List.all_eq_true] at h1
  refine h1 _ ?_
  refine List.mem_of_getElem? (i := j) ?_
  rw [Array.getElem?_toList, Array.getElem?_extract, if_pos (by omega)]
  exact hc

/-- The row with two cells more. -/
def insRow (c : Array Value) (o n i : Nat) (v : Array Value) : Array Value := c.extract o (o + i * 2) ++ v ++ c.extract (o + i * 2) (o + n * 2)

def insS (args : Array Value) (w : World) : Option (T (Value × World)) :=
  match args.toList with
  | [.slice (some ⟨b, o, none⟩) n cap, .int .i64 i, .slice (some ⟨vb, vo, none⟩) 1 _] =>
    if 0 ≤ i ∧ i < n then
      match cellsOf? w b, cellsOf? w vb with
      | some (c, e, (0, 0)), some (vcs, ve, (0, 0)) =>
        if (cap = OPEN ∨ cap = n) ∧ e = 27 ∧ ve = 27 ∧ o + n * 2 ≤ c.size ∧ vo + 2 ≤ vcs.size ∧ n ≤ 1000000 ∧ vb ≠ b ∧ (c.extract o (o + n * 2)).toList.all one1 = true ∧ (vcs.extract vo (vo + 2)).toList.all one1 = true then
          some (.ret (.slice (some ⟨w.heap.size, 0, none⟩) (n + 1) OPEN, Ideal.kill (w.alloc (.cells (insRow c o n i.toNat (vcs.extract vo (vo + 2))) 27)) b))
        else some .bad
      | _, _ => some .bad
    else none
  | _ => none

def insH (f0 : FuncId) : HeapAns := fun f a w => if f = f0 then insS a w else none

/-- Cells of the row with two cells more. -/
theorem insRow_at (c v : Array Value) (o n i : Nat) (hi : i < n) (hc : o + n * 2 ≤ c.size) (hv : v.size = 2) (j : Nat) :
    (insRow c o n i v)[j]? = if j < i * 2 then c[o + j]? else if j < i * 2 + 2 then v[j - i * 2]? else if j < n * 2 + 2 then c[o + (j - 2)]? else none := by
  unfold insRow
  have h1 : (c.extract o (o + i * 2)).size = i * 2 := by simp; omega
  have h2 : (c.extract o (o + i * 2) ++ v).size = i * 2 + 2 := by rw [Array.size_append, h1, hv]
  by_cases g1 : j < i * 2
  · rw [if_pos g1, Array.getElem?_append_left (by omega), Array.getElem?_append_left (by omega), Array.getElem?_extract, if_pos (by omega)]
  · rw [if_neg g1]
    by_cases g2 : j < i * 2 + 2
    · rw [if_pos g2, Array.getElem?_append_left (by omega), Array.getElem?_append_right (by omega), h1]
    · rw [if_neg g2, Array.getElem?_append_right (by omega), h2]
      by_cases g3 : j < n * 2 + 2
      · rw [if_pos g3, Array.getElem?_extract, if_pos (by omega)]
        congr 1; omega
      · rw [if_neg g3]
        refine Array.getElem?_eq_none ?_
        simp; omega
theorem insRow_size (c v : Array Value) (o n i : Nat) (hi : i < n) (hc : o + n * 2 ≤ c.size) (hv : v.size = 2) : (insRow c o n i v).size = n * 2 + 2 := by
  unfold insRow; simp [hv]; omega

theorem alloc_ext {w : World} {o o' : Obj} {w' : World} (h1 : w'.os = w.os) (h2 : w'.tape = w.tape) (h3 : w'.output = w.output) (h5 : w'.heap.size = w.heap.size + 1) (h6 : ∀ k, k ≠ w.heap.size → w'.heap[k]? = (w.alloc o).heap[k]?) (h7 : w'.heap[w.heap.size]? = some o') :
    w' = { w.alloc o' with drawn := w'.drawn } := by
  obtain ⟨hp, tp, dr, os, out⟩ := w'
  simp only at h1 h2 h3 h5 h6 h7
  have hh : hp = (w.alloc o').heap := by
    apply Array.ext_getElem?
    intro k
    rw [alloc_heap]
    by_cases hk : k = w.heap.size
    · subst hk; rw [if_pos rfl, h7]
    · rw [if_neg hk, h6 k hk, alloc_heap, if_neg hk]
  subst h1; subst h2; subst h3
  show World.mk _ _ _ _ _ = World.mk _ _ _ _ _
  rw [hh]
  rfl

theorem R.drawnAt {P : Program} {B : Nat} {w0 : Base} {β : Beta} {σ w : World} (h : R P B w0 β σ w) (n : Nat) : R P B w0 β σ { w with drawn := n } :=
  { below := ⟨h.below.os, h.below.tape, h.below.output, h.below.size, h.below.block⟩, held := h.held, size := h.size, dom := h.dom, cov := h.cov, obj := h.obj, dd := h.dd, esz := h.esz, new := h.new, free := h.free, inj := h.inj }

theorem ins_laid : LaidH Try.prog (insH 24) := ⟨fun {B w0 β σ w f args args' t Q} hR ha hf hQ => by
  unfold insH at hf
  split at hf
  case isFalse => cases hf
  rename_i he
  subst he
  unfold insS at hf
  split at hf
  case h_2 => cases hf
  rename_i b o n cap i vb vo vc harr
  obtain ⟨args⟩ := args
  simp only at harr
  subst harr
  split at hf
  case isFalse => cases hf
  rename_i hin
  split at hf
  case h_2 => simp only [Option.some.injEq] at hf; subst hf; exact hQ.elim
  rename_i c e vcs ve hc hvc
  split at hf
  case isFalse => simp only [Option.some.injEq] at hf; subst hf; exact hQ.elim
  rename_i hh
  obtain ⟨hcap, rfl, rfl, hsz, hvsz, hn6, hne, h1c, h1v⟩ := hh
  simp only [Option.some.injEq] at hf
  subst hf
  obtain ⟨q, rfl⟩ := Int.eq_ofNat_of_zero_le hin.1
  have hqn : q < n := by omega
  have hO : OPEN = 4611686018427387904 := rfl
  obtain ⟨v1, v2, v3, rfl, hv1, hv2, hv3⟩ := ar3 ha
  have hv2' : v2 = .int .i64 q := by cases hv2; rfl
  subst hv2'
  obtain ⟨bi, cap', hb, rfl, hO1, hO2⟩ := realSlice hv1 (by omega)
  obtain ⟨bv, vc', hbv, rfl, -, -⟩ := realSlice hv3 (by omega)
  have hcb := cellsOf?_spec hc
  have hvb := cellsOf?_spec hvc
  obtain ⟨c', hc', hcn, hct, hcd, hcc, hes⟩ := realRow hR hcb hb
  obtain ⟨u', hu', hun, hut, hud, huc, -⟩ := realRow hR hvb hbv
  have hcap' : n ≤ cap' ∧ o + bi.d + cap' * 2 ≤ bi.tot := by
    rcases hcap with h | h
    · have := hO1 h; rw [hes] at this; exact this
    · have := hO2 (by omega); omega
  have hner : bv.r ≠ bi.r := fun h => hne (hR.inj _ _ _ _ _ _ hvb hcb hbv hb rfl rfl h)
  obtain ⟨s1, s2, s3, s4⟩ := seg hcc hsz h1c (by omega)
  obtain ⟨u1, u2, u3, u4⟩ := seg huc hvsz h1v (by omega)
  generalize hcs : (c'.extract (o + bi.d) (o + bi.d + n * 2)).toList = cs at *
  generalize hvs : (u'.extract (vo + bv.d) (vo + bv.d + 2)).toList = vs at *
  have hcell : ∀ j v, cs[j]? = some v → w.cell? ⟨bi.r, o + bi.d + j, none⟩ = some v := fun j v h => cell?_eq_some.2 ⟨_, _, _, hc', s2 j v h⟩
  have hcellv : ∀ j v, vs[j]? = some v → w.cell? ⟨bv.r, vo + bv.d + j, none⟩ = some v := fun j v h => cell?_eq_some.2 ⟨_, _, _, hu', u2 j v h⟩
  have hvx : (vcs.extract vo (vo + 2)).size = 2 := by simp; omega
  have hrs := insRow_size c (vcs.extract vo (vo + 2)) o n q hqn hsz hvx
  have hra := insRow_at c (vcs.extract vo (vo + 2)) o n q hqn hsz hvx
  -- the cells of the new row, there
  have hnew : ∀ (c2 : Array Value) (d2 : Nat), (∀ j, j < q * 2 → c2[d2 + j]? = cs[j]?) → (∀ j, j < 2 → c2[d2 + (q * 2 + j)]? = vs[j]?) → (∀ j, q * 2 ≤ j → j < n * 2 → c2[d2 + (j + 2)]? = cs[j]?) →
      ∀ i v, (insRow c o n q (vcs.extract vo (vo + 2)))[i]? = some v → ∃ v', c2[d2 + i]? = some v' ∧ VR β v v' := by
    intro c2 d2 k1 k2 k3 i v hv
    rw [hra i] at hv
    by_cases g1 : i < q * 2
    · rw [if_pos g1] at hv
      obtain ⟨v', a, b⟩ := s4 i v (by omega) hv
      exact ⟨v', by rw [k1 i g1, a], b⟩
    · rw [if_neg g1] at hv
      by_cases g2 : i < q * 2 + 2
      · rw [if_pos g2, Array.getElem?_extract, if_pos (by omega)] at hv
        obtain ⟨v', a, b⟩ := u4 (i - q * 2) v (by omega) hv
        refine ⟨v', ?_, b⟩
        have := k2 (i - q * 2) (by omega)
        rw [show q * 2 + (i - q * 2) = i by omega] at this
        rw [this, a]
      · rw [if_neg g2] at hv
        by_cases g3 : i < n * 2 + 2
        · rw [if_pos g3] at hv
          obtain ⟨v', a, b⟩ := s4 (i - 2) v (by omega) hv
          refine ⟨v', ?_, b⟩
          have := k3 (i - 2) (by omega) (by omega)
          rw [show i - 2 + 2 = i by omega] at this
          rw [this, a]
        · rw [if_neg g3] at hv; cases hv
  have hdl : (cs.drop (q * 2)).length = n * 2 - q * 2 := by rw [List.length_drop, s1]
  by_cases hroom : n + 1 ≤ cap'
  · refine (ins_shift bi.r (o + bi.d) n cap' q bv.r (vo + bv.d) vc' cs vs w hqn hroom hn6 hner s1 u1 hcell (fun j hj => ?_) (fun j hj => by simp [World.frozen?, hc']) hcellv s3 u3 27 27 u'.size c'.size (by simp [World.shape?, hu']) (by simp [World.shape?, hc']) (by omega) (by simp [World.frozen?, hu']) (by simp [World.frozen?, hu'])).mono fun e w' hh => ?_
    · rw [Option.isSome_iff_exists]
      exact ⟨c'[o + bi.d + j]'(by omega), cell?_eq_some.2 ⟨_, _, _, hc', Array.getElem?_eq_getElem _⟩⟩
    · obtain ⟨rfl, rfl⟩ := hh
      obtain ⟨a1, a2, a3, a4, a5, a6, a7⟩ := setCells_facts bi.r (cs.drop (q * 2)) (o + bi.d + (q + 1) * 2) w.drew
      obtain ⟨b1, b2, b3, b4, b5, b6, b7⟩ := setCells_facts bi.r vs (o + bi.d + q * 2) (w.drew.setCells bi.r (o + bi.d + (q + 1) * 2) (cs.drop (q * 2)))
      have hrow := b7 _ _ _ (a7 _ _ _ (show w.drew.heap[bi.r]? = _ from hc'))
      have hz1 : (Ideal.putCells c' (o + bi.d + (q + 1) * 2) (cs.drop (q * 2))).size = c'.size := putCells_size _ _ _
      have p1 := putCells_at c' (cs.drop (q * 2)) (o + bi.d + (q + 1) * 2)
      have p2 := putCells_at (Ideal.putCells c' (o + bi.d + (q + 1) * 2) (cs.drop (q * 2))) vs (o + bi.d + q * 2)
      rw [hdl] at p1
      rw [u1, hz1] at p2
      have hat : ∀ j, j < n * 2 → c'[o + bi.d + j]? = cs[j]? := fun j hj => by
        rw [← hcs, Array.getElem?_toList, Array.getElem?_extract, if_pos (by omega)]
      have hR2 := hR.drew.regrow hb hcb (cs := insRow c o n q (vcs.extract vo (vo + 2))) (d2 := o + bi.d) (w' := (w.drew.setCells bi.r (o + bi.d + (q + 1) * 2) (cs.drop (q * 2))).setCells bi.r (o + bi.d + q * 2) vs)
        (b1.trans a1) (b2.trans a2) (b3.trans a3) (b5.trans a5) (fun k hk => (b6 k hk).trans (a6 k hk)) hrow (by rw [putCells_size, hz1]; exact hct) (by rw [hrs]; omega)
        (hnew _ _ (fun j hj => by
            rw [p2 _ (by omega), if_neg (by omega), p1 _ (by omega), if_neg (by omega)]; exact hat j (by omega))
          (fun j hj => by
            rw [p2 _ (by omega), if_pos (by omega)]; congr 1; omega)
          (fun j hj hj2 => by
            rw [p2 _ (by omega), if_neg (by omega), p1 _ (by omega), if_pos (by omega), List.getElem?_drop]; congr 1; omega))
      refine ⟨_, _, _, Beta.le_put hR.fresh, hR2, ?_, hQ⟩
      refine .slice (bi := ⟨bi.r, o + bi.d, (insRow c o n q (vcs.extract vo (vo + 2))).size, bi.es, bi.tot⟩) (by unfold Beta.put; rw [if_pos rfl]) (.inr (.inl ⟨rfl, by simp only [hes]; decide, .inl ⟨by simp, ?_, hroom, ?_⟩⟩))
      · simp only [hrs, hes]; omega
      · simp only [hes]; omega
  · refine (ins_grow bi.r (o + bi.d) n cap' q bv.r (vo + bv.d) vc' cs vs w hqn hcap'.1 (by omega) (by omega) s1 u1 hcell hcellv s3 u3).mono fun e w' hh => ?_
    obtain ⟨rfl, hw'⟩ := hh
    have hG := grownCap_ge w (n + 1) cap' 27
    generalize grownCap w (n + 1) cap' 27 = G at *
    generalize hrow0 : ((cs.take (q * 2)).toArray ++ Builtin.zeroCells zSpot.cells (n + 1 - q) ++ Builtin.zeroCells zSpot.cells (G - (n + 1))) = row0 at hw'
    have hzs : ∀ m, (Builtin.zeroCells zSpot.cells m).size = m * 2 := fun m => by
      have : zSpot.cells.size = 2 := by kernel_rfl
      simp [Builtin.zeroCells, this]
    have htl : (cs.take (q * 2)).length = q * 2 := by rw [List.length_take, s1]; omega
    have hr0 : row0.size = G * 2 := by
      rw [← hrow0]; simp only [Array.size_append, hzs, List.size_toArray, htl]; omega
    have hr0a : ∀ j, j < q * 2 → row0[j]? = cs[j]? := by
      intro j hj
      rw [← hrow0, Array.append_assoc, Array.getElem?_append_left (by simp; omega)]
      simp [hj]
    obtain ⟨a1, a2, a3, a4, a5, a6, a7⟩ := setCells_facts w.heap.size vs (q * 2) (w.alloc (.cells row0 27)).drew
    obtain ⟨b1, b2, b3, b4, b5, b6, b7⟩ := setCells_facts w.heap.size (cs.drop (q * 2)) ((q + 1) * 2) ((w.alloc (.cells row0 27)).drew.setCells w.heap.size (q * 2) vs).drew
    have hrow := b7 _ _ _ (show ((w.alloc (.cells row0 27)).drew.setCells w.heap.size (q * 2) vs).drew.heap[w.heap.size]? = _ from a7 _ _ _ (show (w.alloc (.cells row0 27)).heap[w.heap.size]? = some (.cells row0 27) by rw [alloc_heap, if_pos rfl]))
    rw [← hw'] at b1 b2 b3 b4 b5 b6 hrow
    have hz1 : (Ideal.putCells row0 (q * 2) vs).size = row0.size := putCells_size _ _ _
    have p1 := putCells_at row0 vs (q * 2)
    have p2 := putCells_at (Ideal.putCells row0 (q * 2) vs) (cs.drop (q * 2)) ((q + 1) * 2)
    rw [u1] at p1
    rw [hdl, hz1] at p2
    have hext := alloc_ext (w := w) (o := .cells row0 27) (b1.trans a1) (b2.trans a2) (b3.trans a3) (by rw [b5]; show (World.setCells _ _ _ _).heap.size = _; rw [a5]; simp) (fun k hk => (b6 k hk).trans (a6 k hk)) hrow
    have hfin := putCells_size (Ideal.putCells row0 (q * 2) vs) (cs.drop (q * 2)) ((q + 1) * 2)
    have hR1 := R.alloc hR (o := .cells (insRow c o n q (vcs.extract vo (vo + 2))) 27) (d := 0) (n := (insRow c o n q (vcs.extract vo (vo + 2))).size) (es := 2) (tot := G * 2)
      (OR.cells rfl (by rw [hfin, hz1, hr0]) (by simp only [hrs]; omega) (fun i v hv => by
        obtain ⟨v', h1, h2⟩ := hnew (Ideal.putCells (Ideal.putCells row0 (q * 2) vs) ((q + 1) * 2) (cs.drop (q * 2))) 0 (fun j hj => by
            rw [Nat.zero_add, p2 _ (by omega), if_neg (by omega), p1 _ (by omega), if_neg (by omega)]; exact hr0a j hj)
          (fun j hj => by
            rw [Nat.zero_add, p2 _ (by omega), if_neg (by omega), p1 _ (by omega), if_pos (by omega)]; congr 1; omega)
          (fun j hj hj2 => by
            rw [Nat.zero_add, p2 _ (by omega), if_pos (by omega), List.getElem?_drop]; congr 1; omega) i v hv
        exact ⟨v', h1, h2.mono (Beta.le_put hR.fresh)⟩) (.inl ⟨rfl, rfl⟩))
      (fun c2 e2 fz2 he i hi => by
        simp only [Obj.cells.injEq] at he
        obtain ⟨_, rfl, _⟩ := he
        have := hR.esz _ _ _ _ _ hcb rfl hb i hi
        omega) rfl
    have hR2 := (hR1.kill (b := b) (by have := hR.dom _ _ hb; simp; omega))
    rw [hext]
    refine ⟨_, _, _, Beta.le_put hR.fresh, R.drawnAt hR2 _, ?_, hQ⟩
    refine .slice (bi := ⟨w.heap.size, 0, (insRow c o n q (vcs.extract vo (vo + 2))).size, 2, G * 2⟩) (by unfold Beta.put; rw [if_pos rfl]) (.inr (.inl ⟨rfl, Nat.zero_lt_two, .inl ⟨rfl, ?_, hG, ?_⟩⟩))
    · show (insRow c o n q (vcs.extract vo (vo + 2))).size ≤ 0 + G * 2
      rw [hrs]; omega
    · show 0 + G * 2 ≤ G * 2
      omega⟩

/-! ### Delete -/
def delRow (c : Array Value) (o n i : Nat) : Array Value := c.extract o (o + i * 2) ++ c.extract (o + (i + 1) * 2) (o + n * 2)
theorem delRow_size (c : Array Value) (o n i : Nat) (hi : i < n) (hc : o + n * 2 ≤ c.size) : (delRow c o n i).size = (n - 1) * 2 := by
  unfold delRow; simp; omega
theorem delRow_at (c : Array Value) (o n i : Nat) (hi : i < n) (hc : o + n * 2 ≤ c.size) (j : Nat) :
    (delRow c o n i)[j]? = if j < i * 2 then c[o + j]? else if j < (n - 1) * 2 then c[o + (j + 2)]? else none := by
  unfold delRow
  have h1 : (c.extract o (o + i * 2)).size = i * 2 := by simp; omega
  by_cases g1 : j < i * 2
  · rw [if_pos g1, Array.getElem?_append_left (by omega), Array.getElem?_extract, if_pos (by omega)]
  · rw [if_neg g1, Array.getElem?_append_right (by omega), h1]
    by_cases g3 : j < (n - 1) * 2
    · rw [if_pos g3, Array.getElem?_extract, if_pos (by omega)]
      congr 1; omega
    · rw [if_neg g3]
      refine Array.getElem?_eq_none ?_
      simp; omega

def delS (args : Array Value) (w : World) : T (Value × World) :=
  match args.toList with
  | [.slice (some ⟨b, o, none⟩) n cap, .int .i64 i, .int .i64 j] =>
    match cellsOf? w b with
    | some (c, e, (0, 0)) =>
      if 0 ≤ i ∧ i < n ∧ j = i + 1 ∧ (cap = OPEN ∨ cap = n) ∧ e = 27 ∧ o + n * 2 ≤ c.size ∧ n ≤ 1000000 ∧ (c.extract o (o + n * 2)).toList.all one1 = true then
        .ret (.slice (some ⟨w.heap.size, 0, none⟩) (n - 1) OPEN, Ideal.kill (w.alloc (.cells (delRow c o n i.toNat) 27)) b)
      else .bad
    | _ => .bad
  | _ => .bad

def delH (f0 : FuncId) : HeapAns := fun f a w => if f = f0 then some (delS a w) else none

theorem del_laid : LaidH Try.prog (delH 25) := ⟨fun {B w0 β σ w f args args' t Q} hR ha hf hQ => by
  unfold delH at hf
  split at hf
  case isFalse => cases hf
  rename_i he
  subst he
  simp only [Option.some.injEq] at hf
  subst hf
  unfold delS at hQ
  split at hQ
  case h_2 => exact hQ.elim
  rename_i b o n cap i j harr
  obtain ⟨args⟩ := args
  simp only at harr
  subst harr
  split at hQ
  case h_2 => exact hQ.elim
  rename_i c e hc
  split at hQ
  case isFalse => exact hQ.elim
  rename_i hh
  obtain ⟨hi0, hin, rfl, hcap, rfl, hsz, hn6, h1c⟩ := hh
  obtain ⟨q, rfl⟩ := Int.eq_ofNat_of_zero_le hi0
  have hqn : q < n := by omega
  have hO : OPEN = 4611686018427387904 := rfl
  obtain ⟨v1, v2, v3, rfl, hv1, hv2, hv3⟩ := ar3 ha
  have hv2' : v2 = .int .i64 q := by cases hv2; rfl
  have hv3' : v3 = .int .i64 ((q : Int) + 1) := by cases hv3; rfl
  subst hv2'; subst hv3'
  obtain ⟨bi, cap', hb, rfl, hO1, hO2⟩ := realSlice hv1 (by omega)
  have hcb := cellsOf?_spec hc
  obtain ⟨c', hc', hcn, hct, hcd, hcc, hes⟩ := realRow hR hcb hb
  have hcap' : n ≤ cap' ∧ o + bi.d + cap' * 2 ≤ bi.tot := by
    rcases hcap with h | h
    · have := hO1 h; rw [hes] at this; exact this
    · have := hO2 (by omega); omega
  obtain ⟨s1, s2, s3, s4⟩ := seg hcc hsz h1c (by omega)
  generalize hcs : (c'.extract (o + bi.d) (o + bi.d + n * 2)).toList = cs at *
  have hcell : ∀ j v, cs[j]? = some v → w.cell? ⟨bi.r, o + bi.d + j, none⟩ = some v := fun j v h => cell?_eq_some.2 ⟨_, _, _, hc', s2 j v h⟩
  have hrs := delRow_size c o n q hqn hsz
  have hra := delRow_at c o n q hqn hsz
  have hdl : (cs.drop ((q + 1) * 2)).length = n * 2 - (q + 1) * 2 := by rw [List.length_drop, s1]
  refine (del_one bi.r (o + bi.d) n cap' q cs w hqn hcap'.1 hn6 s1 hcell (fun j hj => by simp [World.frozen?, hc']) s3).mono fun e w' hh => ?_
  obtain ⟨rfl, rfl⟩ := hh
  obtain ⟨a1, a2, a3, a4, a5, a6, a7⟩ := setCells_facts bi.r (cs.drop ((q + 1) * 2)) (o + bi.d + q * 2) w.drew
  obtain ⟨b1, b2, b3, b4, b5, b6, b7⟩ := setCells_facts bi.r [.int .i64 0, .int .i64 0] (o + bi.d + (n - 1) * 2) (w.drew.setCells bi.r (o + bi.d + q * 2) (cs.drop ((q + 1) * 2)))
  have hrow := b7 _ _ _ (a7 _ _ _ (show w.drew.heap[bi.r]? = _ from hc'))
  have hz1 : (Ideal.putCells c' (o + bi.d + q * 2) (cs.drop ((q + 1) * 2))).size = c'.size := putCells_size _ _ _
  have p1 := putCells_at c' (cs.drop ((q + 1) * 2)) (o + bi.d + q * 2)
  have p2 := putCells_at (Ideal.putCells c' (o + bi.d + q * 2) (cs.drop ((q + 1) * 2))) [.int .i64 0, .int .i64 0] (o + bi.d + (n - 1) * 2)
  rw [hdl] at p1
  rw [show [Value.int .i64 0, Value.int .i64 0].length = 2 from rfl, hz1] at p2
  have hat : ∀ j, j < n * 2 → c'[o + bi.d + j]? = cs[j]? := fun j hj => by
    rw [← hcs, Array.getElem?_toList, Array.getElem?_extract, if_pos (by omega)]
  have hR2 := hR.drew.regrow hb hcb (cs := delRow c o n q) (d2 := o + bi.d) (w' := (w.drew.setCells bi.r (o + bi.d + q * 2) (cs.drop ((q + 1) * 2))).setCells bi.r (o + bi.d + (n - 1) * 2) [.int .i64 0, .int .i64 0])
    (b1.trans a1) (b2.trans a2) (b3.trans a3) (b5.trans a5) (fun k hk => (b6 k hk).trans (a6 k hk)) hrow (by rw [putCells_size, hz1]; exact hct) (by rw [hrs]; omega)
    (fun i v hv => by
      rw [hra i] at hv
      by_cases g1 : i < q * 2
      · rw [if_pos g1] at hv
        obtain ⟨v', a, b⟩ := s4 i v (by omega) hv
        refine ⟨v', ?_, b⟩
        rw [p2 _ (by omega), if_neg (by omega), p1 _ (by omega), if_neg (by omega), hat _ (by omega), a]
      · rw [if_neg g1] at hv
        by_cases g2 : i < (n - 1) * 2
        · rw [if_pos g2] at hv
          obtain ⟨v', a, b⟩ := s4 (i + 2) v (by omega) hv
          refine ⟨v', ?_, b⟩
          rw [p2 _ (by omega), if_neg (by omega), p1 _ (by omega), if_pos (by omega), List.getElem?_drop, ← a]
          congr 1; omega
        · rw [if_neg g2] at hv; cases hv)
  refine ⟨_, _, _, Beta.le_put hR.fresh, hR2, ?_, hQ⟩
  refine .slice (bi := ⟨bi.r, o + bi.d, (delRow c o n q).size, bi.es, bi.tot⟩) (by unfold Beta.put; rw [if_pos rfl]) (.inr (.inl ⟨rfl, by simp only [hes]; decide, .inl ⟨by simp, ?_, by omega, ?_⟩⟩))
  · simp only [hrs, hes]; omega
  · simp only [hes]; omega⟩
end Go.Proofs.Ytcfhhfdkecbphaa
