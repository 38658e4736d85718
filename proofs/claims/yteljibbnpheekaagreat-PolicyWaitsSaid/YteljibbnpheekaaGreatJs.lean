/-
  Ideal runs with answers laid that may look at memory and write it; the library's sort among them.
-/
import Derived.Test.YteljibbnpheekaaGreatJr
import Derived.Shelf.Sort.Plain
import Derived.Shelf.Slices.In.SortNone
namespace Go.Ideal
open Go Go.RowKit Go.ChangeShapes

abbrev HeapAns := FuncId → Array Value → World → Option (T (Value × World))

/-- Answers that are laid, whatever the memory. -/
structure LaidH (P : Program) (H : HeapAns) : Prop where
  calls : ∀ {B : Nat} {w0 : Base} {β : Beta} {σ w : World} {f : FuncId} {args args' : Array Value} {t : T (Value × World)} {Q : Value × World → Prop}, R P B w0 β σ w → AR β args args' → H f args σ = some t → t.all Q → Calls P f args' w (Rets P B w0 β Q)

def runH (P : Program) (H : HeapAns) : Nat → Kont
  | 0 => { enter := fun _ _ _ => .bad, round := fun _ _ _ _ _ _ => .bad }
  | n + 1 => {
      enter := fun f args w => match H f args w with
        | some t => t
        | none => icall P (runH P H n) (n + 1) f args w
      round := iround P (runH P H n) (n + 1) }

theorem runH_KS {P : Program} {H : HeapAns} (hm : P.follows .mixedOrders = true) (hs : LaidH P H) (B : Nat) (w0 : Base) : ∀ n, KS P B w0 (runH P H n)
  | 0 => ⟨fun _ _ hQ => hQ.elim, fun _ _ _ hQ => hQ.elim⟩
  | n + 1 => ⟨fun {β σ w f args args' Q} hR ha hQ k => by
      simp only [runH] at hQ
      cases hf : H f args σ with
      | none => rw [hf] at hQ; exact call_in hm (fun w0 => runH_KS hm hs B w0 n) hR ha hQ k
      | some t =>
        rw [hf] at hQ
        exact callsIn_wide.2 (hs.calls hR ha hf hQ), fun hR hl ht hQ => round_in hm (fun w0 => runH_KS hm hs B w0 n) hR hl ht hQ⟩

theorem calls_of_runH {P : Program} {H : HeapAns} {B : Nat} {w0 : Base} {β : Beta} (hm : P.follows .mixedOrders = true) (hs : LaidH P H) {m : Nat} {f : FuncId} {args args' : Array Value} {σ w : World} {Q : Value × World → Prop}
    (hR : R P B w0 β σ w) (ha : AR β args args') (hQ : ((runH P H m).enter f args σ).all Q) : Calls P f args' w (Rets P B w0 β Q) := callsIn_wide.1 ((runH_KS hm hs B w0 m).enter hR ha hQ 0)

/-- A call of a function without laid answers. -/
theorem enter_okH {P : Program} {H : HeapAns} {m : Nat} {f : FuncId} {gf : GFn} {args : Array Value} {w : World} {Q : Value × World → Prop} (hf : lowG P f = some gf) (hs : H f args w = none) (h : wpGFn P (runH P H m) (m + 1) f gf args w fun v w => Q (v, w)) :
    ((runH P H (m + 1)).enter f args w).all Q := by
  simp only [runH, hs]
  exact wpGFn_ok hf h

theorem calls_trueH {H : Type} {enc : TypeId × Value → H} {P : Program} {hp : HeapAns} {f : FuncId} {fn : Func} {s : ChangeSpec} {apart handsOn again : Bool} {W : World} {args argsI : Array Value} {ds gs : List (DataW H)} {before : List MemPlace} {tb : TypeId}
    (hm : P.follows .mixedOrders = true) (hsp : LaidH P hp) (hl : laidOutB P = true) (hpar : ∀ t ∈ fn.params.toList, P.readableRec t = true ∧ t < P.types.size) (hres : fn.resultTypes = #[tb]) (htb : P.underlying tb = some .bool) (hvars : s.vars = [])
    (hs : s.fn H ds = { results := [.lit (.bool true)], args := ds, vars := [] })
    (hW : DataW.Whole enc P fn.params.toList s.vars apart W args.toList ds gs before) {β : Beta} {σ : World} (hR : R P W.heap.size (Base.of W) β σ W) (ha : AR β argsI args) {m : Nat}
    (hQ : ((runH P hp m).enter f argsI σ).all fun x => x.1 = .bool true) : Calls P f args W fun e W' => ∃ v, e = .returned v ∧ s.post enc P fn apart true handsOn again W args v W' := by
  refine (calls_of_runH hm hsp hR ha hQ).mono fun e W' he => ?_
  cases e with
  | returned v' =>
    obtain ⟨β2, v, σ', _, hR', hv, hq⟩ := he
    simp only at hq
    subst hq
    cases hv
    exact ⟨_, rfl, post_true hl hpar hres htb hvars hs hW hR'.below⟩
  | panicked c => exact he.elim
  | outgrown => exact he.elim

theorem LaidH.none (P : Program) : LaidH P fun _ _ _ => none := ⟨fun _ _ h _ => by cases h⟩

/-- Plain answers. -/
def ansH (sp : Answers) : HeapAns := fun f a w => (sp f a).map fun v => .ret (v, w)
theorem LaidA.heap {P : Program} {sp : Answers} (h : LaidA P sp) : LaidH P (ansH sp) := ⟨fun {B w0 β σ w f args args' t Q} hR ha hf hQ => by
  simp only [ansH, Option.map_eq_some_iff] at hf
  obtain ⟨v, hv, rfl⟩ := hf
  have he := ha.plain (h.args f args v hv)
  subst he
  refine (h.calls f args v hv w).mono fun e w' hh => ?_
  obtain ⟨rfl, hb⟩ := hh
  exact ⟨β, v, σ, .refl _, hR.grow hb, selfVR β 4 v (h.plain f args v hv), hQ⟩⟩

def orH (H K : HeapAns) : HeapAns := fun f a w => match H f a w with
  | some t => some t
  | none => K f a w
theorem LaidH.or {P : Program} {H K : HeapAns} (h : LaidH P H) (k : LaidH P K) : LaidH P (orH H K) := ⟨fun hR ha hf hQ => by
  unfold orH at hf
  split at hf
  · rename_i t ht
    simp only [Option.some.injEq] at hf; subst hf
    exact h.calls hR ha ht hQ
  · exact k.calls hR ha hf hQ⟩

/-! ### The library's sort of numbers -/
def intsOf : List Value → Option (List Int)
  | [] => some []
  | .int .i64 n :: l => (intsOf l).map (n :: ·)
  | _ :: _ => none
theorem intsOf_spec : ∀ {l : List Value} {zs : List Int}, intsOf l = some zs → l = zs.map (Value.int .i64)
  | [], zs, h => by simp only [intsOf, Option.some.injEq] at h; subst h; rfl
  | v :: l, zs, h => by
    unfold intsOf at h
    split at h
    · rename_i e; cases e
    · rename_i n l' e
      simp only [List.cons.injEq] at e
      obtain ⟨rfl, rfl⟩ := e
      simp only [Option.map_eq_some_iff] at h
      obtain ⟨ys, hy, rfl⟩ := h
      rw [intsOf_spec hy]; rfl
    · cases h
theorem intsOf_map : ∀ (zs : List Int), intsOf (zs.map (Value.int .i64)) = some zs
  | [] => rfl
  | z :: zs => by simp [intsOf, intsOf_map zs]

def sorted (zs : List Int) : List Int := zs.mergeSort fun x y => decide (x ≤ y)
theorem sorted_len (zs : List Int) : (sorted zs).length = zs.length := by simp [sorted]

def sortS (args : Array Value) (w : World) : T (Value × World) :=
  match args.toList with
  | [.slice base n _] =>
    if n = 0 then .ret (.tuple #[], w)
    else match base with
      | some ⟨b, o, none⟩ => match cellsOf? w b with
        | some (c, e, (0, 0)) => if o + n ≤ c.size ∧ n < 4611686018427387904 then (match intsOf (c.extract o (o + n)).toList with
          | some zs => .ret (.tuple #[], World.set w b (.cells (putCells c o ((sorted zs).map (Value.int .i64))) e))
          | none => .bad) else .bad
        | _ => .bad
      | _ => .bad
  | _ => .bad

def sortH (f0 : FuncId) : HeapAns := fun f a w => if f = f0 then some (sortS a w) else none

theorem R.drawn {P : Program} {B : Nat} {w0 : Base} {β : Beta} {σ w : World} (h : R P B w0 β σ w) (n : Nat) : R P B w0 β σ (Go.Sort.ahead w n) :=
  { below := ⟨h.below.os, h.below.tape, h.below.output, h.below.size, h.below.block⟩, held := h.held, size := h.size, dom := h.dom, cov := h.cov, obj := h.obj, dd := h.dd, esz := h.esz, new := h.new, free := h.free, inj := h.inj }

theorem putCells_at (c : Array Value) (vs : List Value) : ∀ (o i : Nat), o + vs.length ≤ c.size → (Ideal.putCells c o vs)[i]? = if o ≤ i ∧ i < o + vs.length then vs[i - o]? else c[i]? := by
  intro o i h
  rw [← Array.getElem?_toList, putCells_list vs c o h]
  have hl : (c.toList.take o).length = o := by rw [List.length_take, Array.length_toList]; omega
  by_cases h1 : o ≤ i
  · by_cases h2 : i < o + vs.length
    · rw [if_pos ⟨h1, h2⟩, List.append_assoc, List.getElem?_append_right (by omega), hl, List.getElem?_append_left (by omega)]
    · rw [if_neg (by omega), List.append_assoc, List.getElem?_append_right (by omega), hl, List.getElem?_append_right (by omega), List.getElem?_drop, Array.getElem?_toList]
      congr 1; omega
  · rw [if_neg (by omega), List.append_assoc, List.getElem?_append_left (by omega), List.getElem?_take_of_lt (by omega), Array.getElem?_toList]
theorem putCells_size (c : Array Value) (vs : List Value) : ∀ (o : Nat), (Ideal.putCells c o vs).size = c.size := by
  induction vs generalizing c with
  | nil => intro o; rfl
  | cons v vs ih => intro o; simp only [Ideal.putCells]; rw [ih]; simp

theorem sort_laid {P : Program} {f0 : FuncId}
    (h1 : ∀ (blk off cap : Nat) (zs : List Int) (w : World), Go.Sort.Holds (Value.int .i64) w blk off zs.toArray → blk < w.heap.size → zs.length < 4611686018427387904 →
      Calls P f0 #[.slice (some ⟨blk, off, none⟩) zs.length cap] w fun e w' => e = .returned (.tuple #[]) ∧ ∃ n os, w' = Go.Sort.grow (Go.Sort.putRow (Value.int .i64) (Go.Sort.ahead w n) blk off (zs.mergeSort fun x y => decide (x ≤ y)).toArray) os)
    (h0 : ∀ (p : Option Addr) (cap : Nat) (w : World), Calls P f0 #[.slice p 0 cap] w fun e w' => e = .returned (.tuple #[]) ∧ w' = w) : LaidH P (sortH f0) := ⟨fun {B w0 β σ w f args args' t Q} hR ha hf hQ => by
  unfold sortH at hf
  split at hf
  · rename_i he
    subst he
    simp only [Option.some.injEq] at hf
    subst hf
    unfold sortS at hQ
    split at hQ
    · rename_i base n cap harr
      obtain ⟨args⟩ := args
      simp only at harr
      subst harr
      have ha1 : ∃ v', args' = #[v'] ∧ VR β (.slice base n cap) v' := by
        obtain ⟨hsz, hv⟩ := ha
        obtain ⟨l⟩ := args'
        match l, hsz with
        | [v'], _ => exact ⟨v', rfl, hv 0 _ _ rfl rfl⟩
      obtain ⟨v', rfl, hv⟩ := ha1
      split at hQ
      · rename_i hn
        subst hn
        have : ∃ p c, v' = .slice p 0 c := by cases hv <;> exact ⟨_, _, rfl⟩
        obtain ⟨p, c, rfl⟩ := this
        refine (h0 p c w).mono fun e w' hh => ?_
        obtain ⟨rfl, rfl⟩ := hh
        exact ⟨β, .tuple #[], σ, .refl _, hR, .tuple rfl (fun i v v' h _ => by simp at h), hQ⟩
      · rename_i hn
        split at hQ
        · rename_i b o
          split at hQ
          · rename_i c e hc
            split at hQ
            · rename_i hle
              split at hQ
              · rename_i zs hzs
                have hcell := cellsOf?_spec hc
                have hz := intsOf_spec hzs
                have hzl : zs.length = n := by
                  have := congrArg List.length hz
                  simp at this
                  omega
                obtain ⟨o', cap', bi, hbi, rfl, ho'⟩ : ∃ o' cap' bi, β b = some bi ∧ v' = .slice (some ⟨bi.r, o', none⟩) n cap' ∧ o' = o + bi.d := by
                  cases hv with
                  | slice hb hs =>
                    rename_i o' cap' bi
                    refine ⟨o', cap', bi, hb, rfl, ?_⟩
                    rcases hs with ⟨_, _, h3, h4⟩ | ⟨_, _, ⟨h, _⟩ | ⟨h, _⟩⟩ | ⟨_, h, _⟩
                    · rcases h4 with h | h
                      · exact h
                      · omega
                    · exact h
                    · exact absurd h hn
                    · exact h
                subst ho'
                have hat : ∀ j (hj : j < zs.length), c[o + j]? = some (.int .i64 zs[j]) := by
                  intro j hj
                  have := congrArg (fun l => l[j]?) hz
                  simp only [Array.getElem?_toList, Array.getElem?_extract, List.getElem?_map, List.getElem?_eq_getElem hj, Option.map_some] at this
                  rw [if_pos (by omega)] at this
                  exact this
                obtain ⟨ob, hob, hor⟩ := hR.obj b _ bi hcell hbi rfl
                cases hor with
                | @cells _ c' _ _ fz' hcn htot hd hcc hfz =>
                  have hfz0 : fz' = (0, 0) := by
                    rcases hfz with ⟨_, h⟩ | h
                    · exact h
                    · exact absurd h.2.1 (by simp)
                  subst hfz0
                  have hreal : ∀ j (hj : j < zs.length), c'[o + bi.d + j]? = some (.int .i64 zs[j]) := by
                    intro j hj
                    obtain ⟨v2, h2, h3⟩ := hcc (o + j) _ (hat j hj)
                    cases h3
                    rw [show o + bi.d + j = bi.d + (o + j) by omega]; exact h2
                  have hH : Go.Sort.Holds (Value.int .i64) w bi.r (o + bi.d) zs.toArray := by
                    intro j hj
                    have hj' : j < zs.length := by simpa using hj
                    refine ⟨?_, by simp [World.frozen?, hob]⟩
                    rw [cell?_eq_some.2 ⟨_, _, _, hob, hreal j hj'⟩]
                    simp [hj']
                  have hlt : bi.r < w.heap.size := (Array.getElem?_eq_some_iff.1 hob).1
                  have hcall := h1 bi.r (o + bi.d) cap' zs w hH hlt (by omega)
                  rw [hzl] at hcall
                  refine hcall.mono fun e2 w' hh => ?_
                  obtain ⟨rfl, k, os, rfl⟩ := hh
                  have hsl : ((sorted zs).map (Value.int .i64)).length = n := by simp [sorted, hzl]
                  have hput : Go.Sort.putCells (Value.int .i64) (o + bi.d) (sorted zs).toArray c' = Ideal.putCells c' (o + bi.d) ((sorted zs).map (Value.int .i64)) := by
                    apply Array.ext_getElem?
                    intro i
                    rw [putCells_at _ _ _ _ (by rw [hsl]; omega), hsl]
                    simp only [Go.Sort.putCells, Array.getElem?_mapIdx, List.size_toArray, sorted_len, hzl]
                    by_cases hi : o + bi.d ≤ i ∧ i < o + bi.d + n
                    · rw [if_pos hi]
                      have hic : i < c'.size := by omega
                      have hik : i - (o + bi.d) < (sorted zs).length := by rw [sorted_len]; omega
                      simp [hic, hi, hik]
                    · rw [if_neg hi]
                      by_cases hic : i < c'.size
                      · simp only [Array.getElem?_eq_getElem hic, Option.map_some, if_neg hi]
                      · simp [Array.getElem?_eq_none (Nat.le_of_not_lt hic)]
                  have hob2 : OR β bi (.cells (Ideal.putCells c o ((sorted zs).map (Value.int .i64))) e (0, 0)) (.cells (Ideal.putCells c' (o + bi.d) ((sorted zs).map (Value.int .i64))) e (0, 0)) := by
                    refine .cells (by rw [putCells_size]; exact hcn) (by rw [putCells_size]; exact htot) hd (fun i v hv => ?_) (.inl ⟨rfl, rfl⟩)
                    rw [putCells_at _ _ _ _ (by rw [hsl]; omega), hsl] at hv
                    rw [putCells_at _ _ _ _ (by rw [hsl]; omega), hsl]
                    by_cases hi : o ≤ i ∧ i < o + n
                    · rw [if_pos hi] at hv
                      rw [if_pos (by omega), show bi.d + i - (o + bi.d) = i - o by omega]
                      refine ⟨v, hv, ?_⟩
                      have hm := List.mem_of_getElem? hv
                      obtain ⟨z, _, rfl⟩ := List.mem_map.1 hm
                      exact .int _ _
                    · rw [if_neg hi] at hv
                      rw [if_neg (by omega)]
                      exact hcc i v hv
                  have hR1 := (hR.drawn k).putObj hbi hcell rfl hob2 rfl (fun c2 e2 fz2 he i hi => by
                    simp only [Obj.cells.injEq] at he
                    obtain ⟨_, rfl, _⟩ := he
                    exact hR.esz b c e (0, 0) bi hcell rfl hbi i hi)
                  have hww : Go.Sort.putRow (Value.int .i64) (Go.Sort.ahead w k) bi.r (o + bi.d) (sorted zs).toArray = Ideal.putObj (Go.Sort.ahead w k) bi.r (.cells (Ideal.putCells c' (o + bi.d) ((sorted zs).map (Value.int .i64))) e (0, 0)) := by
                    unfold Go.Sort.putRow Go.Sort.mapBlock Ideal.putObj
                    congr 1
                    apply Array.ext (by simp)
                    intro i g1 g2
                    rw [Array.getElem_modify, Array.getElem_setIfInBounds (by simpa using g2)]
                    by_cases hi : bi.r = i
                    · subst hi
                      rw [if_pos rfl, if_pos rfl]
                      refine (congrArg _ ((Array.getElem?_eq_some_iff.1 hob).2 : (Go.Sort.ahead w k).heap[bi.r] = .cells c' e (0, 0))).trans ?_
                      simp only [Go.Sort.onCells, hput]
                    · rw [if_neg hi, if_neg hi]
                  refine ⟨β, .tuple #[], _, .refl _, ?_, .tuple rfl (fun i v v' h _ => by simp at h), hQ⟩
                  have hgr : Below (Ideal.putObj (Go.Sort.ahead w k) bi.r (.cells (Ideal.putCells c' (o + bi.d) ((sorted zs).map (Value.int .i64))) e (0, 0))).heap.size (Ideal.putObj (Go.Sort.ahead w k) bi.r (.cells (Ideal.putCells c' (o + bi.d) ((sorted zs).map (Value.int .i64))) e (0, 0))) (Go.Sort.grow (Ideal.putObj (Go.Sort.ahead w k) bi.r (.cells (Ideal.putCells c' (o + bi.d) ((sorted zs).map (Value.int .i64))) e (0, 0))) os) :=
                    ⟨rfl, rfl, rfl, by simp [Go.Sort.grow], fun i hi => by simp only [Go.Sort.grow]; rw [Array.getElem?_append_left hi]⟩
                  have := hR1.grow hgr
                  show R P B w0 β (World.set σ b _) (Go.Sort.grow (Go.Sort.putRow (Value.int .i64) (Go.Sort.ahead w k) bi.r (o + bi.d) (sorted zs).toArray) os)
                  rw [hww]
                  exact this
              · exact hQ.elim
            · exact hQ.elim
          · exact hQ.elim
        · exact hQ.elim
    · exact hQ.elim
  · cases hf⟩
end Go.Ideal
