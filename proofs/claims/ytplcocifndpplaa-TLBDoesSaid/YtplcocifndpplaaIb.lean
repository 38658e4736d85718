/-
  The relation of an ideal world to a real one, and what reads, writes and new blocks do to it.
-/
import Derived.Test.YtplcocifndpplaaIa
namespace Go.Ideal
open Go

/-- Where an ideal block lies: the real block, how far its cells stand behind the block's begin, how many there are, cells of an element, all cells of the real block. -/
structure BI where
  r : Nat
  d : Nat
  n : Nat
  es : Nat
  tot : Nat

abbrev Beta := Nat → Option BI
def Beta.le (β β' : Beta) : Prop := ∀ b bi, β b = some bi → β' b = some bi
theorem Beta.le.refl (β : Beta) : β.le β := fun _ _ h => h
theorem Beta.le.trans {a b c : Beta} (h : a.le b) (k : b.le c) : a.le c := fun x y e => k x y (h x y e)

/-- A slice's ends: known, or open; or never asked for. -/
def SC (bi : BI) (o len cap o' cap' : Nat) : Prop :=
  (cap < OPEN ∧ cap' = cap ∧ len ≤ cap ∧ (o' = o + bi.d ∨ cap = 0)) ∨
  (cap = OPEN ∧ 0 < bi.es ∧ ((o' = o + bi.d ∧ bi.n ≤ o + cap' * bi.es ∧ len ≤ cap' ∧ o' + cap' * bi.es ≤ bi.tot) ∨ (len = 0 ∧ cap' = 0 ∧ bi.n ≤ o))) ∨
  (OPEN < cap ∧ o' = o + bi.d ∧ len ≤ cap')

inductive FnR (β : Beta) : Fn → Fn → Prop
  | func (f : FuncId) : FnR β (.func f) (.func f)
  | yield {l : Nat} {bi : BI} (h : β l = some bi) : FnR β (.yield l) (.yield bi.r)

/-- What a token stands for: a number that the run hands about and does not look at. -/
def tokVal (bi : BI) : Value := .int .i64 ((bi.d : Int) - (bi.n : Int))

inductive VR (β : Beta) : Value → Value → Prop
  | tok {b : Nat} {bi : BI} {v' : Value} (h : β b = some bi) (hv : v' = tokVal bi) : VR β (.chan (some b)) v'
  | bool (b : Bool) : VR β (.bool b) (.bool b)
  | int (k : IntKind) (n : Int) : VR β (.int k n) (.int k n)
  | float (k : FloatKind) (n : Nat) : VR β (.float k n) (.float k n)
  | complex (k : FloatKind) (n m : Nat) : VR β (.complex k n m) (.complex k n m)
  | string (s : ByteArray) : VR β (.string s) (.string s)
  | nilPtr : VR β (.pointer none) (.pointer none)
  | ptr {b o : Nat} {bi : BI} (h : β b = some bi) : VR β (.pointer (some ⟨b, o, none⟩)) (.pointer (some ⟨bi.r, o + bi.d, none⟩))
  | nilSlice : VR β (.slice none 0 0) (.slice none 0 0)
  | slice {b o len cap o' cap' : Nat} {bi : BI} (h : β b = some bi) (hs : SC bi o len cap o' cap') :
      VR β (.slice (some ⟨b, o, none⟩) len cap) (.slice (some ⟨bi.r, o', none⟩) len cap')
  | nilMap : VR β (.map none) (.map none)
  | map {b : Nat} {bi : BI} (h : β b = some bi) : VR β (.map (some b)) (.map (some bi.r))
  | nilFunc : VR β .nilFunc .nilFunc
  | func {fn fn' : Fn} {c c' : Array Value} (hf : FnR β fn fn') (hs : c.size = c'.size)
      (hc : ∀ (i : Nat) (v v' : Value), c[i]? = some v → c'[i]? = some v' → VR β v v') : VR β (.func fn #[] c) (.func fn' #[] c')
  | nilIface : VR β .nilIface .nilIface
  | iface (t : TypeId) {v v' : Value} (h : VR β v v') : VR β (.iface t v) (.iface t v')
  | agg {c c' : Array Value} (hs : c.size = c'.size)
      (hc : ∀ (i : Nat) (v v' : Value), c[i]? = some v → c'[i]? = some v' → VR β v v') : VR β (.agg c) (.agg c')
  | tuple {c c' : Array Value} (hs : c.size = c'.size)
      (hc : ∀ (i : Nat) (v v' : Value), c[i]? = some v → c'[i]? = some v' → VR β v v') : VR β (.tuple c) (.tuple c')

/-- Rows of values. -/
def AR (β : Beta) (c c' : Array Value) : Prop :=
  c.size = c'.size ∧ ∀ (i : Nat) (v v' : Value), c[i]? = some v → c'[i]? = some v' → VR β v v'

theorem tokVal_cases (bi : BI) : ∃ n, tokVal bi = .int .i64 n := ⟨_, rfl⟩

theorem FnR.mono {β β' : Beta} (h : β.le β') {f f' : Fn} (hf : FnR β f f') : FnR β' f f' := by
  cases hf with
  | func f => exact .func f
  | yield e => exact .yield (h _ _ e)

theorem VR.mono {β β' : Beta} (h : β.le β') {v v' : Value} (hv : VR β v v') : VR β' v v' := by
  induction hv with
  | tok e hv => exact .tok (h _ _ e) hv
  | bool b => exact .bool b
  | int k n => exact .int k n
  | float k n => exact .float k n
  | complex k n m => exact .complex k n m
  | string s => exact .string s
  | nilPtr => exact .nilPtr
  | ptr e => exact .ptr (h _ _ e)
  | nilSlice => exact .nilSlice
  | slice e hs => exact .slice (h _ _ e) hs
  | nilMap => exact .nilMap
  | map e => exact .map (h _ _ e)
  | nilFunc => exact .nilFunc
  | func hf hs _ ih => exact .func (hf.mono h) hs ih
  | nilIface => exact .nilIface
  | iface t _ ih => exact .iface t ih
  | agg hs _ ih => exact .agg hs ih
  | tuple hs _ ih => exact .tuple hs ih

theorem AR.mono {β β' : Beta} (h : β.le β') {c c' : Array Value} (hc : AR β c c') : AR β' c c' := ⟨hc.1, fun i v v' e e' => (hc.2 i v v' e e').mono h⟩

theorem AR.get {β : Beta} {c c' : Array Value} (h : AR β c c') {i : Nat} {v : Value} (hv : c[i]? = some v) : ∃ v', c'[i]? = some v' ∧ VR β v v' := by
  have hi : i < c.size := (Array.getElem?_eq_some_iff.1 hv).1
  have hi' : i < c'.size := h.1 ▸ hi
  exact ⟨c'[i], by simp [hi'], h.2 i v _ hv (by simp [hi'])⟩

theorem AR.none {β : Beta} {c c' : Array Value} (h : AR β c c') {i : Nat} (hv : c[i]? = none) : c'[i]? = none := by
  rw [Array.getElem?_eq_none_iff] at *
  rw [← h.1]; exact hv

theorem AR.empty (β : Beta) : AR β #[] #[] := ⟨rfl, fun i v v' e => by simp at e⟩

theorem AR.push {β : Beta} {c c' : Array Value} (h : AR β c c') {v v' : Value} (hv : VR β v v') : AR β (c.push v) (c'.push v') := by
  refine ⟨by simp [h.1], fun i x x' e e' => ?_⟩
  rw [Array.getElem?_push] at e e'
  rw [h.1] at e
  by_cases hi : i = c'.size
  · rw [if_pos hi] at e e'
    simp only [Option.some.injEq] at e e'
    subst e; subst e'; exact hv
  · rw [if_neg hi] at e e'
    exact h.2 i x x' e e'

theorem AR.append {β : Beta} {c c' d d' : Array Value} (h : AR β c c') (k : AR β d d') : AR β (c ++ d) (c' ++ d') := by
  refine ⟨by simp [h.1, k.1], fun i x x' e e' => ?_⟩
  rw [Array.getElem?_append] at e e'
  rw [h.1] at e
  by_cases hi : i < c'.size
  · rw [if_pos hi] at e e'
    exact h.2 i x x' e e'
  · rw [if_neg hi] at e e'
    exact k.2 _ x x' e e'

theorem AR.extract {β : Beta} {c c' : Array Value} (h : AR β c c') (i j : Nat) : AR β (c.extract i j) (c'.extract i j) := by
  refine ⟨by simp [h.1], fun k x x' e e' => ?_⟩
  rw [Array.getElem?_extract] at e e'
  split at e
  · split at e'
    · exact h.2 _ x x' e e'
    · cases e'
  · cases e

theorem AR.set {β : Beta} {c c' : Array Value} (h : AR β c c') (i : Nat) {v v' : Value} (hv : VR β v v') : AR β (c.setIfInBounds i v) (c'.setIfInBounds i v') := by
  refine ⟨by simp [h.1], fun k x x' e e' => ?_⟩
  rw [Array.getElem?_setIfInBounds] at e e'
  rw [h.1] at e
  split at e
  · split at e
    · simp_all
    · cases e
  · rename_i hk
    rw [if_neg hk] at e'
    exact h.2 _ x x' e e'

theorem AR.toList {β : Beta} {c c' : Array Value} (h : AR β c c') : c.toList.length = c'.toList.length := by simpa using h.1

theorem AR.undef (β : Beta) (n : Nat) : AR β (Array.replicate n undef) (Array.replicate n undef) := by
  refine ⟨rfl, fun k x x' e e' => ?_⟩
  rw [e] at e'
  simp only [Option.some.injEq] at e'
  subst e'
  rw [Array.getElem?_replicate] at e
  split at e
  · simp only [Option.some.injEq] at e
    subst e
    exact .tuple rfl (fun i v v' e => by simp at e)
  · cases e

/-- Plain data are the same. -/
theorem VR.ground {β : Beta} : ∀ (n : Nat) {v v' : Value}, VR β v v' → groundD n v = true → v = v'
  | 0, _, _, .tok _ _, h => by simp [groundD] at h
  | n + 1, _, _, .tok _ _, h => by simp [groundD] at h
  | n, _, _, .bool b, _ => rfl
  | n, _, _, .int k m, _ => rfl
  | n, _, _, .float k m, _ => rfl
  | n, _, _, .complex k m l, _ => rfl
  | n, _, _, .string s, _ => rfl
  | n, _, _, .nilPtr, _ => rfl
  | 0, _, _, .ptr _, h => by simp [groundD] at h
  | n + 1, _, _, .ptr _, h => by simp [groundD] at h
  | n, _, _, .nilSlice, _ => rfl
  | 0, _, _, .slice _ _, h => by simp [groundD] at h
  | n + 1, _, _, .slice _ _, h => by simp [groundD] at h
  | n, _, _, .nilMap, _ => rfl
  | 0, _, _, .map _, h => by simp [groundD] at h
  | n + 1, _, _, .map _, h => by simp [groundD] at h
  | n, _, _, .nilFunc, _ => rfl
  | 0, _, _, .func _ _ _, h => by simp [groundD] at h
  | n + 1, _, _, .func _ _ _, h => by simp [groundD] at h
  | n, _, _, .nilIface, _ => rfl
  | 0, _, _, .iface t _, h => by simp [groundD] at h
  | n + 1, _, _, .iface t hv, h => by
    simp only [groundD] at h
    rw [VR.ground n hv h]
  | 0, _, _, .agg _ _, h => by simp [groundD] at h
  | n + 1, .agg c, .agg c', .agg hs hc, h => by
    simp only [groundD, List.all_eq_true] at h
    congr 1
    apply Array.ext hs
    intro i h1 h2
    exact VR.ground n (hc i c[i] c'[i] (by simp [h1]) (by simp [h2])) (h _ (by simp))
  | 0, _, _, .tuple _ _, h => by simp [groundD] at h
  | n + 1, _, _, .tuple _ _, h => by simp [groundD] at h

/-- Objects. -/
def RO (c : Array Value) (fz : Nat × Nat) : Prop := fz.1 = 0 ∧ 0 < fz.2 ∧ c.size ≤ fz.2

structure ER (β : Beta) (x x' : MapEntry) : Prop where
  key : x.key = x'.key ∧ keyFit x.key = true
  val : VR β x.val x'.val
  born : x.born = x'.born

inductive OR (β : Beta) (bi : BI) : Obj → Obj → Prop
  | cells {c c' : Array Value} {e : TypeId} {fz fz' : Nat × Nat} (hn : c.size = bi.n) (ht : c'.size = bi.tot) (hd : bi.d + bi.n ≤ bi.tot)
      (hc : ∀ (i : Nat) (v : Value), c[i]? = some v → ∃ v', c'[bi.d + i]? = some v' ∧ VR β v v')
      (hf : (fz = (0, 0) ∧ fz' = (0, 0)) ∨ RO c fz) : OR β bi (.cells c e fz) (.cells c' e fz')
  | map {es es' : Array MapEntry} {k : Nat} (hs : es.size = es'.size)
      (he : ∀ (i : Nat) (x x' : MapEntry), es[i]? = some x → es'[i]? = some x' → ER β x x') : OR β bi (.map es k) (.map es' k)
  | stringIter (s : ByteArray) (p : Nat) (h : bi.d = 0) : OR β bi (.stringIter s p) (.stringIter s p)
  | nilIter (since : Nat) (seen : Array Nat) (stepped : Nat) (h : bi.d = 0) : OR β bi (.mapIter none since seen stepped) (.mapIter none since seen stepped)
  | mapIter {m : Nat} {bm : BI} (hm : β m = some bm) (since : Nat) (seen : Array Nat) (stepped : Nat) (h : bi.d = 0) :
      OR β bi (.mapIter (some m) since seen stepped) (.mapIter (some bm.r) since seen stepped)
  | loop {st : LoopState} {pe : Option Code} {fn fn' : FuncId} {tmps tmps' : Array Value} {ps : Array Tmp} {assign body : Code} {df : Nat} {bd : BI} (hd : β df = some bd) (ht : AR β tmps tmps') :
      OR β bi (.loop { state := st, pending := pe, fn, tmps, params := ps, assign, body, defers := df }) (.loop { state := st, pending := pe, fn := fn', tmps := tmps', params := ps, assign, body, defers := bd.r })
  | deferred : OR β bi (.deferred (some [])) (.deferred (some []))
  | taken : OR β bi (.deferred none) (.deferred none)

theorem ER.mono {β β' : Beta} (h : β.le β') {x x' : MapEntry} (hx : ER β x x') : ER β' x x' := ⟨hx.key, hx.val.mono h, hx.born⟩

theorem OR.mono {β β' : Beta} (h : β.le β') {bi : BI} {o o' : Obj} (ho : OR β bi o o') : OR β' bi o o' := by
  cases ho with
  | cells hn ht hd hc hf => exact .cells hn ht hd (fun i v e => let ⟨v', e', hv⟩ := hc i v e; ⟨v', e', hv.mono h⟩) hf
  | map hs he => exact .map hs fun i x x' e e' => (he i x x' e e').mono h
  | stringIter s p hd => exact .stringIter s p hd
  | nilIter a b c hd => exact .nilIter a b c hd
  | mapIter hm a b c hd => exact .mapIter (h _ _ hm) a b c hd
  | loop hd ht => exact .loop (h _ _ hd) (ht.mono h)
  | deferred => exact .deferred
  | taken => exact .taken

def live : Obj → Bool
  | .cells _ _ fz => fz.1 == 0
  | _ => true

/-- May it be written? -/
def wr : Obj → Bool
  | .cells _ _ fz => fz == (0, 0)
  | _ => true

theorem live_of_wr {o : Obj} (h : wr o = true) : live o = true := by
  cases o <;> simp_all [wr, live]

/-- The world that a run began in; blocks that nothing here writes, and what they hold. -/
structure Base where
  w : World
  S : Nat → Prop
  o : Nat → Option Obj

/-- Nothing is held. -/
def Base.of (w : World) : Base := ⟨w, fun _ => False, fun _ => none⟩

structure R (P : Program) (B : Nat) (w0 : Base) (β : Beta) (σ w : World) : Prop where
  below : RowKit.Below B w0.w w
  held : ∀ k, w0.S k → ∃ x, w.heap[k]? = some x ∧ w0.o k = some x
  size : B ≤ w.heap.size
  dom : ∀ b bi, β b = some bi → b < σ.heap.size
  cov : ∀ b, b < σ.heap.size → ∃ bi, β b = some bi
  obj : ∀ b o bi, σ.heap[b]? = some o → β b = some bi → live o = true → ∃ o', w.heap[bi.r]? = some o' ∧ OR β bi o o'
  dd : ∀ (b : Nat) (o : Obj), σ.heap[b]? = some o → live o = false → o = dead
  esz : ∀ b c e fz bi, σ.heap[b]? = some (.cells c e fz) → live (.cells c e fz) = true → β b = some bi → ∀ i, P.info? e = some i → i.size = bi.es
  new : ∀ b o bi, σ.heap[b]? = some o → β b = some bi → wr o = true → B ≤ bi.r
  free : ∀ b o bi, σ.heap[b]? = some o → β b = some bi → live o = true → ¬ w0.S bi.r
  inj : ∀ b1 b2 o1 o2 bi1 bi2, σ.heap[b1]? = some o1 → σ.heap[b2]? = some o2 → β b1 = some bi1 → β b2 = some bi2 → wr o1 = true → live o2 = true → bi1.r = bi2.r → b1 = b2

section
variable {P : Program} {B : Nat} {w0 : Base} {β : Beta} {σ w : World}

theorem R.holds (h : R P B w0 β σ w) {w' : World} {k : Nat} (hk : w0.S k) (he : w'.heap[k]? = w.heap[k]?) : ∃ x, w'.heap[k]? = some x ∧ w0.o k = some x := by
  rw [he]; exact h.held k hk

theorem R.lt (h : R P B w0 β σ w) {b : Nat} {o : Obj} {bi : BI} (hb : σ.heap[b]? = some o) (e : β b = some bi) (hl : live o = true) : bi.r < w.heap.size := by
  obtain ⟨o', ho', _⟩ := h.obj _ _ _ hb e hl
  exact (Array.getElem?_eq_some_iff.1 ho').1

theorem cell?_eq_some {w : World} {b o : Nat} {v : Value} : w.cell? ⟨b, o, none⟩ = some v ↔ ∃ c e fz, w.heap[b]? = some (.cells c e fz) ∧ c[o]? = some v := by
  unfold World.cell?
  constructor
  · intro h
    split at h
    · rename_i c e fz hb
      simp at h
      exact ⟨c, e, fz, hb, h⟩
    · cases h
  · rintro ⟨c, e, fz, hb, hv⟩
    simp only at hb ⊢
    rw [hb]; simpa using hv

theorem R.liveCell (h : R P B w0 β σ w) {b : Nat} {c : Array Value} {e : TypeId} {fz : Nat × Nat} (hb : σ.heap[b]? = some (.cells c e fz)) {o : Nat} {v : Value} (hv : c[o]? = some v) : live (.cells c e fz) = true := by
  cases hl : live (.cells c e fz) with
  | true => rfl
  | false =>
    have := h.dd _ _ hb hl
    simp only [dead, Obj.cells.injEq] at this
    obtain ⟨rfl, _⟩ := this
    simp at hv

/-- A cell that is there is there. -/
theorem R.cell (h : R P B w0 β σ w) {b o : Nat} {bi : BI} {v : Value} (hb : β b = some bi) (hv : σ.cell? ⟨b, o, none⟩ = some v) :
    ∃ v', w.cell? ⟨bi.r, o + bi.d, none⟩ = some v' ∧ VR β v v' := by
  obtain ⟨c, e, fz, hb', hc⟩ := cell?_eq_some.1 hv
  obtain ⟨o', ho', hor⟩ := h.obj _ _ _ hb' hb (h.liveCell hb' hc)
  cases hor with
  | cells hn ht hd hcc hf =>
    obtain ⟨v', hv', hvr⟩ := hcc o v hc
    exact ⟨v', cell?_eq_some.2 ⟨_, _, _, ho', by rw [Nat.add_comm]; exact hv'⟩, hvr⟩

/-- A store. -/
theorem R.store (h : R P B w0 β σ w) {b o : Nat} {bi : BI} {u v v' : Value} (hb : β b = some bi) (hu : σ.cell? ⟨b, o, none⟩ = some u)
    (hf : σ.frozen? ⟨b, o, none⟩ = false) (hv : VR β v v') :
    (∃ u', w.cell? ⟨bi.r, o + bi.d, none⟩ = some u') ∧ w.frozen? ⟨bi.r, o + bi.d, none⟩ = false ∧
      R P B w0 β (σ.setCell ⟨b, o, none⟩ v) (w.setCell ⟨bi.r, o + bi.d, none⟩ v') := by
  obtain ⟨c, e, fz, hb', hc⟩ := cell?_eq_some.1 hu
  obtain ⟨o', ho', hor⟩ := h.obj _ _ _ hb' hb (h.liveCell hb' hc)
  obtain ⟨u', hu', _⟩ := h.cell hb hu
  have hoc : o < c.size := (Array.getElem?_eq_some_iff.1 hc).1
  cases hor with
  | @cells _ c' _ _ fz' hn ht hd hcc hfz =>
    have hfz0 : fz = (0, 0) ∧ fz' = (0, 0) := by
      rcases hfz with hfz | hro
      · exact hfz
      · obtain ⟨h1, h2, h3⟩ := hro
        obtain ⟨lo, hi⟩ := fz
        simp only at h1 h2 h3
        subst h1
        unfold World.frozen? at hf
        simp only [hb'] at hf
        simp at hf
        omega
    obtain ⟨rfl, rfl⟩ := hfz0
    have hwr : wr (.cells c e (0, 0)) = true := rfl
    have hσ : ∀ k, (σ.setCell ⟨b, o, none⟩ v).heap[k]? = if k = b then some (.cells (c.setIfInBounds o v) e (0, 0)) else σ.heap[k]? := by
      intro k
      simp only [World.setCell, Array.getElem?_modify]
      by_cases hk : k = b
      · subst hk; simp [hb']
      · rw [if_neg (fun e => hk e.symm), if_neg hk]
    have hw : ∀ k, (w.setCell ⟨bi.r, o + bi.d, none⟩ v').heap[k]? = if k = bi.r then some (.cells (c'.setIfInBounds (o + bi.d) v') e (0, 0)) else w.heap[k]? := by
      intro k
      simp only [World.setCell, Array.getElem?_modify]
      by_cases hk : k = bi.r
      · subst hk; simp [ho']
      · rw [if_neg (fun e => hk e.symm), if_neg hk]
    refine ⟨⟨u', hu'⟩, ?_, ?_⟩
    · unfold World.frozen?; simp only; rw [ho']; simp
    · refine { below := h.below.setCell (h.new _ _ _ hb' hb hwr) _, held := (fun k hk => h.holds hk (by rw [hw, if_neg]; rintro rfl; exact h.free _ _ _ hb' hb (live_of_wr hwr) hk)), free := (fun k ok bk hk hbk hl => by
                 rw [hσ] at hk
                 by_cases hkb : k = b
                 · subst hkb; exact h.free _ _ _ hb' hbk (live_of_wr hwr)
                 · rw [if_neg hkb] at hk; exact h.free _ _ _ hk hbk hl), size := by simpa using h.size, dom := fun k bk hk => by simpa using h.dom k bk hk,
               cov := fun k hk => h.cov k (by simpa using hk), obj := ?_, dd := ?_, esz := ?_, new := ?_, inj := ?_ }
      rotate_left
      · intro k o3 hk hl
        rw [hσ] at hk
        by_cases hkb : k = b
        · rw [if_pos hkb] at hk
          simp only [Option.some.injEq] at hk
          subst hk
          cases hl
        · rw [if_neg hkb] at hk
          exact h.dd _ _ hk hl
      rotate_right
      · intro k ok bk hk hbk hl
        rw [hσ] at hk
        by_cases hkb : k = b
        · subst hkb
          rw [if_pos rfl] at hk
          rw [hb] at hbk
          simp only [Option.some.injEq] at hk hbk
          subst hbk; subst hk
          refine ⟨_, by rw [hw, if_pos rfl], .cells (by simpa using hn) (by simpa using ht) hd ?_ (.inl ⟨rfl, rfl⟩)⟩
          intro i x hx
          rw [Array.getElem?_setIfInBounds] at hx ⊢
          by_cases hio : o = i
          · subst hio
            rw [if_pos rfl, if_pos hoc] at hx
            rw [if_pos (by omega), if_pos (by omega)]
            simp only [Option.some.injEq] at hx
            subst hx
            exact ⟨v', rfl, hv⟩
          · rw [if_neg hio] at hx
            rw [if_neg (by omega)]
            exact hcc i x hx
        · rw [if_neg hkb] at hk
          obtain ⟨o2, ho2, hor2⟩ := h.obj _ _ _ hk hbk hl
          refine ⟨o2, ?_, hor2⟩
          rw [hw, if_neg (fun hr => hkb (h.inj b k _ _ _ _ hb' hk hb hbk hwr hl hr.symm).symm)]
          exact ho2
      · intro k c2 e2 fz2 bk hk hl hbk
        rw [hσ] at hk
        by_cases hkb : k = b
        · subst hkb
          rw [if_pos rfl] at hk
          simp only [Option.some.injEq, Obj.cells.injEq] at hk
          obtain ⟨_, rfl, _⟩ := hk
          exact h.esz _ _ _ _ _ hb' rfl hbk
        · rw [if_neg hkb] at hk
          exact h.esz _ _ _ _ _ hk hl hbk
      · intro k ok bk hk hbk hl
        rw [hσ] at hk
        by_cases hkb : k = b
        · subst hkb
          exact h.new _ _ _ hb' hbk hwr
        · rw [if_neg hkb] at hk
          exact h.new _ _ _ hk hbk hl
      · intro k1 k2 o1 o2 b1 b2 h1 h2 e1 e2 hw1 hl2 hr
        rw [hσ] at h1 h2
        have g1 : ∃ o, σ.heap[k1]? = some o ∧ wr o = true := by
          by_cases hk : k1 = b
          · subst hk; exact ⟨_, hb', hwr⟩
          · rw [if_neg hk] at h1; exact ⟨_, h1, hw1⟩
        have g2 : ∃ o, σ.heap[k2]? = some o ∧ live o = true := by
          by_cases hk : k2 = b
          · subst hk; exact ⟨_, hb', rfl⟩
          · rw [if_neg hk] at h2; exact ⟨_, h2, hl2⟩
        obtain ⟨p1, q1, r1⟩ := g1
        obtain ⟨p2, q2, r2⟩ := g2
        exact h.inj _ _ _ _ _ _ q1 q2 e1 e2 r1 r2 hr

/-- One more ideal block lies at one more real block. -/
def Beta.put (β : Beta) (b : Nat) (bi : BI) : Beta := fun k => if k = b then some bi else β k

theorem Beta.le_put {β : Beta} {b : Nat} {bi : BI} (h : β b = none) : β.le (β.put b bi) := fun k bk hk => by
  unfold Beta.put
  by_cases e : k = b
  · subst e; rw [h] at hk; cases hk
  · rw [if_neg e]; exact hk

theorem R.fresh (h : R P B w0 β σ w) : β σ.heap.size = none := by
  cases hb : β σ.heap.size with
  | none => rfl
  | some bi => exact absurd (h.dom _ _ hb) (Nat.lt_irrefl _)

theorem alloc_heap (w : World) (o : Obj) (k : Nat) : (w.alloc o).heap[k]? = if k = w.heap.size then some o else w.heap[k]? := by
  show (w.heap.push o)[k]? = _
  rw [Array.getElem?_push]

/-- A new block in both worlds. -/
theorem R.alloc (h : R P B w0 β σ w) {o o' : Obj} {d n es tot : Nat}
    (ho : OR (β.put σ.heap.size ⟨w.heap.size, d, n, es, tot⟩) ⟨w.heap.size, d, n, es, tot⟩ o o')
    (he : ∀ c e fz, o = .cells c e fz → ∀ i, P.info? e = some i → i.size = es) (hlo : live o = true) :
    R P B w0 (β.put σ.heap.size ⟨w.heap.size, d, n, es, tot⟩) (σ.alloc o) (w.alloc o') := by
  have hle := Beta.le_put (bi := ⟨w.heap.size, d, n, es, tot⟩) h.fresh
  have hold : ∀ k bk, k ≠ σ.heap.size → (β.put σ.heap.size ⟨w.heap.size, d, n, es, tot⟩) k = some bk → β k = some bk := fun k bk hk e => by
    unfold Beta.put at e; rwa [if_neg hk] at e
  have hnew : ∀ bk, (β.put σ.heap.size ⟨w.heap.size, d, n, es, tot⟩) σ.heap.size = some bk → bk = ⟨w.heap.size, d, n, es, tot⟩ := fun bk e => by
    unfold Beta.put at e; rw [if_pos rfl] at e; simpa using e.symm
  refine { below := h.below.alloc h.size _, held := (fun k hk => h.holds hk (by obtain ⟨x, hx, hx2⟩ := h.held k hk; rw [alloc_heap, if_neg (Nat.ne_of_lt (Array.getElem?_eq_some_iff.1 hx).1)])), free := (fun k ok bk hk hbk hl => by
             rw [alloc_heap] at hk
             by_cases e : k = σ.heap.size
             · subst e; have := hnew _ hbk; subst this
               exact fun hs => by obtain ⟨x, hx, _⟩ := h.held _ hs; exact absurd (Array.getElem?_eq_some_iff.1 hx).1 (Nat.lt_irrefl _)
             · rw [if_neg e] at hk; exact h.free _ _ _ hk (hold _ _ e hbk) hl), size := by have := h.size; simp; omega, dom := ?_, cov := ?_, obj := ?_, dd := ?_, esz := ?_, new := ?_, inj := ?_ }
  · intro k bk hk
    by_cases e : k = σ.heap.size
    · subst e
      have := hnew _ hk
      subst this
      simp
    · have := h.dom k bk (hold _ _ e hk)
      simp; omega
  · intro k hk
    by_cases e : k = σ.heap.size
    · subst e; exact ⟨_, by unfold Beta.put; rw [if_pos rfl]⟩
    · obtain ⟨bk, hb⟩ := h.cov k (by simp at hk; omega)
      exact ⟨bk, hle _ _ hb⟩
  · intro k ok bk hk hbk hl
    rw [alloc_heap] at hk
    by_cases e : k = σ.heap.size
    · subst e
      rw [if_pos rfl] at hk
      have := hnew _ hbk
      subst this
      simp only [Option.some.injEq] at hk
      subst hk
      exact ⟨o', by rw [alloc_heap, if_pos rfl], ho⟩
    · rw [if_neg e] at hk
      have hb' := hold _ _ e hbk
      obtain ⟨o2, ho2, hor⟩ := h.obj _ _ _ hk hb' hl
      refine ⟨o2, ?_, hor.mono hle⟩
      rw [alloc_heap, if_neg (by have := h.lt hk hb' hl; omega)]
      exact ho2
  · intro k o3 hk hl
    rw [alloc_heap] at hk
    by_cases ek : k = σ.heap.size
    · rw [if_pos ek] at hk
      simp only [Option.some.injEq] at hk
      subst hk
      rw [hlo] at hl
      cases hl
    · rw [if_neg ek] at hk
      exact h.dd _ _ hk hl
  · intro k c e fz bk hk hl hbk
    rw [alloc_heap] at hk
    by_cases ek : k = σ.heap.size
    · subst ek
      rw [if_pos rfl] at hk
      have := hnew _ hbk
      subst this
      simp only [Option.some.injEq] at hk
      exact he _ _ _ hk
    · rw [if_neg ek] at hk
      exact h.esz _ _ _ _ _ hk hl (hold _ _ ek hbk)
  · intro k ok bk hk hbk hl
    rw [alloc_heap] at hk
    by_cases e : k = σ.heap.size
    · subst e
      have := hnew _ hbk
      subst this
      exact h.size
    · rw [if_neg e] at hk
      exact h.new _ _ _ hk (hold _ _ e hbk) hl
  · intro k1 k2 o1 o2 b1 b2 h1 h2 e1 e2 hw1 hl2 hr
    rw [alloc_heap] at h1 h2
    by_cases g1 : k1 = σ.heap.size
    · by_cases g2 : k2 = σ.heap.size
      · rw [g1, g2]
      · exfalso
        have hb2 := hold _ _ g2 e2
        subst g1
        have := hnew _ e1
        subst this
        rw [if_neg g2] at h2
        have := h.lt h2 hb2 hl2
        simp only at hr
        omega
    · have hb1 := hold _ _ g1 e1
      by_cases g2 : k2 = σ.heap.size
      · exfalso
        subst g2
        have := hnew _ e2
        subst this
        rw [if_neg g1] at h1
        have := h.lt h1 hb1 (live_of_wr hw1)
        simp only at hr
        omega
      · rw [if_neg g1] at h1
        rw [if_neg g2] at h2
        exact h.inj _ _ _ _ _ _ h1 h2 hb1 (hold _ _ g2 e2) hw1 hl2 hr

end
end Go.Ideal
