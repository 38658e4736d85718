/-
  Ideal runs with answers laid that may look at memory and write it; the library's sort among them.
-/
import Derived.Test.YteljibbnpheekaaGreatJr
import Derived.Shelf.Sort.Plain
import Derived.Shelf.Slices.In.SortNone
namespace Go.Ideal
open Go Go.RowKit Go.ChangeShapes
abbrev HeapAns := FuncId → Array Value → World → Option (T (Value × World))
structure LaidH (P : Program) (H : HeapAns) : Prop where
  calls : ∀ {B : Nat} {w0 : Base} {β : Beta} {σ w : World} {f : FuncId} {args args' : Array Value} {t : T (Value × World)} {Q : Value × World → Prop}, R P B w0 β σ w → AR β args args' → H f args σ = some t → t.all Q → Calls P f args' w (Rets P B w0 β Q)
def runH (P : Program) (H : HeapAns) : Nat → Kont
  | 0 => { enter := fun _ _ _ => .bad, round := fun _ _ _ _ _ _ => .bad }
  | n + 1 => {
      enter := fun f args w => match H f args w with
        | some t => t
        | none => icall P (runH P H n) (n + 1) f args w
      round := iround P (runH P H n) (n + 1) }
theorem runH_KS {P : Program} {H : HeapAns} (hm : P.follows .mixedOrders = true) (hs : LaidH P H) (B : Nat) (w0 : Base) : ∀ n, KS P B w0 (runH P H n)
  | 0 => ⟨fun _ _ hQ => hQ.elim, fun _ _ _ hQ => hQ.elim⟩
  | n + 1 => ⟨fun {β σ w f args args' Q} hR ha hQ k => by
      simp only [runH] at hQ
      cases hf : H f args σ with
      | none => rw [hf] at hQ; exact call_in hm (fun w0 => runH_KS hm hs B w0 n) hR ha hQ k
      | some t =>
        rw [hf] at hQ
        exact callsIn_wide.2 (hs.calls hR ha hf hQ), fun hR hl ht hQ => round_in hm (fun w0 => runH_KS hm hs B w0 n) hR hl ht hQ⟩
theorem calls_of_runH {P : Program} {H : HeapAns} {B : Nat} {w0 : Base} {β : Beta} (hm : P.follows .mixedOrders = true) (hs : LaidH P H) {m : Nat} {f : FuncId} {args args' : Array Value} {σ w : World} {Q : Value × World → Prop}
    (hR : R P B w0 β σ w) (ha : AR β args args') (hQ : ((runH P H m).enter f args σ).all Q) : Calls P f args' w (Rets P B w0 β Q) := callsIn_wide.1 ((runH_KS hm hs B w0 m).enter hR ha hQ 0)
theorem enter_okH {P : Program} {H : HeapAns} {m : Nat} {f : FuncId} {gf : GFn} {args : Array Value} {w : World} {Q : Value × World → Prop} (hf : lowG P f = some gf) (hs : H f args w = none) (h : wpGFn P (runH P H m) (m + 1) f gf args w fun v w => Q (v, w)) :
    ((runH P H (m + 1)).enter f args w).all Q := by
  simp only [runH, hs]
  exact wpGFn_ok hf h
theorem calls_trueH {H : Type} {enc : TypeId × Value → H} {P : Program} {hp : HeapAns} {f : FuncId} {fn : Func} {s : ChangeSpec} {apart handsOn again : Bool} {W : World} {args argsI : Array Value} {ds gs : List (DataW H)} {before : List MemPlace} {tb : TypeId}
    (hm : P.follows .mixedOrders = true) (hsp : LaidH P hp) (hl : laidOutB P = true) (hpar : ∀ t ∈ fn.params.toList, P.readableRec t = true ∧ t < P.types.size) (hres : fn.resultTypes = #[tb]) (htb : P.underlying tb = some .bool) (hvars : s.vars = [])
    (hs : s.fn H ds = { results := [.lit (.bool true)], args := ds, vars := [] })
    (hW : DataW.Whole enc P fn.params.toList s.vars apart W args.toList ds gs before) {β : Beta} {σ : World} (hR : R P W.heap.size (Base.of W) β σ W) (ha : AR β argsI args) {m : Nat}
    (hQ : ((runH P hp m).enter f argsI σ).all fun x => x.1 = .bool true) : Calls P f args W fun e W' => ∃ v, e = .returned v ∧ s.post enc P fn apart true handsOn again W args v W' := by
  refine (calls_of_runH hm hsp hR ha hQ).mono fun e W' he => ?_
  cases e with
  | returned v' =>
    obtain ⟨β2, v, σ', _, hR', hv, hq⟩ := he
    simp only at hq
    subst hq
    cases hv
    exact ⟨_, rfl, post_true hl hpar hres htb hvars hs hW hR'.below⟩
  | panicked c => exact he.elim
  | outgrown => exact he.elim
theorem LaidH.none (P : Program) : LaidH P fun _ _ _ => none := ⟨fun _ _ h _ => by cases h⟩
def ansH (sp : Answers) : HeapAns := fun f a w => (sp f a).map fun v => .ret (v, w)
theorem LaidA.heap {P : Program} {sp : Answers} (h : LaidA P sp) : LaidH P (ansH sp) := ⟨fun {B w0 β σ w f args args' t Q} hR ha hf hQ => by
  simp only [ansH, Option.map_eq_some_iff] at hf
  obtain ⟨v, hv, rfl⟩ := hf
  have he := ha.plain (h.args f args v hv)
  subst he
  refine (h.calls f args v hv w).mono fun e w' hh => ?_
  obtain ⟨rfl, hb⟩ := hh
  exact ⟨β, v, σ, .refl _, hR.grow hb, selfVR β 4 v (h.plain f args v hv), hQ⟩⟩
def orH (H K : HeapAns) : HeapAns := fun f a w => match H f a w with
  | some t => some t
  | none => K f a w
theorem LaidH.or {P : Program} {H K : HeapAns} (h : LaidH P H) (k : LaidH P K) : LaidH P (orH H K) := ⟨fun hR ha hf hQ => by
  unfold orH at hf
  split at hf
  · rename_i t ht
    simp only [Option.some.injEq] at hf; subst hf
    exact h.calls hR ha ht hQ
  · exact k.calls hR ha hf hQ⟩
theorem R.drawn {P : Program} {B : Nat} {w0 : Base} {β : Beta} {σ w : World} (h : R P B w0 β σ w) (n : Nat) : R P B w0 β σ (Go.Sort.ahead w n) :=
  { below := ⟨h.below.os, h.below.tape, h.below.output, h.below.size, h.below.block⟩, held := h.held, size := h.size, dom := h.dom, cov := h.cov, obj := h.obj, dd := h.dd, esz := h.esz, new := h.new, free := h.free, inj := h.inj }
theorem putCells_at (c : Array Value) (vs : List Value) : ∀ (o i : Nat), o + vs.length ≤ c.size → (Ideal.putCells c o vs)[i]? = if o ≤ i ∧ i < o + vs.length then vs[i - o]? else c[i]? := by
  intro o i h
  rw [← Array.getElem?_toList, putCells_list vs c o h]
  have hl : (c.toList.take o).length = o := by rw [List.length_take, Array.length_toList]; omega
  by_cases h1 : o ≤ i
  · by_cases h2 : i < o + vs.length
    · rw [if_pos ⟨h1, h2⟩, List.append_assoc, List.getElem?_append_right (by omega), hl, List.getElem?_append_left (by omega)]
    · rw [if_neg (by omega), List.append_assoc, List.getElem?_append_right (by omega), hl, List.getElem?_append_right (by omega), List.getElem?_drop, Array.getElem?_toList]
      congr 1; omega
  · rw [if_neg (by omega), List.append_assoc, List.getElem?_append_left (by omega), List.getElem?_take_of_lt (by omega), Array.getElem?_toList]
theorem putCells_size (c : Array Value) (vs : List Value) : ∀ (o : Nat), (Ideal.putCells c o vs).size = c.size := by
  induction vs generalizing c with
  | nil => intro o; rfl
  | cons v vs ih => intro o; simp only [Ideal.putCells]; rw [ih]; simp
end Go.Ideal
