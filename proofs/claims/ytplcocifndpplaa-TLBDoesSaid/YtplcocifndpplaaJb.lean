/-
  Ideal runs with answers laid: a call without arguments that is known to come to a plain value, all old blocks as they were, is answered at once.
-/
import Derived.Test.YtplcocifndpplaaJa
namespace Go.Ideal
open Go Go.RowKit

theorem R.grow {P : Program} {B : Nat} {w0 : Base} {β : Beta} {σ w w' : World} (h : R P B w0 β σ w) (hb : Below w.heap.size w w') : R P B w0 β σ w' where
  below := h.below.trans (hb.mono h.size)
  held := fun k hk => by
    obtain ⟨x, hx, h2⟩ := h.held k hk
    exact ⟨x, by rw [hb.block k (Array.getElem?_eq_some_iff.1 hx).1]; exact hx, h2⟩
  free := h.free
  size := Nat.le_trans h.size hb.size
  dom := h.dom
  cov := h.cov
  obj := fun b o bi hk hbk hl => by
    obtain ⟨o', ho', hor⟩ := h.obj b o bi hk hbk hl
    exact ⟨o', by rw [hb.block _ (h.lt hk hbk hl)]; exact ho', hor⟩
  dd := h.dd
  esz := h.esz
  new := h.new
  inj := h.inj

/-- Answers that are laid. -/
structure Laid (P : Program) (sp : FuncId → Option Value) : Prop where
  plain : ∀ f v, sp f = some v → selfD 4 v = true
  calls : ∀ f v, sp f = some v → ∀ w, Calls P f #[] w fun e w' => e = .returned v ∧ Below w.heap.size w w'

def runW (P : Program) (sp : FuncId → Option Value) : Nat → Kont
  | 0 => { enter := fun _ _ _ => .bad, round := fun _ _ _ _ _ _ => .bad }
  | n + 1 => {
      enter := fun f args w => match sp f with
        | some v => if args.isEmpty then .ret (v, w) else .bad
        | none => icall P (runW P sp n) (n + 1) f args w
      round := iround P (runW P sp n) (n + 1) }

theorem runW_KS {P : Program} {sp : FuncId → Option Value} (hm : P.follows .mixedOrders = true) (hs : Laid P sp) (B : Nat) (w0 : Base) : ∀ n, KS P B w0 (runW P sp n)
  | 0 => ⟨fun _ _ hQ => hQ.elim, fun _ _ _ hQ => hQ.elim⟩
  | n + 1 => ⟨fun {β σ w f args args' Q} hR ha hQ k => by
      simp only [runW] at hQ
      cases hf : sp f with
      | none => rw [hf] at hQ; exact call_in hm (fun w0 => runW_KS hm hs B w0 n) hR ha hQ k
      | some v =>
        rw [hf] at hQ
        simp only at hQ
        split at hQ
        · rename_i he
          have he : args = #[] := by simpa using he
          subst he
          have he' : args' = #[] := by
            have := ha.1
            exact Array.eq_empty_of_size_eq_zero (by simpa using this.symm)
          subst he'
          refine callsIn_wide.2 ((hs.calls f v hf w).mono fun e w' h => ?_)
          obtain ⟨rfl, hb⟩ := h
          exact ⟨β, v, σ, .refl _, hR.grow hb, selfVR β 4 v (hs.plain f v hf), hQ⟩
        · exact hQ.elim, fun hR hl ht hQ => round_in hm (fun w0 => runW_KS hm hs B w0 n) hR hl ht hQ⟩

theorem calls_of_runW {P : Program} {sp : FuncId → Option Value} {B : Nat} {w0 : Base} {β : Beta} (hm : P.follows .mixedOrders = true) (hs : Laid P sp) {m : Nat} {f : FuncId} {args args' : Array Value} {σ w : World} {Q : Value × World → Prop}
    (hR : R P B w0 β σ w) (ha : AR β args args') (hQ : ((runW P sp m).enter f args σ).all Q) : Calls P f args' w (Rets P B w0 β Q) := callsIn_wide.1 ((runW_KS hm hs B w0 m).enter hR ha hQ 0)

/-- A closed ideal run that comes to true. -/
theorem calls_closed {P : Program} (hm : P.follows .mixedOrders = true) {m : Nat} {f : FuncId} (h : ((run P m).enter f #[] default).allB isTrue = true) (w : World) :
    Calls P f #[] w fun e w' => e = .returned (.bool true) ∧ Below w.heap.size w w' := by
  refine (calls_of_run hm (R.start P w default rfl) (AR.empty _) (T.all_of_allB (fun _ h => isTrue_spec h) h)).mono fun e w' he => ?_
  cases e with
  | returned v' =>
    obtain ⟨β2, v, σ', _, hR', hv, hq⟩ := he
    simp only at hq
    subst hq
    cases hv
    exact ⟨rfl, hR'.below⟩
  | panicked c => exact he.elim
  | outgrown => exact he.elim
end Go.Ideal
