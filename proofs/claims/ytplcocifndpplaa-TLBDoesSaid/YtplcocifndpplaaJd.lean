/-
  Ideal runs with answers laid for calls with plain arguments.
-/
import Derived.Test.YtplcocifndpplaaJc
namespace Go.Ideal
open Go Go.RowKit

abbrev Answers := FuncId → Array Value → Option Value

def plainArgs (a : Array Value) : Bool := a.toList.all fun v => ground v && selfD 4 v

/-- Answers that are laid: to plain arguments a plain value, all old blocks as they were. -/
structure LaidA (P : Program) (sp : Answers) : Prop where
  plain : ∀ f a v, sp f a = some v → selfD 4 v = true
  args : ∀ f a v, sp f a = some v → plainArgs a = true
  calls : ∀ f a v, sp f a = some v → ∀ w, Calls P f a w fun e w' => e = .returned v ∧ Below w.heap.size w w'

def runA (P : Program) (sp : Answers) : Nat → Kont
  | 0 => { enter := fun _ _ _ => .bad, round := fun _ _ _ _ _ _ => .bad }
  | n + 1 => {
      enter := fun f args w => match sp f args with
        | some v => .ret (v, w)
        | none => icall P (runA P sp n) (n + 1) f args w
      round := iround P (runA P sp n) (n + 1) }

theorem AR.plain {β : Beta} {a a' : Array Value} (h : AR β a a') (hp : plainArgs a = true) : a = a' := by
  apply Array.ext h.1
  intro i h1 h2
  have hg : ground a[i] = true := by
    have := List.all_eq_true.1 hp a[i] (by simp)
    simp only [Bool.and_eq_true] at this
    exact this.1
  exact (h.2 i a[i] a'[i] (by simp) (by simp)).ground 4 hg

theorem AR.self (β : Beta) {a : Array Value} (hp : plainArgs a = true) : AR β a a := by
  refine ⟨rfl, fun i v v' h1 h2 => ?_⟩
  rw [h1] at h2
  cases h2
  have hm : v ∈ a.toList := by
    rw [Array.getElem?_eq_some_iff] at h1
    obtain ⟨hlt, rfl⟩ := h1
    simp
  have := List.all_eq_true.1 hp v hm
  simp only [Bool.and_eq_true] at this
  exact selfVR β 4 v this.2

theorem runA_KS {P : Program} {sp : Answers} (hm : P.follows .mixedOrders = true) (hs : LaidA P sp) (B : Nat) (w0 : Base) : ∀ n, KS P B w0 (runA P sp n)
  | 0 => ⟨fun _ _ hQ => hQ.elim, fun _ _ _ hQ => hQ.elim⟩
  | n + 1 => ⟨fun {β σ w f args args' Q} hR ha hQ k => by
      simp only [runA] at hQ
      cases hf : sp f args with
      | none => rw [hf] at hQ; exact call_in hm (fun w0 => runA_KS hm hs B w0 n) hR ha hQ k
      | some v =>
        rw [hf] at hQ
        simp only at hQ
        have he := ha.plain (hs.args f args v hf)
        subst he
        refine callsIn_wide.2 ((hs.calls f args v hf w).mono fun e w' h => ?_)
        obtain ⟨rfl, hb⟩ := h
        exact ⟨β, v, σ, .refl _, hR.grow hb, selfVR β 4 v (hs.plain f args v hf), hQ⟩, fun hR hl ht hQ => round_in hm (fun w0 => runA_KS hm hs B w0 n) hR hl ht hQ⟩

theorem calls_of_runA {P : Program} {sp : Answers} {B : Nat} {w0 : Base} {β : Beta} (hm : P.follows .mixedOrders = true) (hs : LaidA P sp) {m : Nat} {f : FuncId} {args args' : Array Value} {σ w : World} {Q : Value × World → Prop}
    (hR : R P B w0 β σ w) (ha : AR β args args') (hQ : ((runA P sp m).enter f args σ).all Q) : Calls P f args' w (Rets P B w0 β Q) := callsIn_wide.1 ((runA_KS hm hs B w0 m).enter hR ha hQ 0)

theorem LaidA.start (P : Program) : LaidA P fun _ _ => none := ⟨(fun _ _ _ h => by cases h), (fun _ _ _ h => by cases h), (fun _ _ _ h => by cases h)⟩

/-- One more function with answers. -/
theorem LaidA.add {P : Program} (hm : P.follows .mixedOrders = true) {sp : Answers} (hs : LaidA P sp) (f : FuncId) (ans : Array Value → Option Value)
    (h : ∀ a v, ans a = some v → plainArgs a = true ∧ plainArgs #[v] = true ∧ ∃ m, ((runA P sp m).enter f a default).all fun r => r.1 = v) :
    LaidA P fun g a => if g = f then ans a else sp g a := by
  refine ⟨fun g a v hg => ?_, fun g a v hg => ?_, fun g a v hg w => ?_⟩
  · by_cases he : g = f
    · rw [if_pos he] at hg; simpa [plainArgs] using (by have := (h a v hg).2.1; simp only [plainArgs, List.all_cons, List.all_nil, Bool.and_eq_true] at this; exact this.1.2)
    · rw [if_neg he] at hg; exact hs.plain g a v hg
  · by_cases he : g = f
    · rw [if_pos he] at hg; exact (h a v hg).1
    · rw [if_neg he] at hg; exact hs.args g a v hg
  · by_cases he : g = f
    · rw [if_pos he] at hg
      subst he
      obtain ⟨ha, hv, m, hr⟩ := h a v hg
      refine (calls_of_runA hm hs (R.start P w default rfl) (AR.self _ ha) hr).mono fun e w' he => ?_
      cases e with
      | returned v' =>
        obtain ⟨β2, v2, σ', _, hR', hv2, hq⟩ := he
        simp only at hq
        subst hq
        simp only [plainArgs, List.all_cons, List.all_nil, Bool.and_eq_true] at hv
        have := hv2.ground 4 hv.1.1
        subst this
        exact ⟨rfl, hR'.below⟩
      | panicked c => exact he.elim
      | outgrown => exact he.elim
    · rw [if_neg he] at hg; exact hs.calls g a v hg w

/-- More answers. -/
def Answers.more (sp new : Answers) : Answers := fun f a => match new f a with
  | some v => some v
  | none => sp f a

theorem LaidA.more {P : Program} (hm : P.follows .mixedOrders = true) {sp : Answers} (hs : LaidA P sp) (new : Answers)
    (h : ∀ f a v, new f a = some v → plainArgs a = true ∧ plainArgs #[v] = true ∧ ∃ m, ((runA P sp m).enter f a default).all fun r => r.1 = v) : LaidA P (sp.more new) := by
  have key : ∀ f, LaidA P fun g b => if g = f then new f b else sp g b := fun f => hs.add hm f (new f) fun b u hb => h f b u hb
  refine ⟨fun f a v hf => ?_, fun f a v hf => ?_, fun f a v hf w => ?_⟩ <;> unfold Answers.more at hf <;> split at hf
  · rename_i u hu; simp only [Option.some.injEq] at hf; subst hf; exact (key f).plain f a u (by simpa using hu)
  · exact hs.plain f a v hf
  · rename_i u hu; simp only [Option.some.injEq] at hf; subst hf; exact (key f).args f a u (by simpa using hu)
  · exact hs.args f a v hf
  · rename_i u hu; simp only [Option.some.injEq] at hf; subst hf; exact (key f).calls f a u (by simpa using hu) w
  · exact hs.calls f a v hf w
end Go.Ideal
