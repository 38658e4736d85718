/-
  Code in small words, and what must hold ahead of it that something holds behind it.
-/
import Derived.Test.YtplcocifndpplaaJi
namespace Go.Ideal
open Go

structure SR where
  d : Option Tmp
  g : PG
  o : SOp

structure SG where
  d : Option Tmp
  g : PG
  o : SOp
  re : List SR

inductive WC where
  | skip | ret | bad
  | exit (id : Nat)
  | ops (l : List SG)
  | seq (x y : WC)
  | cond (c : Operand) (x y : WC)
  | block (id : Nat) (c : WC)
  | loop (c : WC)
  | rangeFunc (g : Operand) (ps : Array Tmp) (assign body : Code)

/-- A result: a register, or the cells that a register leads to. -/
structure RS where
  t : Tmp
  c : Option (Option Nat)

structure SFn where
  n : Nat
  res : List RS
  body : WC

def below (n : Nat) (d : Option Tmp) : Bool := match d with
  | none => true
  | some d => decide (d < n)

def rereads : Op → Bool
  | .load .. | .lookup .. | .slice .. | .call { callee := .builtin .len, .. } => true
  | _ => false

def lowRe (P : Program) (n : Nat) (r : PR0) : Option SR :=
  if r.op.operands.all constFit && rereads r.op && below n r.dst then (lowOp P r.op).map fun s => { d := r.dst, g := r.gd, o := s } else none

def lowAny (P : Program) (op : Op) (ty : TypeId) : SOp :=
  if op.operands.all constFit then (match lowOp P op with | some s => s | none => .raw op ty) else .raw op ty

def lowPO (P : Program) (n : Nat) (o : PO) : Option SG :=
  if below n o.dst then (o.re.mapM (lowRe P n)).map fun re => { d := o.dst, g := o.gd, o := lowAny P o.op o.ty, re } else none

def lowC (P : Program) (n : Nat) : PC → WC
  | .skip => .skip
  | .ret => .ret
  | .bad => .bad
  | .exit id => .exit id
  | .ops l => match l.mapM (lowPO P n) with
    | some l => .ops l
    | none => .bad
  | .seq x y => .seq (lowC P n x) (lowC P n y)
  | .cond c x y => .cond c (lowC P n x) (lowC P n y)
  | .block id c => .block id (lowC P n c)
  | .loop c => .loop (lowC P n c)
  | .rangeFunc g ps assign body => .rangeFunc g ps assign body

def tmpsOf (P : Program) : List ResultVar → Option (List RS)
  | [] => some []
  | .tmp t :: l => (tmpsOf P l).map (⟨t, none⟩ :: ·)
  | .cell a t :: l => match aggOf P t with
    | some n => (tmpsOf P l).map (⟨a, some n⟩ :: ·)
    | none => none

def lowFn (P : Program) (f : FuncId) : Option SFn :=
  match P.funcs[f]? with
  | some fn => match fn.body, tmpsOf P fn.results.toList with
    | some c, some rs => some { n := fn.ntmps, res := rs, body := lowC P fn.ntmps (pcOf c) }
    | _, _ => none
  | none => none

/-! ### What must hold ahead -/
def wantS (ρ : Env) : PG → Bool
  | none => true
  | some (none, _) => false
  | some (some d, b) => match ρ d with
    | .bool c => c == b
    | _ => false

def isUndef : Value → Bool
  | .tuple cs => cs.isEmpty
  | _ => false

def sagain (P : Program) (K : Kont) (ρ : Env) (w : World) (re : List SR) : Bool :=
  re.all fun r => !wantS ρ r.g ||
    match sone P K (ev ρ) w r.o with
    | .ret (v, _) => (match r.d with
      | some d => veq 4 v (ρ d)
      | none => false)
    | _ => false

def wpG (P : Program) (K : Kont) (o : SG) (ρ : Env) (w : World) (Q : Env → World → Prop) : Prop :=
  (wantS ρ o.g = true → (sone P K (ev ρ) w o.o).all fun r => Q (ρ.put o.d r.1) r.2) ∧ (wantS ρ o.g = false → Q (ρ.put o.d undef) w)

def wpOps (P : Program) (K : Kont) : List SG → Env → World → (Env → World → Prop) → Prop
  | [], ρ, w, Q => Q ρ w
  | o :: l, ρ, w, Q => wpG P K o ρ w fun ρ w => sagain P K ρ w o.re = true ∧ wpOps P K l ρ w Q

abbrev SPost := Exit → Env → List Deferred → World → Prop

def wpLoop (body : Env → List Deferred → World → SPost → Prop) : Nat → Env → List Deferred → World → SPost → Prop
  | 0, _, _, _, _ => False
  | n + 1, ρ, ds, w, Q => body ρ ds w fun e ρ ds w => match e with
    | .normal => wpLoop body n ρ ds w Q
    | e => Q e ρ ds w

def arr (n : Nat) (ρ : Env) : Array Value := Array.ofFn (n := n) fun i => ρ i

def wpC (P : Program) (K : Kont) (fuel : Nat) (fn : FuncId) (ro : Option Nat) (n : Nat) : WC → Env → List Deferred → World → SPost → Prop
  | .skip, ρ, ds, w, Q => Q .normal ρ ds w
  | .ret, ρ, ds, w, Q => Q .ret ρ ds w
  | .bad, _, _, _, _ => False
  | .exit id, ρ, ds, w, Q => Q (.exit id) ρ ds w
  | .ops l, ρ, ds, w, Q => wpOps P K l ρ w fun ρ w => Q .normal ρ ds w
  | .seq x y, ρ, ds, w, Q => wpC P K fuel fn ro n x ρ ds w fun e ρ ds w => match e with
    | .normal => wpC P K fuel fn ro n y ρ ds w Q
    | e => Q e ρ ds w
  | .cond c x y, ρ, ds, w, Q => match ev ρ c with
    | .bool b => (b = true → wpC P K fuel fn ro n x ρ ds w Q) ∧ (b = false → wpC P K fuel fn ro n y ρ ds w Q)
    | _ => False
  | .block id c, ρ, ds, w, Q => wpC P K fuel fn ro n c ρ ds w fun e ρ ds w => match e with
    | .exit id' => if id' = id then Q .normal ρ ds w else Q (.exit id') ρ ds w
    | e => Q e ρ ds w
  | .loop c, ρ, ds, w, Q => wpLoop (wpC P K fuel fn ro n c) fuel ρ ds w Q
  | .rangeFunc g ps assign body, ρ, ds, w, Q => (icode P K fuel fn ro (.rangeFunc g ps assign body) ⟨arr n ρ, ds⟩ w).all fun r => r.2.1.tmps.size = n ∧ Q r.1 (Env.of r.2.1.tmps) r.2.1.defers r.2.2

def resL : List RS → Env → World → Option (List Value)
  | [], _, _ => some []
  | ⟨t, none⟩ :: l, ρ, w => (resL l ρ w).map (ρ t :: ·)
  | ⟨a, some n⟩ :: l, ρ, w => match loadS n (ρ a) w with
    | .ret (v, _) => (resL l ρ w).map (v :: ·)
    | _ => none
def oneOf : List Value → Value
  | [v] => v
  | vs => .tuple vs.toArray
def wpRes (rs : List RS) (ρ : Env) (w : World) (Q : Value → Prop) : Prop :=
  match resL rs ρ w with
  | some vs => Q (oneOf vs)
  | none => False

def wpFin (P : Program) : List Deferred → World → (World → Prop) → Prop
  | [], w, Q => Q w
  | d :: ds, w, Q => match d.target with
    | .collected r => match (Instr.takeDeferred r).run P w with
      | .ok [] w' => wpFin P ds w' Q
      | _ => False
    | _ => False

def wpFn (P : Program) (K : Kont) (fuel : Nat) (f : FuncId) (sf : SFn) (args : Array Value) (w : World) (Q : Value → World → Prop) : Prop :=
  args.size ≤ sf.n ∧ wpC P K fuel f none sf.n sf.body (Env.of args) [] w fun e ρ ds w => (e = .normal ∨ e = .ret) ∧ wpFin P ds w fun w => wpRes sf.res ρ w fun v => Q v w

/-! ### It is enough -/
section
variable {P : Program} {K : Kont}

theorem wpG_mono {o : SG} {ρ : Env} {w : World} {Q Q' : Env → World → Prop} (h : ∀ ρ w, Q ρ w → Q' ρ w) (hw : wpG P K o ρ w Q) : wpG P K o ρ w Q' :=
  ⟨fun hy => T.all_mono (fun _ hr => h _ _ hr) (hw.1 hy), fun hn => h _ _ (hw.2 hn)⟩

theorem wpOps_mono : ∀ {l : List SG} {ρ : Env} {w : World} {Q Q' : Env → World → Prop}, (∀ ρ w, Q ρ w → Q' ρ w) → wpOps P K l ρ w Q → wpOps P K l ρ w Q'
  | [], _, _, _, _, h, hw => h _ _ hw
  | _ :: _, _, _, _, _, h, hw => wpG_mono (fun _ _ hr => ⟨hr.1, wpOps_mono h hr.2⟩) hw

theorem wpLoop_mono {body : Env → List Deferred → World → SPost → Prop} (hb : ∀ ρ ds w (Q Q' : SPost), (∀ e ρ ds w, Q e ρ ds w → Q' e ρ ds w) → body ρ ds w Q → body ρ ds w Q') :
    ∀ (k : Nat) {ρ : Env} {ds : List Deferred} {w : World} {Q Q' : SPost}, (∀ e ρ ds w, Q e ρ ds w → Q' e ρ ds w) → wpLoop body k ρ ds w Q → wpLoop body k ρ ds w Q'
  | 0, _, _, _, _, _, _, hw => hw
  | k + 1, _, _, _, _, _, h, hw => hb _ _ _ _ _ (fun e ρ ds w hr => by
      cases e with
      | normal => exact wpLoop_mono hb k h hr
      | _ => exact h _ _ _ _ hr) hw

theorem wpC_mono {fuel : Nat} {fn : FuncId} {ro : Option Nat} {n : Nat} : ∀ (c : WC) {ρ : Env} {ds : List Deferred} {w : World} {Q Q' : SPost}, (∀ e ρ ds w, Q e ρ ds w → Q' e ρ ds w) → wpC P K fuel fn ro n c ρ ds w Q → wpC P K fuel fn ro n c ρ ds w Q' := by
  intro c
  induction c with
  | skip => intro ρ ds w Q Q' h hw; exact h _ _ _ _ hw
  | ret => intro ρ ds w Q Q' h hw; exact h _ _ _ _ hw
  | bad => intro ρ ds w Q Q' h hw; exact hw
  | exit id => intro ρ ds w Q Q' h hw; exact h _ _ _ _ hw
  | ops l => intro ρ ds w Q Q' h hw; exact wpOps_mono (fun _ _ hr => h _ _ _ _ hr) hw
  | seq x y ihx ihy =>
    intro ρ ds w Q Q' h hw
    refine ihx (fun e ρ ds w hr => ?_) hw
    cases e with
    | normal => exact ihy h hr
    | _ => exact h _ _ _ _ hr
  | cond c x y ihx ihy =>
    intro ρ ds w Q Q' h hw
    unfold wpC at hw ⊢
    split
    · rename_i b hb
      rw [hb] at hw
      exact ⟨fun hh => ihx h (hw.1 hh), fun hh => ihy h (hw.2 hh)⟩
    · rename_i hb
      split at hw
      · rename_i b hb2; exact absurd hb2 (hb b)
      · exact hw
  | block id c ih =>
    intro ρ ds w Q Q' h hw
    refine ih (fun e ρ ds w hr => ?_) hw
    cases e with
    | exit id' =>
      simp only at hr ⊢
      split at hr
      · rename_i hi; rw [if_pos hi]; exact h _ _ _ _ hr
      · rename_i hi; rw [if_neg hi]; exact h _ _ _ _ hr
    | _ => exact h _ _ _ _ hr
  | loop c ih => intro ρ ds w Q Q' h hw; exact wpLoop_mono (body := wpC P K fuel fn ro n c) (fun _ _ _ _ _ h hw => ih h hw) fuel h hw
  | rangeFunc g ps assign body => intro ρ ds w Q Q' h hw; exact T.all_mono (fun _ hr => ⟨hr.1, h _ _ _ _ hr.2⟩) hw

theorem want_of (a : Act) (g : PG) : want a.tmps g = wantS (Env.of a.tmps) g := by
  unfold want wantS
  cases g with
  | none => rfl
  | some p =>
    obtain ⟨t, b⟩ := p
    cases t with
    | none => rfl
    | some d =>
      simp only [Option.bind_some, Env.of, Array.getD_eq_getD_getElem?]
      cases hd : a.tmps[d]? with
      | none => simp [undef]
      | some v => cases v <;> simp <;> (rename_i c; cases c <;> cases b <;> rfl)

theorem put_of {a : Act} {n : Nat} (hs : a.tmps.size = n) {d : Option Tmp} (hd : below n d = true) (v : Value) : (a.put d v).tmps.size = n ∧ Env.of (a.put d v).tmps = (Env.of a.tmps).put d v ∧ (a.put d v).defers = a.defers := by
  cases d with
  | none => exact ⟨hs, rfl, rfl⟩
  | some d =>
    have hlt : d < n := by simpa [below] using hd
    refine ⟨by simp [Act.put, hs], ?_, rfl⟩
    funext i
    simp only [Env.of, Env.put, Act.put, Array.getD_eq_getD_getElem?, Array.getElem?_setIfInBounds]
    by_cases hi : d = i
    · subst hi; simp [hs, hlt]
    · rw [if_neg hi, if_neg (fun h => hi h.symm)]

theorem eval_env (a : Act) : a.eval = ev (Env.of a.tmps) := by
  funext x; cases x <;> rfl

theorem lowAny_ok {op : Op} {ty : TypeId} {a : Act} {w : World} {Q : Value × World → Prop} (h : (sone P K (ev (Env.of a.tmps)) w (lowAny P op ty)).all Q) : (pval K (pstep P a.eval op ty w)).all Q := by
  rw [eval_env]
  unfold lowAny at h
  split at h
  · rename_i hc
    split at h
    · rename_i s hl
      exact lowOp_ok (fun g => rfl) hc hl h
    · exact h
  · exact h
end
end Go.Ideal
