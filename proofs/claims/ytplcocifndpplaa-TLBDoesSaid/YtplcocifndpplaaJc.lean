/-
  Code without what the ideal run does not look at: each region in the order of its plan.
-/
import Derived.Test.YtplcocifndpplaaJb
namespace Go.Ideal
open Go

abbrev PG := Option (Option Tmp × Bool)

structure PR0 where
  dst : Option Tmp
  op : Op
  ty : TypeId
  gd : PG

structure PO where
  dst : Option Tmp
  op : Op
  ty : TypeId
  gd : PG
  re : List PR0

inductive PC where
  | skip | ret | bad
  | exit (id : Nat)
  | ops (l : List PO)
  | seq (x y : PC)
  | cond (c : Operand) (x y : PC)
  | block (id : Nat) (c : PC)
  | loop (c : PC)
  | rangeFunc (g : Operand) (ps : Array Tmp) (assign body : Code)

def gdOf (ops : Array Oper) (o : Oper) : PG := o.guard.map fun (j, want) => ((ops[j]?).bind (·.dst), want)

def poOf (ops : Array Oper) (i : Nat) (re : List Nat) : PO :=
  let o := ops.getD i default
  { dst := o.dst, op := o.op, ty := o.type, gd := gdOf ops o, re := re.map fun r => let q := ops.getD r default; { dst := q.dst, op := q.op, ty := q.type, gd := gdOf ops q } }

def fits (ops : Array Oper) (p : Plan) : Bool := p.all fun (i, re) => decide (i < ops.size) && re.all fun r => decide (r < ops.size)

def pcOf : Code → PC
  | .skip => .skip
  | .ret => .ret
  | .exit id => .exit id
  | .region _ ops draw =>
    if draw then (if planOk ops (mkPlan ops) && fits ops (mkPlan ops) then .ops ((mkPlan ops).map fun (i, re) => poOf ops i re) else .bad)
    else .ops ((List.range ops.size).map fun i => poOf ops i [])
  | .seq x y => .seq (pcOf x) (pcOf y)
  | .cond c x y => .cond c (pcOf x) (pcOf y)
  | .block id c => .block id (pcOf c)
  | .loop c => .loop (pcOf c)
  | .rangeFunc g ps assign body => .rangeFunc g ps assign body
  | _ => .bad

def want (tmps : Array Value) : PG → Bool
  | none => true
  | some (t, w) => (match t.bind (tmps[·]?) with | some (.bool b) => some b | _ => none) == some w

def pstep (P : Program) (ρ : Operand → Value) (op : Op) (ty : TypeId) (w : World) : T (Next × World) :=
  istep P ρ { dst := none, op, type := ty, pos := "", after := #[], guard := none } w

def pval (K : Kont) (w : T (Next × World)) : T (Value × World) := w.bind fun (x, w) => match x with
    | .value v => .ret (v, w)
    | .skip => .ret (undef, w)
    | .enter f args => K.enter f args w
    | .round l f tmps assign body => K.round l f tmps assign body w
    | _ => .bad

def pone (P : Program) (K : Kont) (o : PO) (a : Act) (w : World) : T (Act × World) :=
  if want a.tmps o.gd then (pval K (pstep P a.eval o.op o.ty w)).bind fun (v, w) => .ret (a.put o.dst v, w) else .ret (a.put o.dst undef, w)

def pagain (P : Program) (a : Act) (w : World) (re : List PR0) : Bool :=
  re.all fun r => !want a.tmps r.gd ||
    match pstep P a.eval r.op r.ty w with
    | .ret (.value v, _) => match r.dst with
      | some d => match a.tmps[d]? with
        | some u => veq 4 v u
        | none => false
      | none => false
    | _ => false

def pops (P : Program) (K : Kont) : List PO → Act → World → T (Act × World)
  | [], a, w => .ret (a, w)
  | o :: rest, a, w => (pone P K o a w).bind fun (a, w) => if pagain P a w o.re then pops P K rest a w else .bad

def pcode (P : Program) (K : Kont) (fuel : Nat) (fn : FuncId) (ro : Option Nat) : PC → Act → World → T (Exit × Act × World)
  | .skip, a, w => .ret (.normal, a, w)
  | .ret, a, w => .ret (.ret, a, w)
  | .bad, _, _ => .bad
  | .exit id, a, w => .ret (.exit id, a, w)
  | .ops l, a, w => (pops P K l a w).bind fun (a, w) => .ret (.normal, a, w)
  | .seq x y, a, w => (pcode P K fuel fn ro x a w).bind fun
    | (.normal, a, w) => pcode P K fuel fn ro y a w
    | (e, a, w) => .ret (e, a, w)
  | .cond c x y, a, w =>
    match a.eval c with
    | .bool true => pcode P K fuel fn ro x a w
    | .bool false => pcode P K fuel fn ro y a w
    | _ => .bad
  | .block id c, a, w => (pcode P K fuel fn ro c a w).bind fun (e, a, w) => .ret (match e with | .exit id' => if id' = id then .normal else .exit id' | e => e, a, w)
  | .loop c, a, w => iloop (pcode P K fuel fn ro c) fuel a w
  | .rangeFunc g ps assign body, a, w => icode P K fuel fn ro (.rangeFunc g ps assign body) a w

section
variable {P : Program} {K : Kont}

theorem pstep_eq (ρ : Operand → Value) (o : Oper) (w : World) : pstep P ρ o.op o.type w = istep P ρ o w := by
  have he : execOp ρ { dst := none, op := o.op, type := o.type, pos := "", after := #[], guard := none } = execOp ρ o := rfl
  unfold pstep istep
  rw [he]

theorem want_eq (ops : Array Oper) (o : Oper) (tmps : Array Value) : want tmps (gdOf ops o) = Region.wanted o (yielded ops tmps) := by
  unfold want gdOf Region.wanted
  cases hg : o.guard with
  | none => rfl
  | some gw => rfl

theorem getD_of {ops : Array Oper} {i : Nat} {o : Oper} (h : ops[i]? = some o) : ops.getD i default = o := by
  rw [Array.getD_eq_getD_getElem?, h]; rfl

theorem pone_eq {ops : Array Oper} {i : Nat} (hi : i < ops.size) (re : List Nat) (a : Act) (w : World) : pone P K (poOf ops i re) a w = iopAt P K ops i a w := by
  have ho : ops[i]? = some ops[i] := by simp [hi]
  unfold pone iopAt
  rw [ho]
  simp only [poOf, getD_of ho, want_eq, pstep_eq]
  rfl

theorem pagain_eq {ops : Array Oper} {re : List Nat} (hr : ∀ r ∈ re, r < ops.size) (i : Nat) (a : Act) (w : World) : pagain P a w (poOf ops i re).re = recheck P ops a w re := by
  unfold pagain recheck poOf
  simp only [List.all_map]
  revert hr
  induction re with
  | nil => intro _; rfl
  | cons r re ih =>
    intro hr
    have hlt : r < ops.size := hr r (by simp)
    have ho : ops[r]? = some ops[r] := by simp [hlt]
    simp only [List.all_cons]
    rw [ih fun x hx => hr x (by simp [hx])]
    congr 1
    rw [ho]
    simp only [Function.comp, getD_of ho, want_eq, pstep_eq]
    rfl

theorem pops_plan {ops : Array Oper} : ∀ {p : Plan}, fits ops p = true → ∀ (a : Act) (w : World), pops P K (p.map fun (i, re) => poOf ops i re) a w = iplan P K ops p a w
  | [], _, _, _ => rfl
  | (i, re) :: p, h, a, w => by
    simp only [fits, List.all_cons, Bool.and_eq_true, decide_eq_true_eq] at h
    have hr : ∀ r ∈ re, r < ops.size := fun r hr => by simpa using List.all_eq_true.1 h.1.2 r hr
    simp only [List.map_cons, pops, iplan, pone_eq h.1.1, pagain_eq hr]
    congr 1
    funext x
    rw [pops_plan (p := p) h.2]

theorem pops_range {ops : Array Oper} : ∀ (l : List Nat), (∀ i ∈ l, i < ops.size) → ∀ (a : Act) (w : World), pops P K (l.map fun i => poOf ops i []) a w = iops P K ops l a w
  | [], _, _, _ => rfl
  | i :: l, h, a, w => by
    simp only [List.map_cons, pops, iops, pone_eq (h i (by simp))]
    congr 1
    funext x
    rw [pops_range l (fun j hj => h j (by simp [hj]))]
    simp [poOf, pagain]

/-- What the compact code comes to the code comes to. -/
theorem icode_pc {fuel : Nat} {fn : FuncId} : ∀ (c : Code) {ro : Option Nat} {a : Act} {w : World} {Q : Exit × Act × World → Prop}, (pcode P K fuel fn ro (pcOf c) a w).all Q → (icode P K fuel fn ro c a w).all Q := by
  intro c
  induction c with
  | skip => intro ro a w Q h; exact h
  | ret => intro ro a w Q h; exact h
  | exit id => intro ro a w Q h; exact h
  | region id ops draw =>
    intro ro a w Q h
    unfold pcOf at h
    unfold icode iregion
    cases draw with
    | true =>
      simp only [if_true] at h ⊢
      split at h
      · rename_i hc
        simp only [Bool.and_eq_true] at hc
        rw [if_pos hc.1]
        simp only [pcode, pops_plan hc.2] at h
        exact h
      · exact h.elim
    | false =>
      simp only [Bool.false_eq_true, if_false] at h ⊢
      simp only [pcode] at h
      rw [pops_range _ (fun i hi => by simpa using hi)] at h
      exact h
  | seq x y ihx ihy =>
    intro ro a w Q h
    refine T.all_bind.2 (T.all_mono (fun p hp => ?_) (ihx (T.all_bind.1 h)))
    obtain ⟨e, a, w⟩ := p
    cases e with
    | normal => exact ihy hp
    | _ => exact hp
  | cond c x y ihx ihy =>
    intro ro a w Q h
    unfold icode
    unfold pcOf pcode at h
    split at h
    · rename_i hc; rw [hc]; exact ihx h
    · rename_i hc; rw [hc]; exact ihy h
    · exact h.elim
  | block id c ih =>
    intro ro a w Q h
    exact T.all_bind.2 (ih (T.all_bind.1 h))
  | loop c ih =>
    intro ro a w Q h
    have key : ∀ (n : Nat) (a : Act) (w : World), (iloop (pcode P K fuel fn ro (pcOf c)) n a w).all Q → (iloop (icode P K fuel fn ro c) n a w).all Q := by
      intro n
      induction n with
      | zero => intro a w h; exact h
      | succ n ihn =>
        intro a w h
        refine T.all_bind.2 (T.all_mono (fun p hp => ?_) (ih (T.all_bind.1 h)))
        obtain ⟨e, a, w⟩ := p
        cases e with
        | normal => exact ihn a w hp
        | _ => exact hp
    exact key fuel a w h
  | rangeFunc g ps assign body _ _ => intro ro a w Q h; exact h
  | _ => intro ro a w Q h; exact h.elim
end
end Go.Ideal
