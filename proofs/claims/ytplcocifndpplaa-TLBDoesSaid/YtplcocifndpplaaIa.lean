/-
  The ideal runs: one run for all orders and capacities. A tree of choices stands for what a run may come to; a region runs by a plan; a slice that grew has an open end.
-/
import Derived.WalkKit
import Derived.RangeFuncLeaves
import Derived.OrdersIn
namespace Go.Ideal
open Go

/-! ### Trees of choices -/
inductive T (α : Type) : Type where
  | ret (a : α)
  | bad
  | pick (n : Nat) (k : Nat → T α)

namespace T
variable {α β : Type}
def bind : T α → (α → T β) → T β
  | .ret a, f => f a
  | .bad, _ => .bad
  | .pick n k, f => .pick n fun i => (k i).bind f

def all (Q : α → Prop) : T α → Prop
  | .ret a => Q a
  | .bad => False
  | .pick n k => 0 < n ∧ ∀ i, i < n → (k i).all Q

def allB (q : α → Bool) : T α → Bool
  | .ret a => q a
  | .bad => false
  | .pick n k => decide (0 < n) && (List.range n).all fun i => (k i).allB q

theorem all_bind {t : T α} {f : α → T β} {Q : β → Prop} : (t.bind f).all Q ↔ t.all fun a => (f a).all Q := by
  induction t with
  | ret a => exact Iff.rfl
  | bad => exact Iff.rfl
  | pick n k ih => exact ⟨fun h => ⟨h.1, fun i hi => (ih i).1 (h.2 i hi)⟩, fun h => ⟨h.1, fun i hi => (ih i).2 (h.2 i hi)⟩⟩

theorem all_mono {t : T α} {Q Q' : α → Prop} (h : ∀ a, Q a → Q' a) (ht : t.all Q) : t.all Q' := by
  induction t with
  | ret a => exact h _ ht
  | bad => exact ht
  | pick n k ih => exact ⟨ht.1, fun i hi => ih i (ht.2 i hi)⟩

theorem all_of_allB {t : T α} {q : α → Bool} {Q : α → Prop} (h : ∀ a, q a = true → Q a) (ht : t.allB q = true) : t.all Q := by
  induction t with
  | ret a => exact h _ ht
  | bad => cases ht
  | pick n k ih =>
    simp only [allB, Bool.and_eq_true, decide_eq_true_eq, List.all_eq_true, List.mem_range] at ht
    exact ⟨ht.1, fun i hi => ih i (ht.2 i hi)⟩
end T

/-! ### Operations -/
/-- The end of a slice that grew: how far it may grow in place is not known. -/
def OPEN : Nat := 4611686018427387904

/-- What is left of a block that a slice outgrew. -/
def dead : Obj := .cells #[] 0 (1, 1)

def ofRun {α : Type} : Result α → T (α × World)
  | .ok a w => .ret (a, w)
  | .halt _ _ => .bad

def kill (w : World) (b : Nat) : World := { w with heap := w.heap.setIfInBounds b dead }



def newCells (w : World) (elem : TypeId) (cs : Array Value) (need : Nat) : T (Value × World) :=
  .ret (.slice (some ⟨w.heap.size, 0, none⟩) need OPEN, w.alloc (.cells cs elem))

def growCells (P : Program) (w : World) (elem : TypeId) (size sLen : Nat) (s : Value) (new : Array Value) (n : Nat) : T (Value × World) :=
  match (Builtin.firstCells size sLen s).run P w with
  | .ok old w1 => newCells w1 elem (old ++ new) (sLen + n)
  | .halt _ _ => .bad

def one1 : Value → Bool
  | .agg _ | .tuple _ => false
  | _ => true

def zeroFits (i : TypeInfo) : Bool := match i.zero with | some z => z.cells.size == i.size | none => false

def iappend (P : Program) (argTypes : Array TypeId) (args : Array Value) (w : World) : T (Value × World) :=
  match argTypes[0]?, argTypes[1]?, (args[0]? : Option Value), (args[1]? : Option Value) with
  | some sT, some xT, some (Value.slice base sLen sCap), some (Value.slice xb n xc) =>
    match P.underlying sT, P.underlying xT with
    | some (.slice elem), some (.slice _) =>
      match P.info? elem with
      | some i =>
        if 0 < i.size ∧ 0 < i.bytes ∧ (sLen + n) * i.bytes ≤ 70368744177664 ∧ zeroFits i = true then
          match (Builtin.firstCells i.size n (.slice xb n xc)).run P w with
          | .ok new w1 =>
            if new.toList.all one1 then
            if sCap < OPEN then
              if sLen + n ≤ sCap then
                match base with
                | some a =>
                  match (storeCells (a.add (sLen * i.size)) new.toList).run P w1 with
                  | .ok _ w2 => .ret (.slice (some a) (sLen + n) sCap, w2)
                  | .halt _ _ => .bad
                | none => .ret (.slice none (sLen + n) sCap, w1)
              else growCells P w1 elem i.size sLen (.slice base sLen sCap) new n
            else if sCap = OPEN then
              match base with
              | none => .bad
              | some a =>
                match w1.heap[a.block]? with
                | some (.cells c e (0, 0)) =>
                  if e = elem ∧ a.spot = none then
                    if a.off + (sLen + n) * i.size ≤ c.size then
                      match (storeCells (a.add (sLen * i.size)) new.toList).run P w1 with
                      | .ok _ w2 => .ret (.slice (some a) (sLen + n) OPEN, w2)
                      | .halt _ _ => .bad
                    else if sLen + n = 0 then .bad
                    else (growCells P w1 elem i.size sLen (.slice base sLen sCap) new n).bind fun (v, w2) => .ret (v, kill w2 a.block)
                  else .bad
                | _ => .bad
            else .bad
            else .bad
          | .halt _ _ => .bad
        else .bad
      | none => .bad
    | _, _ => .bad
  | _, _, _, _ => .bad

def bound? (v : Option Value) (dflt : Nat) : Option Nat :=
  match v with
  | none => some dflt
  | some (.int _ i) => if 0 ≤ i then some i.toNat else none
  | some _ => none

/-- x[lo:hi:mx] of a slice that grew. -/
def isliceOpen (P : Program) (elem : TypeId) (a : Addr) (len : Nat) (lo hi mx : Option Value) (w : World) : T (Value × World) :=
  match P.info? elem, bound? lo 0, bound? hi len, w.heap[a.block]? with
  | some i, some l, some h, some (.cells c e (0, 0)) =>
    if e = elem ∧ a.spot = none ∧ l ≤ h ∧ 0 < i.size then
      match mx with
      | none => if h ≤ len then .ret (.slice (some ⟨a.block, a.off + l * i.size, none⟩) (h - l) OPEN, w) else .bad
      | some (.int _ mi) =>
        if 0 ≤ mi ∧ h ≤ mi.toNat ∧ a.off + mi.toNat * i.size ≤ c.size ∧ hi.isSome = true ∧ mi.toNat < OPEN then
          .ret (.slice (some (if mi.toNat = l then a else ⟨a.block, a.off + l * i.size, none⟩)) (h - l) (mi.toNat - l), w)
        else .bad
      | some _ => .bad
    else .bad
  | _, _, _, _ => .bad

def islice (P : Program) (t : TypeId) (x : Value) (lo hi mx : Option Value) (w : World) : T (Value × World) :=
  match P.underlying t, x with
  | some (.slice elem), .slice (some a) len cap =>
    if cap < OPEN then ofRun ((Instr.sliceAt t x lo hi mx).run P w)
    else if cap = OPEN then isliceOpen P elem a len lo hi mx w else .bad
  | some (.slice _), .slice none _ _ => ofRun ((Instr.sliceAt t x lo hi mx).run P w)
  | some .string, .string _ => ofRun ((Instr.sliceAt t x lo hi mx).run P w)
  | _, _ => .bad

def inext (P : Program) (iter : Value) (isString : Bool) (ty : TypeId) (w : World) : T (Value × World) :=
  match iter with
  | .pointer (some ⟨r, 0, none⟩) =>
    match w.heap[r]?, isString with
    | some (.mapIter (some m) since seen last), false =>
      match w.heap[m]? with
      | some (.map es _clock) =>
        if !seen.isEmpty && !es.isEmpty && es.all (·.born ≥ last) then .bad else
        let left := es.filter fun e => !seen.contains e.born
        let old := left.filter (·.born < since)
        let new := left.filter (·.born ≥ since)
        let candidates := (if old.isEmpty then #[none] else #[]) ++ (old ++ new).map some
        .pick candidates.size fun i =>
          match candidates[i]? with
          | some (some e) => .ret (.tuple #[.bool true, e.key, e.val], { w with heap := w.heap.setIfInBounds r (.mapIter (some m) since (seen.push e.born) _clock) })
          | some none => .ret (.tuple #[.bool false], w)
          | none => .bad
      | _ => .bad
    | some (.mapIter none _ _ _), false => .ret (.tuple #[.bool false], w)
    | some (.stringIter _ _), true => ofRun ((Instr.next iter isString ty).run P w)
    | _, _ => .bad
  | _ => .bad

/-- Plain data: no address within, looked at so deep. -/
def groundD : Nat → Value → Bool
  | _, .bool _ | _, .int _ _ | _, .float _ _ | _, .complex _ _ _ | _, .string _ | _, .nilFunc | _, .nilIface | _, .pointer none | _, .slice none 0 0 | _, .map none => true
  | n + 1, .agg cs => cs.toList.all (groundD n)
  | n + 1, .iface _ v => groundD n v
  | _, _ => false
abbrev ground : Value → Bool := groundD 4

/-- '==' is met here at plain data, and where one side is nil. -/
def eqFit : Value → Value → Bool
  | .pointer none, .pointer _ | .pointer _, .pointer none => true
  | .slice none 0 0, .slice _ _ _ | .slice _ _ _, .slice none 0 0 => true
  | .map none, .map _ | .map _, .map none => true
  | .nilFunc, .nilFunc | .nilFunc, .func _ _ _ | .func _ _ _, .nilFunc => true
  | .bool _, .bool _ => true
  | .agg a, .agg b => ground (.agg a) && ground (.agg b)
  | _, _ => false

/-- A value of the program's text, or a zero value: no address within. -/
def selfD : Nat → Value → Bool
  | _, .bool _ | _, .int _ _ | _, .float _ _ | _, .complex _ _ _ | _, .string _ | _, .nilFunc | _, .nilIface | _, .pointer none | _, .slice none 0 0 | _, .map none => true
  | n + 1, .agg cs => cs.toList.all (selfD n)
  | n + 1, .tuple cs => cs.toList.all (selfD n)
  | n + 1, .iface _ v => selfD n v
  | _, _ => false

def constFit : Operand → Bool
  | .const v => selfD 4 v
  | .global _ => false
  | _ => true

def fieldFit (P : Program) (s : TypeId) (f : Nat) : Bool :=
  match P.underlying s with
  | some (.struct fields) => match fields[f]? with
    | some fd => match P.info? fd.type with
      | some i => decide (0 < i.size)
      | none => false
    | none => false
  | _ => false

def zeroOk (P : Program) (t : TypeId) : Bool :=
  match P.info? t with
  | some i => match i.zero with | some z => selfD 4 z | none => true
  | none => true

def elemOk (P : Program) (t : TypeId) : Bool :=
  match P.underlying t with
  | some (.slice e) => zeroOk P e
  | some (.map _ e) => zeroOk P e
  | _ => false

def isInt (P : Program) (t : TypeId) : Bool := match P.underlying t with | some (.int _) => true | _ => false

/-- Types whose values are held against each other part by part, with no array among them. -/
def eqTy (P : Program) : Nat → TypeId → Bool
  | 0, _ => false
  | n + 1, t => match P.underlying t with
    | some .bool | some (.int _) | some .string | some (.pointer _) | some (.slice _) | some (.map _ _) | some (.func _ _ _) => true
    | some (.struct fs) => fs.all fun f => eqTy P n f.type
    | _ => false

/-- Maps whose keys are integers. -/
def keyTy (P : Program) (t : TypeId) : Bool :=
  match P.underlying t with
  | some (.map k _) => isInt P k
  | _ => false

def keyFit : Value → Bool
  | .int _ _ => true
  | _ => false

def binFit (P : Program) (op : BinOp) (t : TypeId) (x y : Value) : Bool :=
  match x, y with
  | .int _ _, .int _ _ => true
  | .string _, .string _ => true
  | _, _ => (op matches .eql | .neq) && eqTy P 5 t && eqFit x y

def unFit : Value → Bool
  | .int _ _ | .bool _ => true
  | _ => false

def capFit : Value → Bool
  | .int _ n => decide (IntKind.i64.wrap n < 4611686018427387904)
  | _ => false

def enters : Next × World → T (Next × World)
  | (.enter f args, w) => .ret (.enter f args, w)
  | (.round l f tmps assign body, w) => .ret (.round l f tmps assign body, w)
  | _ => .bad

def istep (P : Program) (ρ : Operand → Value) (o : Oper) (w : World) : T (Next × World) :=
  let v (t : T (Value × World)) : T (Next × World) := t.bind fun (x, w) => .ret (.value x, w)
  let real : T (Next × World) := ofRun ((execOp ρ o).run P w)
  if o.op.operands.all constFit then
    match o.op with
    | .slice t x lo hi mx => v (islice P t (ρ x) (lo.map ρ) (hi.map ρ) (mx.map ρ) w)
    | .next it isString => v (inext P (ρ it) isString o.type w)
    | .call { callee := .builtin .append, args, argTypes } => v (iappend P argTypes (args.map ρ) w)
    | .call { callee := .builtin .len, .. } => real
    | .call { callee := .builtin .delete, args, argTypes } => match (args[1]?).map ρ, argTypes[0]? with
      | some k, some t => if keyFit k && keyTy P t then real else .bad
      | _, _ => .bad
    | .call { callee := .builtin .max, args, .. } | .call { callee := .builtin .min, args, .. } => if args.toList.all fun x => keyFit (ρ x) then real else .bad
    | .call { callee := .value f, .. } => match ρ f with
      | .func (.func g) _ _ => if (P.funcs[g]?).any (·.body.isSome) then real.bind enters else .bad
      | .func (.yield _) _ _ => real.bind enters
      | _ => .bad
    | .binOp op t x y _ => if binFit P op t (ρ x) (ρ y) then real else .bad
    | .lookup t _ k _ => if keyFit (ρ k) && elemOk P t && keyTy P t then real else .bad
    | .alloc t | .build t _ => if zeroOk P t then real else .bad
    | .buildSlice t n _ => if elemOk P t && decide (n < 1000000) then real else .bad
    | .makeSlice t _ c => if elemOk P t && capFit (ρ c) then real else .bad
    | .mapUpdate t _ k _ => if keyFit (ρ k) && keyTy P t then real else .bad
    | .convert _ dst x => if isInt P dst && (ρ x matches .int _ _) then real else .bad
    | .makeFunc (.func _) first _ => if first.isEmpty then real else .bad
    | .fieldAddr s _ f => if fieldFit P s f then real else .bad
    | .unOp _ _ x => if unFit (ρ x) then real else .bad
    | .makeMap _ none => real
    | .move _ | .assign _ | .pick .. | .box .. | .load .. | .store .. | .nilCheck _ | .makeInterface ..
    | .field .. | .indexAddr .. | .index .. | .range .. | .entry .. | .extract .. => real
    | _ => .bad
  else .bad

/-- Does an operation act on memory? -/
def acts : Op → Bool
  | .alloc _ | .box .. | .buildSlice .. | .store .. | .makeMap .. | .makeSlice .. | .mapUpdate .. | .range .. | .next .. => true
  | .call { callee := .builtin b, .. } => !(b matches .len | .cap | .max | .min)
  | .call _ => true
  | _ => false

/-- Does it read memory, and no more? -/
def reads : Op → Bool
  | .load .. | .lookup .. | .entry .. | .slice .. => true
  | .call { callee := .builtin .len, .. } => true
  | _ => false

/-- The same plain value, looked at so deep. -/
def veq : Nat → Value → Value → Bool
  | _, .bool a, .bool b => a == b
  | _, .int j a, .int k b => j == k && a == b
  | _, .float j a, .float k b => j == k && a == b
  | _, .string a, .string b => a.data.toList == b.data.toList
  | _, .pointer a, .pointer b => a == b
  | _, .slice a l c, .slice b m d => a == b && l == m && c == d
  | _, .map a, .map b => a == b
  | _, .chan a, .chan b => a == b
  | _, .nilFunc, .nilFunc => true
  | _, .nilIface, .nilIface => true
  | n + 1, .iface t v, .iface u w => t == u && veq n v w
  | n + 1, .agg a, .agg b => a.size == b.size && (a.toList.zip b.toList).all fun (x, y) => veq n x y
  | n + 1, .tuple a, .tuple b => a.size == b.size && (a.toList.zip b.toList).all fun (x, y) => veq n x y
  | _, _, _ => false

/-! ### Code -/
structure Kont where
  enter : FuncId → Array Value → World → T (Value × World)
  round : Nat → FuncId → Array Value → Code → Code → World → T (Value × World)

def iop (P : Program) (K : Kont) (a : Act) (o : Oper) (w : World) : T (Value × World) :=
  (istep P a.eval o w).bind fun (x, w) => match x with
    | .value v => .ret (v, w)
    | .skip => .ret (undef, w)
    | .enter f args => K.enter f args w
    | .round l f tmps assign body => K.round l f tmps assign body w
    | _ => .bad

def iopAt (P : Program) (K : Kont) (ops : Array Oper) (i : Nat) (a : Act) (w : World) : T (Act × World) :=
  match ops[i]? with
  | none => .bad
  | some o => if Region.wanted o (yielded ops a.tmps) then (iop P K a o w).bind fun (v, w) => .ret (a.put o.dst v, w) else .ret (a.put o.dst undef, w)

def iops (P : Program) (K : Kont) (ops : Array Oper) : List Nat → Act → World → T (Act × World)
  | [], a, w => .ret (a, w)
  | i :: rest, a, w => (iopAt P K ops i a w).bind fun (a, w) => iops P K ops rest a w

/-- The operations that one waits for, its own among them: bit i. -/
def waitsFor (ops : Array Oper) : Array Nat :=
  ops.foldl (init := #[]) fun acc o =>
    acc.push (o.after.foldl (fun s e => if Region.binds .any e then s ||| 2 ^ e.on ||| acc.getD e.on 0 else s) 0)

/-- One step of a plan: an operation; the reads ahead of it that may as well come behind it. -/
abbrev Plan := List (Nat × List Nat)

/-- As early as can be: all that does not act; then what acts. -/
def mkPlan.go (ops : Array Oper) (wf : Array Nat) : Nat → Array Bool → List Nat → Plan → Plan
  | 0, _, _, acc => acc.reverse
  | n + 1, listed, past, acc =>
    let rs := Region.ready .any ops listed
    match rs.find? (fun i => !acts (ops.getD i default).op) with
    | some i => mkPlan.go ops wf n (listed.setIfInBounds i true) (if reads (ops.getD i default).op then i :: past else past) ((i, []) :: acc)
    | none =>
      match rs with
      | i :: _ => mkPlan.go ops wf n (listed.setIfInBounds i true) past ((i, past.filter fun r => !(wf.getD i 0).testBit r) :: acc)
      | [] => acc.reverse
def mkPlan (ops : Array Oper) : Plan := mkPlan.go ops (waitsFor ops) ops.size (Array.replicate ops.size false) [] []

/-- An operation that lays new memory and looks at registers alone: it may come as early as one likes. -/
def lateOp : Op → Bool
  | .alloc _ | .buildSlice .. => true
  | _ => false
def lateOk (ops : Array Oper) (wf : Array Nat) (i : Nat) (o : Oper) : Bool :=
  lateOp o.op && (List.range ops.size).all fun q => !lateOp (ops.getD q default).op || !(wf.getD i 0).testBit q
/-- A plan that may be gone by: it lists every operation once, none ahead of what it waits for; all that comes behind what acts waits for it; what does not wait for one another is apart; every read that what acts may come ahead of is asked again. -/
def planOk.go (ops : Array Oper) (wf : Array Nat) : Plan → (done : List Nat) → (acted : List Nat) → Bool
  | [], done, _ => (List.range ops.size).all fun i => done.contains i
  | (i, re) :: rest, done, acted =>
    match ops[i]? with
    | none => false
    | some o =>
      !done.contains i &&
      (o.after.all fun e => !Region.binds .any e || (decide (e.on < i) && done.contains e.on)) &&
      ((acted.all fun j => (wf.getD i 0).testBit j) || lateOk ops wf i o) &&
      (done.all fun r => (wf.getD i 0).testBit r || (Oper.apart ops (ops.getD r default) o)) &&
      (!acts o.op || done.all fun r => (wf.getD i 0).testBit r || !reads (ops.getD r default).op ||
        (re.contains r && ((ops.getD r default).dst.all fun d => !(Oper.looksAt ops (ops.getD r default)).contains d) && (i :: done.takeWhile (· != r)).all fun j => ((ops.getD j default).dst.all fun d => !((ops.getD r default).dst.toList ++ Oper.looksAt ops (ops.getD r default)).contains d))) &&
      planOk.go ops wf rest (i :: done) (if acts o.op then i :: acted else acted)
def planOk (ops : Array Oper) (p : Plan) : Bool := decide (p.length = ops.size) && planOk.go ops (waitsFor ops) p [] []

/-- The reads asked again: they tell what they told. -/
def recheck (P : Program) (ops : Array Oper) (a : Act) (w : World) (re : List Nat) : Bool :=
  re.all fun r =>
    match ops[r]? with
    | none => false
    | some o =>
      !Region.wanted o (yielded ops a.tmps) ||
      match istep P a.eval o w with
      | .ret (.value v, _) => match o.dst with
        | some d => match a.tmps[d]? with
          | some u => veq 4 v u
          | none => false
        | none => false
      | _ => false

def iplan (P : Program) (K : Kont) (ops : Array Oper) : Plan → Act → World → T (Act × World)
  | [], a, w => .ret (a, w)
  | (i, re) :: rest, a, w => (iopAt P K ops i a w).bind fun (a, w) => if recheck P ops a w re then iplan P K ops rest a w else .bad

def iregion (P : Program) (K : Kont) (ops : Array Oper) (draw : Bool) (a : Act) (w : World) : T (Act × World) :=
  if draw then (if planOk ops (mkPlan ops) then iplan P K ops (mkPlan ops) a w else .bad)
  else iops P K ops (List.range ops.size) a w

def iloop (body : Act → World → T (Exit × Act × World)) : Nat → Act → World → T (Exit × Act × World)
  | 0, _, _ => .bad
  | n + 1, a, w => (body a w).bind fun
    | (.normal, a, w) => iloop body n a w
    | (e, a, w) => .ret (e, a, w)

def icode (P : Program) (K : Kont) (fuel : Nat) (fn : FuncId) (ro : Option Nat) : Code → Act → World → T (Exit × Act × World)
  | .skip, a, w => .ret (.normal, a, w)
  | .region _ ops draw, a, w => (iregion P K ops draw a w).bind fun (a, w) => .ret (.normal, a, w)
  | .seq x y, a, w => (icode P K fuel fn ro x a w).bind fun
    | (.normal, a, w) => icode P K fuel fn ro y a w
    | (e, a, w) => .ret (e, a, w)
  | .cond c x y, a, w =>
    match a.eval c with
    | .bool true => icode P K fuel fn ro x a w
    | .bool false => icode P K fuel fn ro y a w
    | _ => .bad
  | .block id c, a, w => (icode P K fuel fn ro c a w).bind fun (e, a, w) => .ret (match e with | .exit id' => if id' = id then .normal else .exit id' | e => e, a, w)
  | .loop c, a, w => iloop (icode P K fuel fn ro c) fuel a w
  | .rangeFunc g ps assign body, a, w =>
    match (Instr.enterLoop fn a.tmps ps assign body ro).run P w with
    | .ok (l, mark) w1 =>
      match constFit g, a.eval g with
      | true, .func (.func f) _ captured =>
        if (P.funcs[f]?).any (fun fn => fn.body.isSome && fn.name != "runtime.NumGoroutine") then
          (K.enter f (#[.func (.yield l) #[] #[]] ++ captured) w1).bind fun (_, w3) =>
            match (Instr.endLoop l).run P w3 with
            | .ok jump w4 =>
              let a' : Act := { a with defers := mark ++ a.defers }
              match jump with
              | none => .ret (.normal, a', w4)
              | some .ret => .ret (.ret, a', w4)
              | some (.exit id) => .ret (.exit id, a', w4)
              | _ => .bad
            | .halt _ _ => .bad
        else .bad
      | _, _ => .bad
    | .halt _ _ => .bad
  | .exit id, a, w => .ret (.exit id, a, w)
  | .ret, a, w => .ret (.ret, a, w)
  | .scope _, _, _ | .label _, _, _ | .goto _, _, _ | .refuse _, _, _ => .bad

/-- The marks that ranges over functions leave are taken; then the results. -/
def ifin (P : Program) (fn : Func) (tmps : Array Value) : List Deferred → World → T (Value × World)
  | [], w => ofRun ((results fn tmps).run P w)
  | d :: ds, w =>
    match d.target with
    | .collected r =>
      match (Instr.takeDeferred r).run P w with
      | .ok [] w' => ifin P fn tmps ds w'
      | _ => .bad
    | _ => .bad

def iround (P : Program) (K : Kont) (n : Nat) (l : Nat) (f : FuncId) (tmps : Array Value) (assign body : Code) (w : World) : T (Value × World) :=
  (icode P K n f (some l) assign { tmps, defers := [] } w).bind fun
    | (.normal, a, w1) =>
      match (Instr.beginRound l).run P w1 with
      | .ok _ w2 =>
        (icode P K n f (some l) body a w2).bind fun (e, _, w3) =>
          match e with
          | .normal => ofRun ((Instr.endRound l none).run P w3)
          | .ret => ofRun ((Instr.endRound l (some .ret)).run P w3)
          | .exit id => ofRun ((Instr.endRound l (some (.exit id))).run P w3)
          | _ => .bad
      | .halt _ _ => .bad
    | _ => .bad

def icall (P : Program) (K : Kont) (n : Nat) (f : FuncId) (args : Array Value) (w : World) : T (Value × World) :=
  match P.funcs[f]? with
  | none => .bad
  | some fn =>
    match fn.body with
    | none => .bad
    | some c =>
      (icode P K n f none c { tmps := args ++ Array.replicate (fn.ntmps - args.size) undef, defers := [] } w).bind fun (e, a, w) =>
        match e with
        | .normal => ifin P fn a.tmps a.defers w
        | .ret => ifin P fn a.tmps a.defers w
        | _ => .bad

/-- Calls so deep, loops so long. -/
def run (P : Program) : Nat → Kont
  | 0 => { enter := fun _ _ _ => .bad, round := fun _ _ _ _ _ _ => .bad }
  | n + 1 => { enter := icall P (run P n) (n + 1), round := iround P (run P n) (n + 1) }
end Go.Ideal
