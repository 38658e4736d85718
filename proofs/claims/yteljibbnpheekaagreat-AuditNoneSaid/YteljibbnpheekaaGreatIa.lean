/-
  The ideal runs: one run for all orders and capacities. A tree of choices stands for what a run may come to; a region runs by a plan; a slice that grew has an open end.
-/
import Derived.WalkKit
import Derived.RangeFuncLeaves
import Derived.OrdersIn
namespace Go.Ideal
open Go
inductive T (α : Type) : Type where
  | ret (a : α)
  | bad
  | pick (n : Nat) (k : Nat → T α)
namespace T
variable {α β : Type}
def bind : T α → (α → T β) → T β
  | .ret a, f => f a
  | .bad, _ => .bad
  | .pick n k, f => .pick n fun i => (k i).bind f
def all (Q : α → Prop) : T α → Prop
  | .ret a => Q a
  | .bad => False
  | .pick n k => 0 < n ∧ ∀ i, i < n → (k i).all Q
def allB (q : α → Bool) : T α → Bool
  | .ret a => q a
  | .bad => false
  | .pick n k => decide (0 < n) && (List.range n).all fun i => (k i).allB q
theorem all_bind {t : T α} {f : α → T β} {Q : β → Prop} : (t.bind f).all Q ↔ t.all fun a => (f a).all Q := by
  induction t with
  | ret a => exact Iff.rfl
  | bad => exact Iff.rfl
  | pick n k ih => exact ⟨fun h => ⟨h.1, fun i hi => (ih i).1 (h.2 i hi)⟩, fun h => ⟨h.1, fun i hi => (ih i).2 (h.2 i hi)⟩⟩
theorem all_mono {t : T α} {Q Q' : α → Prop} (h : ∀ a, Q a → Q' a) (ht : t.all Q) : t.all Q' := by
  induction t with
  | ret a => exact h _ ht
  | bad => exact ht
  | pick n k ih => exact ⟨ht.1, fun i hi => ih i (ht.2 i hi)⟩
theorem all_of_allB {t : T α} {q : α → Bool} {Q : α → Prop} (h : ∀ a, q a = true → Q a) (ht : t.allB q = true) : t.all Q := by
  induction t with
  | ret a => exact h _ ht
  | bad => cases ht
  | pick n k ih =>
    simp only [allB, Bool.and_eq_true, decide_eq_true_eq, List.all_eq_true, List.mem_range] at ht
    exact ⟨ht.1, fun i hi => ih i (ht.2 i hi)⟩
end T
def OPEN : Nat := 4611686018427387904
def dead : Obj := .cells #[] 0 (1, 1)
def ofRun {α : Type} : Result α → T (α × World)
  | .ok a w => .ret (a, w)
  | .halt _ _ => .bad
def kill (w : World) (b : Nat) : World := { w with heap := w.heap.setIfInBounds b dead }
def newCells (w : World) (elem : TypeId) (cs : Array Value) (need : Nat) : T (Value × World) :=
  .ret (.slice (some ⟨w.heap.size, 0, none⟩) need OPEN, w.alloc (.cells cs elem))
def growCells (P : Program) (w : World) (elem : TypeId) (size sLen : Nat) (s : Value) (new : Array Value) (n : Nat) : T (Value × World) :=
  match (Builtin.firstCells size sLen s).run P w with
  | .ok old w1 => newCells w1 elem (old ++ new) (sLen + n)
  | .halt _ _ => .bad
def one1 : Value → Bool
  | .agg _ | .tuple _ => false
  | _ => true
def zeroFits (i : TypeInfo) : Bool := match i.zero with | some z => z.cells.size == i.size | none => false
def iappend (P : Program) (argTypes : Array TypeId) (args : Array Value) (w : World) : T (Value × World) :=
  match argTypes[0]?, argTypes[1]?, (args[0]? : Option Value), (args[1]? : Option Value) with
  | some sT, some xT, some (Value.slice base sLen sCap), some (Value.slice xb n xc) =>
    match P.underlying sT, P.underlying xT with
    | some (.slice elem), some (.slice _) =>
      match P.info? elem with
      | some i =>
        if 0 < i.size ∧ 0 < i.bytes ∧ (sLen + n) * i.bytes ≤ 140737488355328 ∧ zeroFits i = true then
          match (Builtin.firstCells i.size n (.slice xb n xc)).run P w with
          | .ok new w1 =>
            if new.toList.all one1 then
            if sCap < OPEN then
              if sLen + n ≤ sCap then
                match base with
                | some a =>
                  match (storeCells (a.add (sLen * i.size)) new.toList).run P w1 with
                  | .ok _ w2 => .ret (.slice (some a) (sLen + n) sCap, w2)
                  | .halt _ _ => .bad
                | none => .ret (.slice none (sLen + n) sCap, w1)
              else growCells P w1 elem i.size sLen (.slice base sLen sCap) new n
            else if sCap = OPEN then
              match base with
              | none => .bad
              | some a =>
                match w1.heap[a.block]? with
                | some (.cells c e (0, 0)) =>
                  if e = elem ∧ a.spot = none then
                    if a.off + (sLen + n) * i.size ≤ c.size then
                      match (storeCells (a.add (sLen * i.size)) new.toList).run P w1 with
                      | .ok _ w2 => .ret (.slice (some a) (sLen + n) OPEN, w2)
                      | .halt _ _ => .bad
                    else if sLen + n = 0 then .bad
                    else (growCells P w1 elem i.size sLen (.slice base sLen sCap) new n).bind fun (v, w2) => .ret (v, kill w2 a.block)
                  else .bad
                | _ => .bad
            else .bad
            else .bad
          | .halt _ _ => .bad
        else .bad
      | none => .bad
    | _, _ => .bad
  | _, _, _, _ => .bad
def bound? (v : Option Value) (dflt : Nat) : Option Nat :=
  match v with
  | none => some dflt
  | some (.int _ i) => if 0 ≤ i then some i.toNat else none
  | some _ => none
def isliceOpen (P : Program) (elem : TypeId) (a : Addr) (len : Nat) (lo hi mx : Option Value) (w : World) : T (Value × World) :=
  match P.info? elem, bound? lo 0, bound? hi len, w.heap[a.block]? with
  | some i, some l, some h, some (.cells c e (0, 0)) =>
    if e = elem ∧ a.spot = none ∧ l ≤ h ∧ 0 < i.size then
      match mx with
      | none => if h ≤ len ∨ a.off + h * i.size ≤ c.size then .ret (.slice (some ⟨a.block, a.off + l * i.size, none⟩) (h - l) OPEN, w) else .bad
      | some (.int _ mi) =>
        if 0 ≤ mi ∧ h ≤ mi.toNat ∧ a.off + mi.toNat * i.size ≤ c.size ∧ hi.isSome = true ∧ mi.toNat < OPEN then
          .ret (.slice (some (if mi.toNat = l then a else ⟨a.block, a.off + l * i.size, none⟩)) (h - l) (mi.toNat - l), w)
        else .bad
      | some _ => .bad
    else .bad
  | _, _, _, _ => .bad
def isliceSeen (P : Program) (elem : TypeId) (a : Addr) (len cap : Nat) (lo hi mx : Option Value) (w : World) : T (Value × World) :=
  match P.info? elem, lo, bound? hi len, mx with
  | some _, none, some h, none => if h ≤ len then .ret (.slice (some a) h cap, w) else .bad
  | _, _, _, _ => .bad
def islice (P : Program) (t : TypeId) (x : Value) (lo hi mx : Option Value) (w : World) : T (Value × World) :=
  match P.underlying t, x with
  | some (.slice elem), .slice (some a) len cap =>
    if cap < OPEN then ofRun ((Instr.sliceAt t x lo hi mx).run P w)
    else if cap = OPEN then isliceOpen P elem a len lo hi mx w else isliceSeen P elem a len cap lo hi mx w
  | some (.slice _), .slice none _ _ => ofRun ((Instr.sliceAt t x lo hi mx).run P w)
  | some .string, .string _ => ofRun ((Instr.sliceAt t x lo hi mx).run P w)
  | _, _ => .bad
def inext (P : Program) (iter : Value) (isString : Bool) (ty : TypeId) (w : World) : T (Value × World) :=
  match iter with
  | .pointer (some ⟨r, 0, none⟩) =>
    match w.heap[r]?, isString with
    | some (.mapIter (some m) since seen last), false =>
      match w.heap[m]? with
      | some (.map es _clock) =>
        if !seen.isEmpty && !es.isEmpty && es.all (·.born ≥ last) then .bad else
        let left := es.filter fun e => !seen.contains e.born
        let old := left.filter (·.born < since)
        let new := left.filter (·.born ≥ since)
        let candidates := (if old.isEmpty then #[none] else #[]) ++ (old ++ new).map some
        .pick candidates.size fun i =>
          match candidates[i]? with
          | some (some e) => .ret (.tuple #[.bool true, e.key, e.val], { w with heap := w.heap.setIfInBounds r (.mapIter (some m) since (seen.push e.born) _clock) })
          | some none => .ret (.tuple #[.bool false], w)
          | none => .bad
      | _ => .bad
    | some (.mapIter none _ _ _), false => .ret (.tuple #[.bool false], w)
    | some (.stringIter _ _), true => ofRun ((Instr.next iter isString ty).run P w)
    | _, _ => .bad
  | _ => .bad
def groundD : Nat → Value → Bool
  | _, .bool _ | _, .int _ _ | _, .float _ _ | _, .complex _ _ _ | _, .string _ | _, .nilFunc | _, .nilIface | _, .pointer none | _, .slice none 0 0 | _, .map none => true
  | n + 1, .agg cs => cs.toList.all (groundD n)
  | n + 1, .iface _ v => groundD n v
  | _, _ => false
abbrev ground : Value → Bool := groundD 4
def eqFit : Value → Value → Bool
  | .pointer none, .pointer _ | .pointer _, .pointer none => true
  | .slice none 0 0, .slice _ _ _ | .slice _ _ _, .slice none 0 0 => true
  | .map none, .map _ | .map _, .map none => true
  | .nilFunc, .nilFunc | .nilFunc, .func _ _ _ | .func _ _ _, .nilFunc => true
  | .bool _, .bool _ => true
  | .agg a, .agg b => ground (.agg a) && ground (.agg b)
  | _, _ => false
def selfD : Nat → Value → Bool
  | _, .bool _ | _, .int _ _ | _, .float _ _ | _, .complex _ _ _ | _, .string _ | _, .nilFunc | _, .nilIface | _, .pointer none | _, .slice none 0 0 | _, .map none => true
  | n + 1, .agg cs => cs.toList.all (selfD n)
  | n + 1, .tuple cs => cs.toList.all (selfD n)
  | n + 1, .iface _ v => selfD n v
  | _, _ => false
def constFit : Operand → Bool
  | .const v => selfD 4 v
  | .global _ => false
  | _ => true
def fieldFit (P : Program) (s : TypeId) (f : Nat) : Bool :=
  match P.underlying s with
  | some (.struct fields) => match fields[f]? with
    | some fd => match P.info? fd.type with
      | some i => decide (0 < i.size)
      | none => false
    | none => false
  | _ => false
def zeroOk (P : Program) (t : TypeId) : Bool :=
  match P.info? t with
  | some i => match i.zero with | some z => selfD 4 z | none => true
  | none => true
def elemOk (P : Program) (t : TypeId) : Bool :=
  match P.underlying t with
  | some (.slice e) => zeroOk P e
  | some (.map _ e) => zeroOk P e
  | _ => false
def isInt (P : Program) (t : TypeId) : Bool := match P.underlying t with | some (.int _) => true | _ => false
def eqTy (P : Program) : Nat → TypeId → Bool
  | 0, _ => false
  | n + 1, t => match P.underlying t with
    | some .bool | some (.int _) | some .string | some (.pointer _) | some (.slice _) | some (.map _ _) | some (.func _ _ _) => true
    | some (.struct fs) => fs.all fun f => eqTy P n f.type
    | _ => false
def keyTy (P : Program) (t : TypeId) : Bool :=
  match P.underlying t with
  | some (.map k _) => isInt P k
  | _ => false
def keyFit : Value → Bool
  | .int _ _ => true
  | _ => false
def binFit (P : Program) (op : BinOp) (t : TypeId) (x y : Value) : Bool :=
  match x, y with
  | .int _ _, .int _ _ => true
  | .string _, .string _ => true
  | .nilIface, .iface _ _ | .iface _ _, .nilIface => (op matches .eql | .neq)
  | _, _ => (op matches .eql | .neq) && eqTy P 5 t && eqFit x y
def unFit : Value → Bool
  | .int _ _ | .bool _ => true
  | _ => false
def capFit : Value → Bool
  | .int _ n => decide (IntKind.i64.wrap n < 4611686018427387904)
  | _ => false
def methodOf (P : Program) (t : TypeId) (name : String) : Option FuncId :=
  match P.info? t with
  | some i => match i.methods.find? (·.name == name) with
    | some m => match m.path.isEmpty, m.func with
      | true, some (f, p) => match (P.funcs[f]?).any (fun fn => fn.body.isSome && fn.name != "runtime.NumGoroutine"), P.underlying t, p with
        | true, some (.pointer _), true => some f
        | true, some (.pointer _), false => none
        | true, some _, false => some f
        | _, _, _ => none
      | _, _ => none
    | none => none
  | none => none
def invokeFit (P : Program) (t : TypeId) (name : String) : Bool := (methodOf P t name).isSome
def plainTy (P : Program) (t : TypeId) : Bool := match P.underlying t with
  | some (.interface _) => false
  | some _ => true
  | none => false
def isSlice (v : Option Value) : Bool := match v with
  | some (.slice _ _ _) => true
  | _ => false
def clearFit (P : Program) (ts : Array TypeId) : Bool := match ts[0]? with
  | some t => match P.underlying t with
    | some (.slice e) => zeroOk P e
    | _ => false
  | none => false
def enters : Next × World → T (Next × World)
  | (.enter f args, w) => .ret (.enter f args, w)
  | (.round l f tmps assign body, w) => .ret (.round l f tmps assign body, w)
  | _ => .bad
def istep (P : Program) (ρ : Operand → Value) (o : Oper) (w : World) : T (Next × World) :=
  let v (t : T (Value × World)) : T (Next × World) := t.bind fun (x, w) => .ret (.value x, w)
  let real : T (Next × World) := ofRun ((execOp ρ o).run P w)
  if o.op.operands.all constFit then
    match o.op with
    | .slice t x lo hi mx => v (islice P t (ρ x) (lo.map ρ) (hi.map ρ) (mx.map ρ) w)
    | .next it isString => v (inext P (ρ it) isString o.type w)
    | .call { callee := .builtin .append, args, argTypes } => v (iappend P argTypes (args.map ρ) w)
    | .call { callee := .builtin .len, .. } => real
    | .call { callee := .builtin .clear, args, argTypes } => if isSlice (args.map ρ)[0]? && clearFit P argTypes then real else .bad
    | .call { callee := .builtin .copy, args, .. } => if isSlice (args.map ρ)[0]? && isSlice (args.map ρ)[1]? then real else .bad
    | .call { callee := .invoke x name, .. } => match ρ x with
      | .iface t _ => if invokeFit P t name then real.bind enters else .bad
      | _ => .bad
    | .typeAssert x _ asserted _ => match ρ x with
      | .iface t _ => if t == asserted && plainTy P t then real else .bad
      | _ => .bad
    | .call { callee := .builtin .delete, args, argTypes } => match (args[1]?).map ρ, argTypes[0]? with
      | some k, some t => if keyFit k && keyTy P t then real else .bad
      | _, _ => .bad
    | .call { callee := .builtin .max, args, .. } | .call { callee := .builtin .min, args, .. } => if args.toList.all fun x => keyFit (ρ x) then real else .bad
    | .call { callee := .value f, .. } => match ρ f with
      | .func (.func g) _ _ => if (P.funcs[g]?).any (·.body.isSome) then real.bind enters else .bad
      | .func (.yield _) _ _ => real.bind enters
      | _ => .bad
    | .binOp op t x y _ => if binFit P op t (ρ x) (ρ y) then real else .bad
    | .lookup t _ k _ => if keyFit (ρ k) && elemOk P t && keyTy P t then real else .bad
    | .alloc t | .build t _ => if zeroOk P t then real else .bad
    | .buildSlice t n _ => if elemOk P t && decide (n < 1000000) then real else .bad
    | .makeSlice t _ c => if elemOk P t && capFit (ρ c) then real else .bad
    | .mapUpdate t _ k _ | .insert t _ k _ => if keyFit (ρ k) && keyTy P t then real else .bad
    | .mapEntry t _ k => if keyFit (ρ k) && elemOk P t && keyTy P t then real else .bad
    | .entryStore .. => real
    | .convert _ dst x => if isInt P dst && (ρ x matches .int _ _) then real else .bad
    | .makeFunc (.func _) _ _ => real
    | .fieldAddr s _ f => if fieldFit P s f then real else .bad
    | .unOp _ _ x => if unFit (ρ x) then real else .bad
    | .makeMap _ none => real
    | .move _ | .assign _ | .pick .. | .box .. | .load .. | .store .. | .nilCheck _ | .makeInterface ..
    | .field .. | .indexAddr .. | .index .. | .range .. | .entry .. | .extract .. => real
    | _ => .bad
  else .bad
def acts : Op → Bool
  | .alloc _ | .box .. | .buildSlice .. | .store .. | .makeMap .. | .makeSlice .. | .mapUpdate .. | .insert .. | .mapEntry .. | .entryStore .. | .range .. | .next .. => true
  | .call { callee := .builtin b, .. } => !(b matches .len | .cap | .max | .min)
  | .call _ => true
  | _ => false
def reads : Op → Bool
  | .load .. | .lookup .. | .entry .. | .slice .. => true
  | .call { callee := .builtin .len, .. } => true
  | _ => false
def veq : Nat → Value → Value → Bool
  | _, .bool a, .bool b => a == b
  | _, .int j a, .int k b => j == k && a == b
  | _, .float j a, .float k b => j == k && a == b
  | _, .string a, .string b => a.data.toList == b.data.toList
  | _, .pointer a, .pointer b => a == b
  | _, .slice a l c, .slice b m d => a == b && l == m && c == d
  | _, .map a, .map b => a == b
  | _, .chan a, .chan b => a == b
  | _, .nilFunc, .nilFunc => true
  | _, .nilIface, .nilIface => true
  | n + 1, .iface t v, .iface u w => t == u && veq n v w
  | n + 1, .agg a, .agg b => a.size == b.size && (a.toList.zip b.toList).all fun (x, y) => veq n x y
  | n + 1, .tuple a, .tuple b => a.size == b.size && (a.toList.zip b.toList).all fun (x, y) => veq n x y
  | _, _, _ => false
structure Kont where
  enter : FuncId → Array Value → World → T (Value × World)
  round : Nat → FuncId → Array Value → Code → Code → World → T (Value × World)
def iop (P : Program) (K : Kont) (a : Act) (o : Oper) (w : World) : T (Value × World) :=
  (istep P a.eval o w).bind fun (x, w) => match x with
    | .value v => .ret (v, w)
    | .skip => .ret (undef, w)
    | .enter f args => K.enter f args w
    | .round l f tmps assign body => K.round l f tmps assign body w
    | _ => .bad
def iopAt (P : Program) (K : Kont) (ops : Array Oper) (i : Nat) (a : Act) (w : World) : T (Act × World) :=
  match ops[i]? with
  | none => .bad
  | some o => if Region.wanted o (yielded ops a.tmps) then (iop P K a o w).bind fun (v, w) => .ret (a.put o.dst v, w) else .ret (a.put o.dst undef, w)
def iops (P : Program) (K : Kont) (ops : Array Oper) : List Nat → Act → World → T (Act × World)
  | [], a, w => .ret (a, w)
  | i :: rest, a, w => (iopAt P K ops i a w).bind fun (a, w) => iops P K ops rest a w
def waitsFor (ops : Array Oper) : Array Nat :=
  ops.foldl (init := #[]) fun acc o =>
    acc.push (o.after.foldl (fun s e => if Region.binds .any e then s ||| 2 ^ e.on ||| acc.getD e.on 0 else s) 0)
abbrev Plan := List (Nat × List Nat)
def mkPlan.go (ops : Array Oper) (wf : Array Nat) : Nat → Array Bool → List Nat → Plan → Plan
  | 0, _, _, acc => acc.reverse
  | n + 1, listed, past, acc =>
    let rs := Region.ready .any ops listed
    match rs.find? (fun i => !acts (ops.getD i default).op) with
    | some i => mkPlan.go ops wf n (listed.setIfInBounds i true) (if reads (ops.getD i default).op then i :: past else past) ((i, []) :: acc)
    | none =>
      match rs with
      | i :: _ => mkPlan.go ops wf n (listed.setIfInBounds i true) past ((i, past.filter fun r => !(wf.getD i 0).testBit r) :: acc)
      | [] => acc.reverse
def mkPlan (ops : Array Oper) : Plan := mkPlan.go ops (waitsFor ops) ops.size (Array.replicate ops.size false) [] []
def lateOp : Op → Bool
  | .alloc _ | .buildSlice .. | .makeSlice .. | .makeMap _ none => true
  | _ => false
def lateOk (ops : Array Oper) (wf : Array Nat) (i : Nat) (o : Oper) : Bool :=
  lateOp o.op && (List.range ops.size).all fun q => !lateOp (ops.getD q default).op || !(wf.getD i 0).testBit q
def planOk.go (ops : Array Oper) (wf : Array Nat) : Plan → (done : List Nat) → (acted : List Nat) → Bool
  | [], done, _ => (List.range ops.size).all fun i => done.contains i
  | (i, re) :: rest, done, acted =>
    match ops[i]? with
    | none => false
    | some o =>
      !done.contains i &&
      (o.after.all fun e => !Region.binds .any e || (decide (e.on < i) && done.contains e.on)) &&
      ((acted.all fun j => (wf.getD i 0).testBit j) || lateOk ops wf i o) &&
      (done.all fun r => (wf.getD i 0).testBit r || (Oper.apart ops (ops.getD r default) o)) &&
      (!acts o.op || done.all fun r => (wf.getD i 0).testBit r || !reads (ops.getD r default).op ||
        (re.contains r && ((ops.getD r default).dst.all fun d => !(Oper.looksAt ops (ops.getD r default)).contains d) && (i :: done.takeWhile (· != r)).all fun j => ((ops.getD j default).dst.all fun d => !((ops.getD r default).dst.toList ++ Oper.looksAt ops (ops.getD r default)).contains d))) &&
      planOk.go ops wf rest (i :: done) (if acts o.op then i :: acted else acted)
def planOk (ops : Array Oper) (p : Plan) : Bool := decide (p.length = ops.size) && planOk.go ops (waitsFor ops) p [] []
def recheck (P : Program) (ops : Array Oper) (a : Act) (w : World) (re : List Nat) : Bool :=
  re.all fun r =>
    match ops[r]? with
    | none => false
    | some o =>
      !Region.wanted o (yielded ops a.tmps) ||
      match istep P a.eval o w with
      | .ret (.value v, _) => match o.dst with
        | some d => match a.tmps[d]? with
          | some u => veq 4 v u
          | none => false
        | none => false
      | _ => false
def iplan (P : Program) (K : Kont) (ops : Array Oper) : Plan → Act → World → T (Act × World)
  | [], a, w => .ret (a, w)
  | (i, re) :: rest, a, w => (iopAt P K ops i a w).bind fun (a, w) => if recheck P ops a w re then iplan P K ops rest a w else .bad
def iregion (P : Program) (K : Kont) (ops : Array Oper) (draw : Bool) (a : Act) (w : World) : T (Act × World) :=
  if draw then (if planOk ops (mkPlan ops) then iplan P K ops (mkPlan ops) a w else .bad)
  else iops P K ops (List.range ops.size) a w
def iloop (body : Act → World → T (Exit × Act × World)) : Nat → Act → World → T (Exit × Act × World)
  | 0, _, _ => .bad
  | n + 1, a, w => (body a w).bind fun
    | (.normal, a, w) => iloop body n a w
    | (e, a, w) => .ret (e, a, w)
def icode (P : Program) (K : Kont) (fuel : Nat) (fn : FuncId) (ro : Option Nat) : Code → Act → World → T (Exit × Act × World)
  | .skip, a, w => .ret (.normal, a, w)
  | .region _ ops draw, a, w => (iregion P K ops draw a w).bind fun (a, w) => .ret (.normal, a, w)
  | .seq x y, a, w => (icode P K fuel fn ro x a w).bind fun
    | (.normal, a, w) => icode P K fuel fn ro y a w
    | (e, a, w) => .ret (e, a, w)
  | .cond c x y, a, w =>
    match a.eval c with
    | .bool true => icode P K fuel fn ro x a w
    | .bool false => icode P K fuel fn ro y a w
    | _ => .bad
  | .block id c, a, w => (icode P K fuel fn ro c a w).bind fun (e, a, w) => .ret (match e with | .exit id' => if id' = id then .normal else .exit id' | e => e, a, w)
  | .loop c, a, w => iloop (icode P K fuel fn ro c) fuel a w
  | .rangeFunc g ps assign body, a, w =>
    match (Instr.enterLoop fn a.tmps ps assign body ro).run P w with
    | .ok (l, mark) w1 =>
      match constFit g, a.eval g with
      | true, .func (.func f) first captured =>
        if first.isEmpty && (P.funcs[f]?).any (fun fn => fn.body.isSome && fn.name != "runtime.NumGoroutine") then
          (K.enter f (#[.func (.yield l) #[] #[]] ++ captured) w1).bind fun (_, w3) =>
            match (Instr.endLoop l).run P w3 with
            | .ok jump w4 =>
              let a' : Act := { a with defers := mark ++ a.defers }
              match jump with
              | none => .ret (.normal, a', w4)
              | some .ret => .ret (.ret, a', w4)
              | some (.exit id) => .ret (.exit id, a', w4)
              | _ => .bad
            | .halt _ _ => .bad
        else .bad
      | _, _ => .bad
    | .halt _ _ => .bad
  | .exit id, a, w => .ret (.exit id, a, w)
  | .ret, a, w => .ret (.ret, a, w)
  | .scope c, a, w => icode P K fuel fn ro c a w
  | .label _, a, w => .ret (.normal, a, w)
  | .goto _, _, _ | .refuse _, _, _ => .bad
def ifin (P : Program) (fn : Func) (tmps : Array Value) : List Deferred → World → T (Value × World)
  | [], w => ofRun ((results fn tmps).run P w)
  | d :: ds, w =>
    match d.target with
    | .collected r =>
      match (Instr.takeDeferred r).run P w with
      | .ok [] w' => ifin P fn tmps ds w'
      | _ => .bad
    | _ => .bad
def iround (P : Program) (K : Kont) (n : Nat) (l : Nat) (f : FuncId) (tmps : Array Value) (assign body : Code) (w : World) : T (Value × World) :=
  (icode P K n f (some l) assign { tmps, defers := [] } w).bind fun
    | (.normal, a, w1) =>
      match (Instr.beginRound l).run P w1 with
      | .ok _ w2 =>
        (icode P K n f (some l) body a w2).bind fun (e, _, w3) =>
          match e with
          | .normal => ofRun ((Instr.endRound l none).run P w3)
          | .ret => ofRun ((Instr.endRound l (some .ret)).run P w3)
          | .exit id => ofRun ((Instr.endRound l (some (.exit id))).run P w3)
          | _ => .bad
      | .halt _ _ => .bad
    | _ => .bad
def icall (P : Program) (K : Kont) (n : Nat) (f : FuncId) (args : Array Value) (w : World) : T (Value × World) :=
  match P.funcs[f]? with
  | none => .bad
  | some fn =>
    match fn.body with
    | none => .bad
    | some c =>
      (icode P K n f none c { tmps := args ++ Array.replicate (fn.ntmps - args.size) undef, defers := [] } w).bind fun (e, a, w) =>
        match e with
        | .normal => ifin P fn a.tmps a.defers w
        | .ret => ifin P fn a.tmps a.defers w
        | _ => .bad
def run (P : Program) : Nat → Kont
  | 0 => { enter := fun _ _ _ => .bad, round := fun _ _ _ _ _ _ => .bad }
  | n + 1 => { enter := icall P (run P n) (n + 1), round := iround P (run P n) (n + 1) }
end Go.Ideal
namespace Go.Ideal
open Go
structure BI where
  r : Nat
  d : Nat
  n : Nat
  es : Nat
  tot : Nat
abbrev Beta := Nat → Option BI
def Beta.le (β β' : Beta) : Prop := ∀ b bi, β b = some bi → β' b = some bi
theorem Beta.le.refl (β : Beta) : β.le β := fun _ _ h => h
theorem Beta.le.trans {a b c : Beta} (h : a.le b) (k : b.le c) : a.le c := fun x y e => k x y (h x y e)
def SC (bi : BI) (o len cap o' cap' : Nat) : Prop :=
  (cap < OPEN ∧ cap' = cap ∧ len ≤ cap ∧ (o' = o + bi.d ∨ cap = 0)) ∨
  (cap = OPEN ∧ 0 < bi.es ∧ ((o' = o + bi.d ∧ bi.n ≤ o + cap' * bi.es ∧ len ≤ cap' ∧ o' + cap' * bi.es ≤ bi.tot) ∨ (len = 0 ∧ cap' = 0 ∧ bi.n ≤ o))) ∨
  (OPEN < cap ∧ o' = o + bi.d ∧ len ≤ cap')
inductive FnR (β : Beta) : Fn → Fn → Prop
  | func (f : FuncId) : FnR β (.func f) (.func f)
  | yield {l : Nat} {bi : BI} (h : β l = some bi) : FnR β (.yield l) (.yield bi.r)
def tokVal (bi : BI) : Value := .int .i64 ((bi.d : Int) - (bi.n : Int))
inductive VR (β : Beta) : Value → Value → Prop
  | tok {b : Nat} {bi : BI} {v' : Value} (h : β b = some bi) (hv : v' = tokVal bi) : VR β (.chan (some b)) v'
  | bool (b : Bool) : VR β (.bool b) (.bool b)
  | int (k : IntKind) (n : Int) : VR β (.int k n) (.int k n)
  | float (k : FloatKind) (n : Nat) : VR β (.float k n) (.float k n)
  | complex (k : FloatKind) (n m : Nat) : VR β (.complex k n m) (.complex k n m)
  | string (s : ByteArray) : VR β (.string s) (.string s)
  | nilPtr : VR β (.pointer none) (.pointer none)
  | ptr {b o : Nat} {bi : BI} (h : β b = some bi) : VR β (.pointer (some ⟨b, o, none⟩)) (.pointer (some ⟨bi.r, o + bi.d, none⟩))
  | nilSlice : VR β (.slice none 0 0) (.slice none 0 0)
  | slice {b o len cap o' cap' : Nat} {bi : BI} (h : β b = some bi) (hs : SC bi o len cap o' cap') :
      VR β (.slice (some ⟨b, o, none⟩) len cap) (.slice (some ⟨bi.r, o', none⟩) len cap')
  | nilMap : VR β (.map none) (.map none)
  | map {b : Nat} {bi : BI} (h : β b = some bi) : VR β (.map (some b)) (.map (some bi.r))
  | nilFunc : VR β .nilFunc .nilFunc
  | func {fn fn' : Fn} {a a' c c' : Array Value} (hf : FnR β fn fn') (ha : a.size = a'.size)
      (hac : ∀ (i : Nat) (v v' : Value), a[i]? = some v → a'[i]? = some v' → VR β v v') (hs : c.size = c'.size)
      (hc : ∀ (i : Nat) (v v' : Value), c[i]? = some v → c'[i]? = some v' → VR β v v') : VR β (.func fn a c) (.func fn' a' c')
  | nilIface : VR β .nilIface .nilIface
  | iface (t : TypeId) {v v' : Value} (h : VR β v v') : VR β (.iface t v) (.iface t v')
  | agg {c c' : Array Value} (hs : c.size = c'.size)
      (hc : ∀ (i : Nat) (v v' : Value), c[i]? = some v → c'[i]? = some v' → VR β v v') : VR β (.agg c) (.agg c')
  | tuple {c c' : Array Value} (hs : c.size = c'.size)
      (hc : ∀ (i : Nat) (v v' : Value), c[i]? = some v → c'[i]? = some v' → VR β v v') : VR β (.tuple c) (.tuple c')
theorem VR.func0 {β : Beta} {fn fn' : Fn} {c c' : Array Value} (hf : FnR β fn fn') (hs : c.size = c'.size)
    (hc : ∀ (i : Nat) (v v' : Value), c[i]? = some v → c'[i]? = some v' → VR β v v') : VR β (.func fn #[] c) (.func fn' #[] c') :=
  .func hf rfl (fun i v v' e => by simp at e) hs hc
def AR (β : Beta) (c c' : Array Value) : Prop :=
  c.size = c'.size ∧ ∀ (i : Nat) (v v' : Value), c[i]? = some v → c'[i]? = some v' → VR β v v'
theorem tokVal_cases (bi : BI) : ∃ n, tokVal bi = .int .i64 n := ⟨_, rfl⟩
theorem FnR.mono {β β' : Beta} (h : β.le β') {f f' : Fn} (hf : FnR β f f') : FnR β' f f' := by
  cases hf with
  | func f => exact .func f
  | yield e => exact .yield (h _ _ e)
theorem VR.mono {β β' : Beta} (h : β.le β') {v v' : Value} (hv : VR β v v') : VR β' v v' := by
  induction hv with
  | tok e hv => exact .tok (h _ _ e) hv
  | bool b => exact .bool b
  | int k n => exact .int k n
  | float k n => exact .float k n
  | complex k n m => exact .complex k n m
  | string s => exact .string s
  | nilPtr => exact .nilPtr
  | ptr e => exact .ptr (h _ _ e)
  | nilSlice => exact .nilSlice
  | slice e hs => exact .slice (h _ _ e) hs
  | nilMap => exact .nilMap
  | map e => exact .map (h _ _ e)
  | nilFunc => exact .nilFunc
  | func hf ha _ hs _ iha ih => exact .func (hf.mono h) ha iha hs ih
  | nilIface => exact .nilIface
  | iface t _ ih => exact .iface t ih
  | agg hs _ ih => exact .agg hs ih
  | tuple hs _ ih => exact .tuple hs ih
theorem AR.mono {β β' : Beta} (h : β.le β') {c c' : Array Value} (hc : AR β c c') : AR β' c c' := ⟨hc.1, fun i v v' e e' => (hc.2 i v v' e e').mono h⟩
theorem AR.get {β : Beta} {c c' : Array Value} (h : AR β c c') {i : Nat} {v : Value} (hv : c[i]? = some v) : ∃ v', c'[i]? = some v' ∧ VR β v v' := by
  have hi : i < c.size := (Array.getElem?_eq_some_iff.1 hv).1
  have hi' : i < c'.size := h.1 ▸ hi
  exact ⟨c'[i], by simp [hi'], h.2 i v _ hv (by simp [hi'])⟩
theorem AR.none {β : Beta} {c c' : Array Value} (h : AR β c c') {i : Nat} (hv : c[i]? = none) : c'[i]? = none := by
  rw [Array.getElem?_eq_none_iff] at *
  rw [← h.1]; exact hv
theorem AR.empty (β : Beta) : AR β #[] #[] := ⟨rfl, fun i v v' e => by simp at e⟩
theorem AR.push {β : Beta} {c c' : Array Value} (h : AR β c c') {v v' : Value} (hv : VR β v v') : AR β (c.push v) (c'.push v') := by
  refine ⟨by simp [h.1], fun i x x' e e' => ?_⟩
  rw [Array.getElem?_push] at e e'
  rw [h.1] at e
  by_cases hi : i = c'.size
  · rw [if_pos hi] at e e'
    simp only [Option.some.injEq] at e e'
    subst e; subst e'; exact hv
  · rw [if_neg hi] at e e'
    exact h.2 i x x' e e'
theorem AR.append {β : Beta} {c c' d d' : Array Value} (h : AR β c c') (k : AR β d d') : AR β (c ++ d) (c' ++ d') := by
  refine ⟨by simp [h.1, k.1], fun i x x' e e' => ?_⟩
  rw [Array.getElem?_append] at e e'
  rw [h.1] at e
  by_cases hi : i < c'.size
  · rw [if_pos hi] at e e'
    exact h.2 i x x' e e'
  · rw [if_neg hi] at e e'
    exact k.2 _ x x' e e'
theorem AR.extract {β : Beta} {c c' : Array Value} (h : AR β c c') (i j : Nat) : AR β (c.extract i j) (c'.extract i j) := by
  refine ⟨by simp [h.1], fun k x x' e e' => ?_⟩
  rw [Array.getElem?_extract] at e e'
  split at e
  · split at e'
    · exact h.2 _ x x' e e'
    · cases e'
  · cases e
theorem AR.set {β : Beta} {c c' : Array Value} (h : AR β c c') (i : Nat) {v v' : Value} (hv : VR β v v') : AR β (c.setIfInBounds i v) (c'.setIfInBounds i v') := by
  refine ⟨by simp [h.1], fun k x x' e e' => ?_⟩
  rw [Array.getElem?_setIfInBounds] at e e'
  rw [h.1] at e
  split at e
  · split at e
    · simp_all
    · cases e
  · rename_i hk
    rw [if_neg hk] at e'
    exact h.2 _ x x' e e'
theorem AR.toList {β : Beta} {c c' : Array Value} (h : AR β c c') : c.toList.length = c'.toList.length := by simpa using h.1
theorem AR.undef (β : Beta) (n : Nat) : AR β (Array.replicate n undef) (Array.replicate n undef) := by
  refine ⟨rfl, fun k x x' e e' => ?_⟩
  rw [e] at e'
  simp only [Option.some.injEq] at e'
  subst e'
  rw [Array.getElem?_replicate] at e
  split at e
  · simp only [Option.some.injEq] at e
    subst e
    exact .tuple rfl (fun i v v' e => by simp at e)
  · cases e
theorem VR.ground {β : Beta} : ∀ (n : Nat) {v v' : Value}, VR β v v' → groundD n v = true → v = v'
  | 0, _, _, .tok _ _, h => by simp [groundD] at h
  | n + 1, _, _, .tok _ _, h => by simp [groundD] at h
  | n, _, _, .bool b, _ => rfl
  | n, _, _, .int k m, _ => rfl
  | n, _, _, .float k m, _ => rfl
  | n, _, _, .complex k m l, _ => rfl
  | n, _, _, .string s, _ => rfl
  | n, _, _, .nilPtr, _ => rfl
  | 0, _, _, .ptr _, h => by simp [groundD] at h
  | n + 1, _, _, .ptr _, h => by simp [groundD] at h
  | n, _, _, .nilSlice, _ => rfl
  | 0, _, _, .slice _ _, h => by simp [groundD] at h
  | n + 1, _, _, .slice _ _, h => by simp [groundD] at h
  | n, _, _, .nilMap, _ => rfl
  | 0, _, _, .map _, h => by simp [groundD] at h
  | n + 1, _, _, .map _, h => by simp [groundD] at h
  | n, _, _, .nilFunc, _ => rfl
  | 0, _, _, .func _ _ _ _ _, h => by simp [groundD] at h
  | n + 1, _, _, .func _ _ _ _ _, h => by simp [groundD] at h
  | n, _, _, .nilIface, _ => rfl
  | 0, _, _, .iface t _, h => by simp [groundD] at h
  | n + 1, _, _, .iface t hv, h => by
    simp only [groundD] at h
    rw [VR.ground n hv h]
  | 0, _, _, .agg _ _, h => by simp [groundD] at h
  | n + 1, .agg c, .agg c', .agg hs hc, h => by
    simp only [groundD, List.all_eq_true] at h
    congr 1
    apply Array.ext hs
    intro i h1 h2
    exact VR.ground n (hc i c[i] c'[i] (by simp [h1]) (by simp [h2])) (h _ (by simp))
  | 0, _, _, .tuple _ _, h => by simp [groundD] at h
  | n + 1, _, _, .tuple _ _, h => by simp [groundD] at h
def RO (c : Array Value) (fz : Nat × Nat) : Prop := fz.1 = 0 ∧ 0 < fz.2 ∧ c.size ≤ fz.2
structure ER (β : Beta) (x x' : MapEntry) : Prop where
  key : x.key = x'.key ∧ keyFit x.key = true
  val : VR β x.val x'.val
  born : x.born = x'.born
inductive OR (β : Beta) (bi : BI) : Obj → Obj → Prop
  | cells {c c' : Array Value} {e : TypeId} {fz fz' : Nat × Nat} (hn : c.size = bi.n) (ht : c'.size = bi.tot) (hd : bi.d + bi.n ≤ bi.tot)
      (hc : ∀ (i : Nat) (v : Value), c[i]? = some v → ∃ v', c'[bi.d + i]? = some v' ∧ VR β v v')
      (hf : (fz = (0, 0) ∧ fz' = (0, 0)) ∨ RO c fz) : OR β bi (.cells c e fz) (.cells c' e fz')
  | map {es es' : Array MapEntry} {k : Nat} (hs : es.size = es'.size)
      (he : ∀ (i : Nat) (x x' : MapEntry), es[i]? = some x → es'[i]? = some x' → ER β x x') : OR β bi (.map es k) (.map es' k)
  | stringIter (s : ByteArray) (p : Nat) (h : bi.d = 0) : OR β bi (.stringIter s p) (.stringIter s p)
  | nilIter (since : Nat) (seen : Array Nat) (stepped : Nat) (h : bi.d = 0) : OR β bi (.mapIter none since seen stepped) (.mapIter none since seen stepped)
  | mapIter {m : Nat} {bm : BI} (hm : β m = some bm) (since : Nat) (seen : Array Nat) (stepped : Nat) (h : bi.d = 0) :
      OR β bi (.mapIter (some m) since seen stepped) (.mapIter (some bm.r) since seen stepped)
  | loop {st : LoopState} {pe : Option Code} {fn fn' : FuncId} {tmps tmps' : Array Value} {ps : Array Tmp} {assign body : Code} {df : Nat} {bd : BI} (hd : β df = some bd) (ht : AR β tmps tmps') :
      OR β bi (.loop { state := st, pending := pe, fn, tmps, params := ps, assign, body, defers := df }) (.loop { state := st, pending := pe, fn := fn', tmps := tmps', params := ps, assign, body, defers := bd.r })
  | deferred : OR β bi (.deferred (some [])) (.deferred (some []))
  | taken : OR β bi (.deferred none) (.deferred none)
theorem ER.mono {β β' : Beta} (h : β.le β') {x x' : MapEntry} (hx : ER β x x') : ER β' x x' := ⟨hx.key, hx.val.mono h, hx.born⟩
theorem OR.mono {β β' : Beta} (h : β.le β') {bi : BI} {o o' : Obj} (ho : OR β bi o o') : OR β' bi o o' := by
  cases ho with
  | cells hn ht hd hc hf => exact .cells hn ht hd (fun i v e => let ⟨v', e', hv⟩ := hc i v e; ⟨v', e', hv.mono h⟩) hf
  | map hs he => exact .map hs fun i x x' e e' => (he i x x' e e').mono h
  | stringIter s p hd => exact .stringIter s p hd
  | nilIter a b c hd => exact .nilIter a b c hd
  | mapIter hm a b c hd => exact .mapIter (h _ _ hm) a b c hd
  | loop hd ht => exact .loop (h _ _ hd) (ht.mono h)
  | deferred => exact .deferred
  | taken => exact .taken
def live : Obj → Bool
  | .cells _ _ fz => fz.1 == 0
  | _ => true
def wr : Obj → Bool
  | .cells _ _ fz => fz == (0, 0)
  | _ => true
theorem live_of_wr {o : Obj} (h : wr o = true) : live o = true := by
  cases o <;> simp_all [wr, live]
structure Base where
  w : World
  S : Nat → Prop
  o : Nat → Option Obj
def Base.of (w : World) : Base := ⟨w, fun _ => False, fun _ => none⟩
structure R (P : Program) (B : Nat) (w0 : Base) (β : Beta) (σ w : World) : Prop where
  below : RowKit.Below B w0.w w
  held : ∀ k, w0.S k → ∃ x, w.heap[k]? = some x ∧ w0.o k = some x
  size : B ≤ w.heap.size
  dom : ∀ b bi, β b = some bi → b < σ.heap.size
  cov : ∀ b, b < σ.heap.size → ∃ bi, β b = some bi
  obj : ∀ b o bi, σ.heap[b]? = some o → β b = some bi → live o = true → ∃ o', w.heap[bi.r]? = some o' ∧ OR β bi o o'
  dd : ∀ (b : Nat) (o : Obj), σ.heap[b]? = some o → live o = false → o = dead
  esz : ∀ b c e fz bi, σ.heap[b]? = some (.cells c e fz) → live (.cells c e fz) = true → β b = some bi → ∀ i, P.info? e = some i → i.size = bi.es
  new : ∀ b o bi, σ.heap[b]? = some o → β b = some bi → wr o = true → B ≤ bi.r
  free : ∀ b o bi, σ.heap[b]? = some o → β b = some bi → live o = true → ¬ w0.S bi.r
  inj : ∀ b1 b2 o1 o2 bi1 bi2, σ.heap[b1]? = some o1 → σ.heap[b2]? = some o2 → β b1 = some bi1 → β b2 = some bi2 → wr o1 = true → live o2 = true → bi1.r = bi2.r → b1 = b2
section
variable {P : Program} {B : Nat} {w0 : Base} {β : Beta} {σ w : World}
theorem R.holds (h : R P B w0 β σ w) {w' : World} {k : Nat} (hk : w0.S k) (he : w'.heap[k]? = w.heap[k]?) : ∃ x, w'.heap[k]? = some x ∧ w0.o k = some x := by
  rw [he]; exact h.held k hk
theorem R.lt (h : R P B w0 β σ w) {b : Nat} {o : Obj} {bi : BI} (hb : σ.heap[b]? = some o) (e : β b = some bi) (hl : live o = true) : bi.r < w.heap.size := by
  obtain ⟨o', ho', _⟩ := h.obj _ _ _ hb e hl
  exact (Array.getElem?_eq_some_iff.1 ho').1
theorem cell?_eq_some {w : World} {b o : Nat} {v : Value} : w.cell? ⟨b, o, none⟩ = some v ↔ ∃ c e fz, w.heap[b]? = some (.cells c e fz) ∧ c[o]? = some v := by
  unfold World.cell?
  constructor
  · intro h
    split at h
    · rename_i c e fz hb
      simp at h
      exact ⟨c, e, fz, hb, h⟩
    · cases h
  · rintro ⟨c, e, fz, hb, hv⟩
    simp only at hb ⊢
    rw [hb]; simpa using hv
theorem R.liveCell (h : R P B w0 β σ w) {b : Nat} {c : Array Value} {e : TypeId} {fz : Nat × Nat} (hb : σ.heap[b]? = some (.cells c e fz)) {o : Nat} {v : Value} (hv : c[o]? = some v) : live (.cells c e fz) = true := by
  cases hl : live (.cells c e fz) with
  | true => rfl
  | false =>
    have := h.dd _ _ hb hl
    simp only [dead, Obj.cells.injEq] at this
    obtain ⟨rfl, _⟩ := this
    simp at hv
theorem R.cell (h : R P B w0 β σ w) {b o : Nat} {bi : BI} {v : Value} (hb : β b = some bi) (hv : σ.cell? ⟨b, o, none⟩ = some v) :
    ∃ v', w.cell? ⟨bi.r, o + bi.d, none⟩ = some v' ∧ VR β v v' := by
  obtain ⟨c, e, fz, hb', hc⟩ := cell?_eq_some.1 hv
  obtain ⟨o', ho', hor⟩ := h.obj _ _ _ hb' hb (h.liveCell hb' hc)
  cases hor with
  | cells hn ht hd hcc hf =>
    obtain ⟨v', hv', hvr⟩ := hcc o v hc
    exact ⟨v', cell?_eq_some.2 ⟨_, _, _, ho', by rw [Nat.add_comm]; exact hv'⟩, hvr⟩
theorem R.store (h : R P B w0 β σ w) {b o : Nat} {bi : BI} {u v v' : Value} (hb : β b = some bi) (hu : σ.cell? ⟨b, o, none⟩ = some u)
    (hf : σ.frozen? ⟨b, o, none⟩ = false) (hv : VR β v v') :
    (∃ u', w.cell? ⟨bi.r, o + bi.d, none⟩ = some u') ∧ w.frozen? ⟨bi.r, o + bi.d, none⟩ = false ∧
      R P B w0 β (σ.setCell ⟨b, o, none⟩ v) (w.setCell ⟨bi.r, o + bi.d, none⟩ v') := by
  obtain ⟨c, e, fz, hb', hc⟩ := cell?_eq_some.1 hu
  obtain ⟨o', ho', hor⟩ := h.obj _ _ _ hb' hb (h.liveCell hb' hc)
  obtain ⟨u', hu', _⟩ := h.cell hb hu
  have hoc : o < c.size := (Array.getElem?_eq_some_iff.1 hc).1
  cases hor with
  | @cells _ c' _ _ fz' hn ht hd hcc hfz =>
    have hfz0 : fz = (0, 0) ∧ fz' = (0, 0) := by
      rcases hfz with hfz | hro
      · exact hfz
      · obtain ⟨h1, h2, h3⟩ := hro
        obtain ⟨lo, hi⟩ := fz
        simp only at h1 h2 h3
        subst h1
        unfold World.frozen? at hf
        simp only [hb'] at hf
        simp at hf
        omega
    obtain ⟨rfl, rfl⟩ := hfz0
    have hwr : wr (.cells c e (0, 0)) = true := rfl
    have hσ : ∀ k, (σ.setCell ⟨b, o, none⟩ v).heap[k]? = if k = b then some (.cells (c.setIfInBounds o v) e (0, 0)) else σ.heap[k]? := by
      intro k
      simp only [World.setCell, Array.getElem?_modify]
      by_cases hk : k = b
      · subst hk; simp [hb']
      · rw [if_neg (fun e => hk e.symm), if_neg hk]
    have hw : ∀ k, (w.setCell ⟨bi.r, o + bi.d, none⟩ v').heap[k]? = if k = bi.r then some (.cells (c'.setIfInBounds (o + bi.d) v') e (0, 0)) else w.heap[k]? := by
      intro k
      simp only [World.setCell, Array.getElem?_modify]
      by_cases hk : k = bi.r
      · subst hk; simp [ho']
      · rw [if_neg (fun e => hk e.symm), if_neg hk]
    refine ⟨⟨u', hu'⟩, ?_, ?_⟩
    · unfold World.frozen?; simp only; rw [ho']; simp
    · refine { below := h.below.setCell (h.new _ _ _ hb' hb hwr) _, held := (fun k hk => h.holds hk (by rw [hw, if_neg]; rintro rfl; exact h.free _ _ _ hb' hb (live_of_wr hwr) hk)), free := (fun k ok bk hk hbk hl => by
                 rw [hσ] at hk
                 by_cases hkb : k = b
                 · subst hkb; exact h.free _ _ _ hb' hbk (live_of_wr hwr)
                 · rw [if_neg hkb] at hk; exact h.free _ _ _ hk hbk hl), size := by simpa using h.size, dom := fun k bk hk => by simpa using h.dom k bk hk,
               cov := fun k hk => h.cov k (by simpa using hk), obj := ?_, dd := ?_, esz := ?_, new := ?_, inj := ?_ }
      rotate_left
      · intro k o3 hk hl
        rw [hσ] at hk
        by_cases hkb : k = b
        · rw [if_pos hkb] at hk
          simp only [Option.some.injEq] at hk
          subst hk
          cases hl
        · rw [if_neg hkb] at hk
          exact h.dd _ _ hk hl
      rotate_right
      · intro k ok bk hk hbk hl
        rw [hσ] at hk
        by_cases hkb : k = b
        · subst hkb
          rw [if_pos rfl] at hk
          rw [hb] at hbk
          simp only [Option.some.injEq] at hk hbk
          subst hbk; subst hk
          refine ⟨_, by rw [hw, if_pos rfl], .cells (by simpa using hn) (by simpa using ht) hd ?_ (.inl ⟨rfl, rfl⟩)⟩
          intro i x hx
          rw [Array.getElem?_setIfInBounds] at hx ⊢
          by_cases hio : o = i
          · subst hio
            rw [if_pos rfl, if_pos hoc] at hx
            rw [if_pos (by omega), if_pos (by omega)]
            simp only [Option.some.injEq] at hx
            subst hx
            exact ⟨v', rfl, hv⟩
          · rw [if_neg hio] at hx
            rw [if_neg (by omega)]
            exact hcc i x hx
        · rw [if_neg hkb] at hk
          obtain ⟨o2, ho2, hor2⟩ := h.obj _ _ _ hk hbk hl
          refine ⟨o2, ?_, hor2⟩
          rw [hw, if_neg (fun hr => hkb (h.inj b k _ _ _ _ hb' hk hb hbk hwr hl hr.symm).symm)]
          exact ho2
      · intro k c2 e2 fz2 bk hk hl hbk
        rw [hσ] at hk
        by_cases hkb : k = b
        · subst hkb
          rw [if_pos rfl] at hk
          simp only [Option.some.injEq, Obj.cells.injEq] at hk
          obtain ⟨_, rfl, _⟩ := hk
          exact h.esz _ _ _ _ _ hb' rfl hbk
        · rw [if_neg hkb] at hk
          exact h.esz _ _ _ _ _ hk hl hbk
      · intro k ok bk hk hbk hl
        rw [hσ] at hk
        by_cases hkb : k = b
        · subst hkb
          exact h.new _ _ _ hb' hbk hwr
        · rw [if_neg hkb] at hk
          exact h.new _ _ _ hk hbk hl
      · intro k1 k2 o1 o2 b1 b2 h1 h2 e1 e2 hw1 hl2 hr
        rw [hσ] at h1 h2
        have g1 : ∃ o, σ.heap[k1]? = some o ∧ wr o = true := by
          by_cases hk : k1 = b
          · subst hk; exact ⟨_, hb', hwr⟩
          · rw [if_neg hk] at h1; exact ⟨_, h1, hw1⟩
        have g2 : ∃ o, σ.heap[k2]? = some o ∧ live o = true := by
          by_cases hk : k2 = b
          · subst hk; exact ⟨_, hb', rfl⟩
          · rw [if_neg hk] at h2; exact ⟨_, h2, hl2⟩
        obtain ⟨p1, q1, r1⟩ := g1
        obtain ⟨p2, q2, r2⟩ := g2
        exact h.inj _ _ _ _ _ _ q1 q2 e1 e2 r1 r2 hr
def Beta.put (β : Beta) (b : Nat) (bi : BI) : Beta := fun k => if k = b then some bi else β k
theorem Beta.le_put {β : Beta} {b : Nat} {bi : BI} (h : β b = none) : β.le (β.put b bi) := fun k bk hk => by
  unfold Beta.put
  by_cases e : k = b
  · subst e; rw [h] at hk; cases hk
  · rw [if_neg e]; exact hk
theorem R.fresh (h : R P B w0 β σ w) : β σ.heap.size = none := by
  cases hb : β σ.heap.size with
  | none => rfl
  | some bi => exact absurd (h.dom _ _ hb) (Nat.lt_irrefl _)
theorem alloc_heap (w : World) (o : Obj) (k : Nat) : (w.alloc o).heap[k]? = if k = w.heap.size then some o else w.heap[k]? := by
  show (w.heap.push o)[k]? = _
  rw [Array.getElem?_push]
theorem R.alloc (h : R P B w0 β σ w) {o o' : Obj} {d n es tot : Nat}
    (ho : OR (β.put σ.heap.size ⟨w.heap.size, d, n, es, tot⟩) ⟨w.heap.size, d, n, es, tot⟩ o o')
    (he : ∀ c e fz, o = .cells c e fz → ∀ i, P.info? e = some i → i.size = es) (hlo : live o = true) :
    R P B w0 (β.put σ.heap.size ⟨w.heap.size, d, n, es, tot⟩) (σ.alloc o) (w.alloc o') := by
  have hle := Beta.le_put (bi := ⟨w.heap.size, d, n, es, tot⟩) h.fresh
  have hold : ∀ k bk, k ≠ σ.heap.size → (β.put σ.heap.size ⟨w.heap.size, d, n, es, tot⟩) k = some bk → β k = some bk := fun k bk hk e => by
    unfold Beta.put at e; rwa [if_neg hk] at e
  have hnew : ∀ bk, (β.put σ.heap.size ⟨w.heap.size, d, n, es, tot⟩) σ.heap.size = some bk → bk = ⟨w.heap.size, d, n, es, tot⟩ := fun bk e => by
    unfold Beta.put at e; rw [if_pos rfl] at e; simpa using e.symm
  refine { below := h.below.alloc h.size _, held := (fun k hk => h.holds hk (by obtain ⟨x, hx, hx2⟩ := h.held k hk; rw [alloc_heap, if_neg (Nat.ne_of_lt (Array.getElem?_eq_some_iff.1 hx).1)])), free := (fun k ok bk hk hbk hl => by
             rw [alloc_heap] at hk
             by_cases e : k = σ.heap.size
             · subst e; have := hnew _ hbk; subst this
               exact fun hs => by obtain ⟨x, hx, _⟩ := h.held _ hs; exact absurd (Array.getElem?_eq_some_iff.1 hx).1 (Nat.lt_irrefl _)
             · rw [if_neg e] at hk; exact h.free _ _ _ hk (hold _ _ e hbk) hl), size := by have := h.size; simp; omega, dom := ?_, cov := ?_, obj := ?_, dd := ?_, esz := ?_, new := ?_, inj := ?_ }
  · intro k bk hk
    by_cases e : k = σ.heap.size
    · subst e
      have := hnew _ hk
      subst this
      simp
    · have := h.dom k bk (hold _ _ e hk)
      simp; omega
  · intro k hk
    by_cases e : k = σ.heap.size
    · subst e; exact ⟨_, by unfold Beta.put; rw [if_pos rfl]⟩
    · obtain ⟨bk, hb⟩ := h.cov k (by simp at hk; omega)
      exact ⟨bk, hle _ _ hb⟩
  · intro k ok bk hk hbk hl
    rw [alloc_heap] at hk
    by_cases e : k = σ.heap.size
    · subst e
      rw [if_pos rfl] at hk
      have := hnew _ hbk
      subst this
      simp only [Option.some.injEq] at hk
      subst hk
      exact ⟨o', by rw [alloc_heap, if_pos rfl], ho⟩
    · rw [if_neg e] at hk
      have hb' := hold _ _ e hbk
      obtain ⟨o2, ho2, hor⟩ := h.obj _ _ _ hk hb' hl
      refine ⟨o2, ?_, hor.mono hle⟩
      rw [alloc_heap, if_neg (by have := h.lt hk hb' hl; omega)]
      exact ho2
  · intro k o3 hk hl
    rw [alloc_heap] at hk
    by_cases ek : k = σ.heap.size
    · rw [if_pos ek] at hk
      simp only [Option.some.injEq] at hk
      subst hk
      rw [hlo] at hl
      cases hl
    · rw [if_neg ek] at hk
      exact h.dd _ _ hk hl
  · intro k c e fz bk hk hl hbk
    rw [alloc_heap] at hk
    by_cases ek : k = σ.heap.size
    · subst ek
      rw [if_pos rfl] at hk
      have := hnew _ hbk
      subst this
      simp only [Option.some.injEq] at hk
      exact he _ _ _ hk
    · rw [if_neg ek] at hk
      exact h.esz _ _ _ _ _ hk hl (hold _ _ ek hbk)
  · intro k ok bk hk hbk hl
    rw [alloc_heap] at hk
    by_cases e : k = σ.heap.size
    · subst e
      have := hnew _ hbk
      subst this
      exact h.size
    · rw [if_neg e] at hk
      exact h.new _ _ _ hk (hold _ _ e hbk) hl
  · intro k1 k2 o1 o2 b1 b2 h1 h2 e1 e2 hw1 hl2 hr
    rw [alloc_heap] at h1 h2
    by_cases g1 : k1 = σ.heap.size
    · by_cases g2 : k2 = σ.heap.size
      · rw [g1, g2]
      · exfalso
        have hb2 := hold _ _ g2 e2
        subst g1
        have := hnew _ e1
        subst this
        rw [if_neg g2] at h2
        have := h.lt h2 hb2 hl2
        simp only at hr
        omega
    · have hb1 := hold _ _ g1 e1
      by_cases g2 : k2 = σ.heap.size
      · exfalso
        subst g2
        have := hnew _ e2
        subst this
        rw [if_neg g1] at h1
        have := h.lt h1 hb1 (live_of_wr hw1)
        simp only at hr
        omega
      · rw [if_neg g1] at h1
        rw [if_neg g2] at h2
        exact h.inj _ _ _ _ _ _ h1 h2 hb1 (hold _ _ g2 e2) hw1 hl2 hr
end
end Go.Ideal
namespace Go.Ideal
open Go
section
variable {P : Program} {B : Nat} {w0 : Base} {β : Beta} {σ w : World}
def putObj (w : World) (b : Nat) (o : Obj) : World := { w with heap := w.heap.setIfInBounds b o }
theorem putObj_heap (w : World) (b : Nat) (o : Obj) (k : Nat) (hb : b < w.heap.size) : (putObj w b o).heap[k]? = if k = b then some o else w.heap[k]? := by
  simp only [putObj, Array.getElem?_setIfInBounds]
  by_cases hk : k = b
  · subst hk; simp [hb]
  · rw [if_neg (fun e => hk e.symm), if_neg hk]
theorem R.putObj (h : R P B w0 β σ w) {b : Nat} {bi : BI} {o1 o o' : Obj} (hb : β b = some bi) (h1 : σ.heap[b]? = some o1) (hw1 : wr o1 = true)
    (hor : OR β bi o o') (hwo : wr o = true) (he : ∀ c e fz, o = .cells c e fz → ∀ i, P.info? e = some i → i.size = bi.es) :
    R P B w0 β (Ideal.putObj σ b o) (Ideal.putObj w bi.r o') := by
  have hbs := h.dom _ _ hb
  have hbr := h.lt h1 hb (live_of_wr hw1)
  have hB := h.new _ _ _ h1 hb hw1
  have hF := h.free _ _ _ h1 hb (live_of_wr hw1)
  have hσ := fun k => putObj_heap σ b o k hbs
  have hw := fun k => putObj_heap w bi.r o' k hbr
  have hsz : (Ideal.putObj w bi.r o').heap.size = w.heap.size := by simp [Ideal.putObj]
  have hszσ : (Ideal.putObj σ b o).heap.size = σ.heap.size := by simp [Ideal.putObj]
  refine { below := ?_, held := (fun k hk => h.holds hk (by rw [hw, if_neg]; rintro rfl; exact hF hk)), free := (fun k ok bk hk hbk hl => by
             rw [hσ] at hk
             by_cases hkb : k = b
             · subst hkb; rw [hb] at hbk; simp only [Option.some.injEq] at hbk; subst hbk; exact hF
             · rw [if_neg hkb] at hk; exact h.free _ _ _ hk hbk hl), size := by rw [hsz]; exact h.size, dom := fun k bk hk => by rw [hszσ]; exact h.dom k bk hk,
           cov := fun k hk => h.cov k (by rw [hszσ] at hk; exact hk), obj := ?_, dd := ?_, esz := ?_, new := ?_, inj := ?_ }
  · refine h.below.trans ⟨rfl, rfl, rfl, by rw [hsz]; exact Nat.le_refl _, fun k hk => ?_⟩
    rw [hw, if_neg (by omega)]
  · intro k ok bk hk hbk hl
    rw [hσ] at hk
    by_cases hkb : k = b
    · subst hkb
      rw [if_pos rfl] at hk
      rw [hb] at hbk
      simp only [Option.some.injEq] at hk hbk
      subst hbk; subst hk
      exact ⟨o', by rw [hw, if_pos rfl], hor⟩
    · rw [if_neg hkb] at hk
      obtain ⟨o2, ho2, hor2⟩ := h.obj _ _ _ hk hbk hl
      refine ⟨o2, ?_, hor2⟩
      rw [hw, if_neg (fun hr => hkb (h.inj b k _ _ _ _ h1 hk hb hbk hw1 hl hr.symm).symm)]
      exact ho2
  · intro k o3 hk hl
    rw [hσ] at hk
    by_cases hkb : k = b
    · rw [if_pos hkb] at hk
      simp only [Option.some.injEq] at hk
      subst hk
      rw [live_of_wr hwo] at hl
      cases hl
    · rw [if_neg hkb] at hk
      exact h.dd _ _ hk hl
  · intro k c2 e2 fz2 bk hk hl hbk
    rw [hσ] at hk
    by_cases hkb : k = b
    · subst hkb
      rw [if_pos rfl] at hk
      rw [hb] at hbk
      simp only [Option.some.injEq] at hk hbk
      subst hbk
      exact he _ _ _ hk
    · rw [if_neg hkb] at hk
      exact h.esz _ _ _ _ _ hk hl hbk
  · intro k ok bk hk hbk hl
    rw [hσ] at hk
    by_cases hkb : k = b
    · subst hkb
      exact h.new _ _ _ h1 hbk hw1
    · rw [if_neg hkb] at hk
      exact h.new _ _ _ hk hbk hl
  · intro k1 k2 p1 p2 b1 b2 g1 g2 e1 e2 hwp hlp hr
    rw [hσ] at g1 g2
    have q1 : ∃ o, σ.heap[k1]? = some o ∧ wr o = true := by
      by_cases hk : k1 = b
      · subst hk; exact ⟨_, h1, hw1⟩
      · rw [if_neg hk] at g1; exact ⟨_, g1, hwp⟩
    have q2 : ∃ o, σ.heap[k2]? = some o ∧ live o = true := by
      by_cases hk : k2 = b
      · subst hk; exact ⟨_, h1, live_of_wr hw1⟩
      · rw [if_neg hk] at g2; exact ⟨_, g2, hlp⟩
    obtain ⟨_, s1, t1⟩ := q1
    obtain ⟨_, s2, t2⟩ := q2
    exact h.inj _ _ _ _ _ _ s1 s2 e1 e2 t1 t2 hr
theorem R.kill (h : R P B w0 β σ w) {b : Nat} (hb : b < σ.heap.size) : R P B w0 β (Ideal.kill σ b) w := by
  have hσ := fun k => putObj_heap σ b dead k hb
  have hszσ : (Ideal.kill σ b).heap.size = σ.heap.size := by simp [Ideal.kill]
  change ∀ k, (Ideal.kill σ b).heap[k]? = _ at hσ
  have hd : ∀ k o, (Ideal.kill σ b).heap[k]? = some o → live o = true → k ≠ b ∧ σ.heap[k]? = some o := fun k o hk hl => by
    rw [hσ] at hk
    by_cases hkb : k = b
    · rw [if_pos hkb] at hk
      simp only [Option.some.injEq] at hk
      subst hk
      cases hl
    · rw [if_neg hkb] at hk; exact ⟨hkb, hk⟩
  refine { below := h.below, held := h.held, free := (fun k o bk hk hbk hl => h.free _ _ _ (hd _ _ hk hl).2 hbk hl), size := h.size, dom := fun k bk hk => by rw [hszσ]; exact h.dom k bk hk, cov := fun k hk => h.cov k (by rw [hszσ] at hk; exact hk),
           obj := fun k o bk hk hbk hl => h.obj _ _ _ (hd _ _ hk hl).2 hbk hl, dd := ?_, esz := fun k c e fz bk hk hl hbk => h.esz _ _ _ _ _ (hd _ _ hk hl).2 hl hbk,
           new := fun k o bk hk hbk hw => h.new _ _ _ (hd _ _ hk (live_of_wr hw)).2 hbk hw,
           inj := fun k1 k2 o1 o2 b1 b2 h1 h2 e1 e2 hw hl hr => h.inj _ _ _ _ _ _ (hd _ _ h1 (live_of_wr hw)).2 (hd _ _ h2 hl).2 e1 e2 hw hl hr }
  intro k o hk hl
  rw [hσ] at hk
  by_cases hkb : k = b
  · rw [if_pos hkb] at hk
    simpa using hk.symm
  · rw [if_neg hkb] at hk
    exact h.dd _ _ hk hl
theorem R.regrow (h : R P B w0 β σ w) {b : Nat} {bi : BI} {c : Array Value} {e : TypeId} (hb : β b = some bi) (h1 : σ.heap[b]? = some (.cells c e (0, 0)))
    {cs c2 : Array Value} {d2 : Nat} {w' : World} (hos : w'.os = w.os) (htp : w'.tape = w.tape) (hout : w'.output = w.output) (hsz : w'.heap.size = w.heap.size)
    (hold : ∀ k, k ≠ bi.r → w'.heap[k]? = w.heap[k]?) (hrow : w'.heap[bi.r]? = some (.cells c2 e (0, 0))) (hc2 : c2.size = bi.tot) (hd2 : d2 + cs.size ≤ bi.tot)
    (hcs : ∀ (i : Nat) (v : Value), cs[i]? = some v → ∃ v', c2[d2 + i]? = some v' ∧ VR β v v') :
    R P B w0 (β.put σ.heap.size ⟨bi.r, d2, cs.size, bi.es, bi.tot⟩) (Ideal.kill (σ.alloc (.cells cs e)) b) w' := by
  have hle := Beta.le_put (bi := ⟨bi.r, d2, cs.size, bi.es, bi.tot⟩) h.fresh
  have hbs := h.dom _ _ hb
  have hB := h.new _ _ _ h1 hb rfl
  have hF := h.free _ _ _ h1 hb rfl
  have holdβ : ∀ k bk, k ≠ σ.heap.size → (β.put σ.heap.size ⟨bi.r, d2, cs.size, bi.es, bi.tot⟩) k = some bk → β k = some bk := fun k bk hk e => by
    unfold Beta.put at e; rwa [if_neg hk] at e
  have hnew : ∀ bk, (β.put σ.heap.size ⟨bi.r, d2, cs.size, bi.es, bi.tot⟩) σ.heap.size = some bk → bk = ⟨bi.r, d2, cs.size, bi.es, bi.tot⟩ := fun bk e => by
    unfold Beta.put at e; rw [if_pos rfl] at e; simpa using e.symm
  have hszσ : (Ideal.kill (σ.alloc (.cells cs e)) b).heap.size = σ.heap.size + 1 := by simp [Ideal.kill]
  have hσ := fun k => putObj_heap (σ.alloc (.cells cs e)) b dead k (by simp; omega)
  change ∀ k, (Ideal.kill (σ.alloc (.cells cs e)) b).heap[k]? = _ at hσ
  have hd : ∀ k o, (Ideal.kill (σ.alloc (.cells cs e)) b).heap[k]? = some o → live o = true → k ≠ b ∧ ((k = σ.heap.size ∧ o = .cells cs e) ∨ (k ≠ σ.heap.size ∧ σ.heap[k]? = some o)) := fun k o hk hl => by
    rw [hσ] at hk
    by_cases hkb : k = b
    · rw [if_pos hkb] at hk
      simp only [Option.some.injEq] at hk
      subst hk
      cases hl
    · rw [if_neg hkb, alloc_heap] at hk
      by_cases hks : k = σ.heap.size
      · rw [if_pos hks] at hk
        simp only [Option.some.injEq] at hk
        exact ⟨hkb, .inl ⟨hks, hk.symm⟩⟩
      · rw [if_neg hks] at hk
        exact ⟨hkb, .inr ⟨hks, hk⟩⟩
  refine { below := h.below.trans ⟨hos, htp, hout, by omega, fun k hk => hold k (by omega)⟩, held := (fun k hk => h.holds hk (hold k (by rintro rfl; exact hF hk))), free := (fun k o bk hk hbk hl => by
             obtain ⟨hkb, ⟨rfl, rfl⟩ | ⟨hks, hko⟩⟩ := hd _ _ hk hl
             · have := hnew _ hbk; subst this; exact hF
             · exact h.free _ _ _ hko (holdβ _ _ hks hbk) hl), size := by rw [hsz]; exact h.size, dom := ?_, cov := ?_, obj := ?_, dd := ?_, esz := ?_, new := ?_, inj := ?_ }
  · intro k bk hk
    rw [hszσ]
    by_cases ek : k = σ.heap.size
    · subst ek
      have := hnew _ hk
      subst this
      omega
    · have := h.dom k bk (holdβ _ _ ek hk)
      omega
  · intro k hk
    rw [hszσ] at hk
    by_cases ek : k = σ.heap.size
    · subst ek; exact ⟨_, by unfold Beta.put; rw [if_pos rfl]⟩
    · obtain ⟨bk, hbk⟩ := h.cov k (by omega)
      exact ⟨bk, hle _ _ hbk⟩
  · intro k o bk hk hbk hl
    obtain ⟨hkb, ⟨rfl, rfl⟩ | ⟨hks, hko⟩⟩ := hd _ _ hk hl
    · have := hnew _ hbk
      subst this
      exact ⟨_, hrow, .cells rfl hc2 hd2 (fun i v hv => let ⟨v', h1, h2⟩ := hcs i v hv; ⟨v', h1, h2.mono hle⟩) (.inl ⟨rfl, rfl⟩)⟩
    · have hbk' := holdβ _ _ hks hbk
      obtain ⟨o2, ho2, hor2⟩ := h.obj _ _ _ hko hbk' hl
      refine ⟨o2, ?_, hor2.mono hle⟩
      rw [hold _ (fun hr => hkb (h.inj b k _ _ _ _ h1 hko hb hbk' rfl hl hr.symm).symm)]
      exact ho2
  · intro k o3 hk hl
    rw [hσ] at hk
    by_cases hkb : k = b
    · rw [if_pos hkb] at hk
      simpa using hk.symm
    · rw [if_neg hkb, alloc_heap] at hk
      by_cases hks : k = σ.heap.size
      · rw [if_pos hks] at hk
        simp only [Option.some.injEq] at hk
        subst hk
        cases hl
      · rw [if_neg hks] at hk
        exact h.dd _ _ hk hl
  · intro k c3 e3 fz3 bk hk hl hbk
    obtain ⟨hkb, ⟨rfl, ho⟩ | ⟨hks, hko⟩⟩ := hd _ _ hk hl
    · have := hnew _ hbk
      subst this
      simp only [Obj.cells.injEq] at ho
      obtain ⟨_, rfl, _⟩ := ho
      have := h.esz _ _ _ _ _ h1 rfl hb
      exact this
    · exact h.esz _ _ _ _ _ hko hl (holdβ _ _ hks hbk)
  · intro k o bk hk hbk hw
    obtain ⟨hkb, ⟨rfl, rfl⟩ | ⟨hks, hko⟩⟩ := hd _ _ hk (live_of_wr hw)
    · have := hnew _ hbk
      subst this
      exact hB
    · exact h.new _ _ _ hko (holdβ _ _ hks hbk) hw
  · intro k1 k2 o1 o2 b1 b2 g1 g2 e1 e2 hw hl hr
    obtain ⟨hkb1, hc1⟩ := hd _ _ g1 (live_of_wr hw)
    obtain ⟨hkb2, hc2'⟩ := hd _ _ g2 hl
    rcases hc1 with ⟨hk1, ho1⟩ | ⟨hk1, ho1⟩ <;> rcases hc2' with ⟨hk2, ho2⟩ | ⟨hk2, ho2⟩
    · rw [hk1, hk2]
    · exfalso
      have hb2 := holdβ _ _ hk2 e2
      subst hk1
      have := hnew _ e1
      subst this
      exact hkb2 (h.inj b k2 _ _ _ _ h1 ho2 hb hb2 rfl hl hr).symm
    · exfalso
      have hb1 := holdβ _ _ hk1 e1
      subst hk2
      have := hnew _ e2
      subst this
      exact hkb1 (h.inj k1 b _ _ _ _ ho1 h1 hb1 hb hw rfl hr)
    · exact h.inj _ _ _ _ _ _ ho1 ho2 (holdβ _ _ hk1 e1) (holdβ _ _ hk2 e2) hw hl hr
end
def Sim {α α' : Type} (P : Program) (B : Nat) (w0 : Base) (β : Beta) (s : Sem α) (s' : Sem α') (A : Beta → α → α' → Prop) : Prop :=
  ∀ β1 σ w, β.le β1 → R P B w0 β1 σ w → ∀ v σ', s.run P σ = .ok v σ' →
    ∃ β2 v' w', β1.le β2 ∧ s'.run P w = .ok v' w' ∧ R P B w0 β2 σ' w' ∧ A β2 v v'
section
variable {P : Program} {B : Nat} {w0 : Base} {β : Beta} {α α' γ γ' : Type} {A : Beta → α → α' → Prop} {C : Beta → γ → γ' → Prop}
theorem Sim.pure {v : α} {v' : α'} (h : ∀ β1, β.le β1 → A β1 v v') : Sim P B w0 β (Pure.pure v) (Pure.pure v') A := by
  intro β1 σ w hle hR u σ' hu
  simp only [Sem.run_pure, Result.ok.injEq] at hu
  obtain ⟨rfl, rfl⟩ := hu
  exact ⟨β1, v', w, .refl _, by simp, hR, h _ hle⟩
theorem Sim.bind {s : Sem α} {s' : Sem α'} {k : α → Sem γ} {k' : α' → Sem γ'} (h : Sim P B w0 β s s' A)
    (hk : ∀ β1 v v', β.le β1 → A β1 v v' → Sim P B w0 β1 (k v) (k' v') C) : Sim P B w0 β (s >>= k) (s' >>= k') C := by
  intro β1 σ w hle hR u σ' hu
  rw [Sem.run_bind] at hu
  cases hs : s.run P σ with
  | halt x y => rw [hs] at hu; cases hu
  | ok v σ1 =>
    rw [hs] at hu
    obtain ⟨β2, v', w1, hle2, hs', hR1, hA⟩ := h β1 σ w hle hR v σ1 hs
    obtain ⟨β3, u', w2, hle3, hk', hR2, hC⟩ := hk β2 v v' (hle.trans hle2) hA β2 σ1 w1 (.refl _) hR1 u σ' hu
    exact ⟨β3, u', w2, hle2.trans hle3, by rw [Sem.run_bind, hs']; exact hk', hR2, hC⟩
theorem Sim.halt {x : Halt} {s' : Sem α'} : Sim P B w0 β (.halt x : Sem α) s' A := by
  intro β1 σ w hle hR u σ' hu
  simp [Sem.run] at hu
theorem Sim.stuck {x : String} {s' : Sem α'} : Sim P B w0 β (Go.stuck x : Sem α) s' A := Sim.halt
theorem Sim.unsupported {x : Unsupported} {s' : Sem α'} : Sim P B w0 β (Go.unsupported x : Sem α) s' A := Sim.halt
theorem Sim.of_ne {s : Sem α} {s' : Sem α'} (h : ∀ σ v σ', s.run P σ ≠ .ok v σ') : Sim P B w0 β s s' A :=
  fun _ σ _ _ _ v σ' hu => absurd hu (h σ v σ')
theorem Sim.mono {s : Sem α} {s' : Sem α'} {A' : Beta → α → α' → Prop} (h : Sim P B w0 β s s' A) (hA : ∀ b v v', A b v v' → A' b v v') : Sim P B w0 β s s' A' :=
  fun β1 σ w hle hR v σ' hu => let ⟨β2, v', w', h1, h2, h3, h4⟩ := h β1 σ w hle hR v σ' hu; ⟨β2, v', w', h1, h2, h3, hA _ _ _ h4⟩
theorem Sim.le {s : Sem α} {s' : Sem α'} {β0 : Beta} (h : Sim P B w0 β0 s s' A) (hle : β0.le β) : Sim P B w0 β s s' A :=
  fun β1 σ w h1 hR v σ' hu => h β1 σ w (hle.trans h1) hR v σ' hu
def Still (s : Sem α) (P : Program) : Prop := ∀ σ w v σ', s.run P σ = .ok v σ' → σ' = σ ∧ s.run P w = .ok v w
theorem Sim.of_still {s : Sem α} (h : Still s P) {D : Beta → α → α → Prop} (hD : ∀ b v, D b v v) : Sim P B w0 β s s D := by
  intro β1 σ w hle hR u σ' hu
  obtain ⟨rfl, hw⟩ := h σ w u σ' hu
  exact ⟨β1, u, w, .refl _, hw, hR, hD _ _⟩
theorem still_pure (v : α) : Still (Pure.pure v) P := fun σ w u σ' hu => by
  simp only [Sem.run_pure, Result.ok.injEq] at hu
  obtain ⟨rfl, rfl⟩ := hu
  exact ⟨rfl, by simp⟩
theorem still_bind {s : Sem α} {k : α → Sem γ} (h : Still s P) (hk : ∀ v, Still (k v) P) : Still (s >>= k) P := fun σ w u σ' hu => by
  rw [Sem.run_bind] at hu
  cases hs : s.run P σ with
  | halt x y => rw [hs] at hu; cases hu
  | ok v σ1 =>
    rw [hs] at hu
    obtain ⟨rfl, hw⟩ := h σ w v σ1 hs
    obtain ⟨rfl, hw2⟩ := hk v σ1 w u σ' hu
    exact ⟨rfl, by rw [Sem.run_bind, hw]; exact hw2⟩
theorem still_halt (x : Halt) : Still (.halt x : Sem α) P := fun σ w u σ' hu => by simp [Sem.run] at hu
theorem still_program : Still program P := fun σ w u σ' hu => by
  simp only [program, Sem.run, Result.ok.injEq] at hu ⊢
  obtain ⟨rfl, rfl⟩ := hu
  exact ⟨rfl, rfl, trivial⟩
theorem still_underlying (t : TypeId) : Still (underlying t) P := by
  unfold underlying
  refine still_bind still_program fun p => ?_
  split
  · exact still_pure _
  · exact still_halt _
theorem still_typeInfo (t : TypeId) : Still (typeInfo t) P := by
  unfold typeInfo
  refine still_bind still_program fun p => ?_
  split
  · exact still_pure _
  · exact still_halt _
theorem still_sizeOf (t : TypeId) : Still (sizeOf t) P := still_bind (still_typeInfo t) fun _ => still_pure _
theorem still_isAgg (t : TypeId) : Still (isAgg t) P := by
  unfold isAgg
  refine still_bind (still_underlying t) fun p => ?_
  split <;> exact still_pure _
theorem still_zeroValue (t : TypeId) : Still (zeroValue t) P := by
  unfold zeroValue
  refine still_bind (still_typeInfo t) fun p => ?_
  split
  · exact still_pure _
  · exact still_halt _
end
end Go.Ideal
namespace Go.Ideal
open Go
def PR (β : Beta) (a a' : Addr) : Prop := ∃ b o bi, β b = some bi ∧ a = ⟨b, o, none⟩ ∧ a' = ⟨bi.r, o + bi.d, none⟩
theorem PR.mono {β β' : Beta} (h : β.le β') {a a' : Addr} (hp : PR β a a') : PR β' a a' :=
  let ⟨b, o, bi, e, h1, h2⟩ := hp; ⟨b, o, bi, h _ _ e, h1, h2⟩
theorem PR.add {β : Beta} {a a' : Addr} (h : PR β a a') (n : Nat) : PR β (a.add n) (a'.add n) := by
  obtain ⟨b, o, bi, e, rfl, rfl⟩ := h
  unfold Addr.add
  by_cases hn : n = 0
  · rw [if_pos hn, if_pos hn]; exact ⟨b, o, bi, e, rfl, rfl⟩
  · rw [if_neg hn, if_neg hn]; exact ⟨b, o + n, bi, e, rfl, by simp; omega⟩
theorem PR.vr {β : Beta} {a a' : Addr} (h : PR β a a') : VR β (.pointer (some a)) (.pointer (some a')) := by
  obtain ⟨b, o, bi, e, rfl, rfl⟩ := h
  exact .ptr e
def LR (β : Beta) : List Value → List Value → Prop
  | [], [] => True
  | a :: l, b :: m => VR β a b ∧ LR β l m
  | _, _ => False
theorem LR.mono {β β' : Beta} (h : β.le β') : ∀ {l m : List Value}, LR β l m → LR β' l m
  | [], [], _ => trivial
  | _ :: _, _ :: _, hl => ⟨hl.1.mono h, LR.mono h hl.2⟩
  | [], _ :: _, hl => hl.elim
  | _ :: _, [], hl => hl.elim
theorem LR.of_index {β : Beta} : ∀ {l m : List Value}, l.length = m.length → (∀ (i : Nat) (v v' : Value), l[i]? = some v → m[i]? = some v' → VR β v v') → LR β l m
  | [], [], _, _ => trivial
  | [], _ :: _, h, _ => by simp at h
  | _ :: _, [], h, _ => by simp at h
  | a :: l, b :: m, h, hi => ⟨hi 0 a b rfl rfl, LR.of_index (by simpa using h) fun i v v' e e' => hi (i + 1) v v' (by simpa using e) (by simpa using e')⟩
theorem LR.length {β : Beta} : ∀ {l m : List Value}, LR β l m → l.length = m.length
  | [], [], _ => rfl
  | _ :: _, _ :: _, h => by simp [LR.length h.2]
  | [], _ :: _, h => h.elim
  | _ :: _, [], h => h.elim
theorem LR.index {β : Beta} : ∀ {l m : List Value}, LR β l m → ∀ (i : Nat) (v v' : Value), l[i]? = some v → m[i]? = some v' → VR β v v'
  | [], [], _, i, v, v', h, _ => by simp at h
  | a :: l, b :: m, hl, 0, v, v', h, h' => by
    simp at h h'; subst h; subst h'; exact hl.1
  | a :: l, b :: m, hl, i + 1, v, v', h, h' => LR.index hl.2 i v v' (by simpa using h) (by simpa using h')
  | [], _ :: _, h, _, _, _, _, _ => h.elim
  | _ :: _, [], h, _, _, _, _, _ => h.elim
theorem AR.lr {β : Beta} {c c' : Array Value} (h : AR β c c') : LR β c.toList c'.toList :=
  LR.of_index (by simpa using h.1) fun i v v' e e' => h.2 i v v' (by simpa using e) (by simpa using e')
theorem LR.ar {β : Beta} {l m : List Value} (h : LR β l m) : AR β l.toArray m.toArray :=
  ⟨by simpa using h.length, fun i v v' e e' => h.index i v v' (by simpa using e) (by simpa using e')⟩
theorem VR.cells {β : Beta} {v v' : Value} (h : VR β v v') : AR β v.cells v'.cells := by
  have one : ∀ {x y : Value}, VR β x y → AR β #[x] #[y] := fun hv => by
    have := (AR.empty β).push hv
    simpa using this
  cases h with
  | agg hs hc => exact ⟨hs, hc⟩
  | tok e hv =>
    have h0 := one (.tok e hv)
    obtain ⟨n, hn⟩ := tokVal_cases _
    rw [hv, hn] at h0 ⊢; exact h0
  | bool b => exact one (.bool b)
  | int k n => exact one (.int k n)
  | float k n => exact one (.float k n)
  | complex k n m => exact one (.complex k n m)
  | string s => exact one (.string s)
  | nilPtr => exact one .nilPtr
  | ptr e => exact one (.ptr e)
  | nilSlice => exact one .nilSlice
  | slice e hs => exact one (.slice e hs)
  | nilMap => exact one .nilMap
  | map e => exact one (.map e)
  | nilFunc => exact one .nilFunc
  | func hf ha hac hs hc => exact one (.func hf ha hac hs hc)
  | nilIface => exact one .nilIface
  | iface t h => exact one (.iface t h)
  | tuple hs hc => exact one (.tuple hs hc)
section
variable {P : Program} {B : Nat} {w0 : Base} {β : Beta}
theorem R.noFar {σ w : World} (hR : R P B w0 β σ w) (b : Nat) (a : Addr) (u : TypeId) : σ.heap[b]? ≠ some (.view a u) := fun h => by
  have hb : b < σ.heap.size := (Array.getElem?_eq_some_iff.1 h).1
  obtain ⟨bi, hbi⟩ := hR.cov b hb
  obtain ⟨o', _, ho⟩ := hR.obj _ _ _ h hbi rfl
  cases ho
theorem farLoad_none {σ w : World} (hR : R P B w0 β σ w) (a : Addr) (m : Bool) : ∃ x, σ.farLoad P a m = .error x := by
  unfold World.farLoad
  split
  · rename_i h; exact absurd h (hR.noFar _ _ _)
  · exact ⟨_, rfl⟩
theorem farStore_none {σ w : World} (hR : R P B w0 β σ w) (a : Addr) (v : Value) (m : Bool) : ∃ x, σ.farStore P a v m = .error x := by
  unfold World.farStore
  split
  · rename_i h; exact absurd h (hR.noFar _ _ _)
  · exact ⟨_, rfl⟩
theorem sim_load {a a' : Addr} (h : PR β a a') : Sim P B w0 β (load a) (load a') VR := by
  intro β1 σ w hle hR u σ' hu
  obtain ⟨b, o, bi, e, rfl, rfl⟩ := h
  simp only [load, Sem.run] at hu ⊢
  cases hc : σ.cell? ⟨b, o, none⟩ with
  | none =>
    rw [hc] at hu
    obtain ⟨x, hx⟩ := farLoad_none hR ⟨b, o, none⟩ (Mode.plain == .atomic)
    simp only [hx] at hu
    cases hu
  | some v =>
    rw [hc] at hu
    simp only [Result.ok.injEq] at hu
    obtain ⟨rfl, rfl⟩ := hu
    obtain ⟨v', hv', hvr⟩ := hR.cell (hle _ _ e) hc
    exact ⟨β1, v', w, .refl _, by rw [hv'], hR, hvr⟩
theorem sim_store {a a' : Addr} {v v' : Value} (h : PR β a a') (hv : VR β v v') : Sim P B w0 β (store a v) (store a' v') (fun _ _ _ => True) := by
  intro β1 σ w hle hR u σ' hu
  obtain ⟨b, o, bi, e, rfl, rfl⟩ := h
  have hc : ∃ x, σ.cell? ⟨b, o, none⟩ = some x ∧ σ.frozen? ⟨b, o, none⟩ = false ∧ σ' = σ.setCell ⟨b, o, none⟩ v ∧ one1 v = true := by
    unfold store at hu
    cases hc : σ.cell? ⟨b, o, none⟩ with
    | none =>
      obtain ⟨x, hx⟩ := farStore_none hR ⟨b, o, none⟩ v (Mode.plain == .atomic)
      cases v <;> simp [Sem.run, hc, hx] at hu
    | some y =>
      cases hf : σ.frozen? ⟨b, o, none⟩ with
      | true => cases v <;> simp [Sem.run, hc, hf] at hu
      | false => cases v <;> simp [Sem.run, hc, hf] at hu <;> exact ⟨y, rfl, rfl, hu.symm, rfl⟩
  obtain ⟨x, hx, hf, rfl, h1⟩ := hc
  obtain ⟨⟨u', hu'⟩, hf', hR'⟩ := hR.store (hle _ _ e) hx hf (hv.mono hle)
  refine ⟨β1, (), _, .refl _, ?_, hR', trivial⟩
  have h1' : one1 v' = true := by
    cases hv with
    | tok e hv => obtain ⟨n, hn⟩ := tokVal_cases _; rw [hv, hn]; rfl
    | _ => first | rfl | cases h1
  unfold store
  cases v' <;> simp_all [Sem.run, one1]
theorem sim_loadCellsFrom {a a' : Addr} (h : PR β a a') : ∀ (n i : Nat) (acc acc' : Array Value), AR β acc acc' →
    Sim P B w0 β (loadCellsFrom a i n acc) (loadCellsFrom a' i n acc') AR := by
  intro n
  induction n generalizing β with
  | zero => exact fun i acc acc' hacc => Sim.pure fun β1 hle => hacc.mono hle
  | succ n ih => exact fun i acc acc' hacc => Sim.bind (sim_load (h.add i)) fun β1 v v' hle hv => ih (h.mono hle) _ _ _ ((hacc.mono hle).push hv)
theorem sim_loadCells {a a' : Addr} (h : PR β a a') (n : Nat) : Sim P B w0 β (loadCells a n) (loadCells a' n) AR :=
  sim_loadCellsFrom h n 0 _ _ (AR.empty β)
theorem sim_storeCells : ∀ (vs vs' : List Value) {a a' : Addr} (i : Nat), PR β a a' → LR β vs vs' → Sim P B w0 β (storeCells a vs i) (storeCells a' vs' i) (fun _ _ _ => True) := by
  intro vs
  induction vs generalizing β with
  | nil =>
    intro vs' a a' i h hl
    cases vs' with
    | nil => exact Sim.pure fun _ _ => trivial
    | cons x l => exact hl.elim
  | cons x l ih =>
    intro vs' a a' i h hl
    cases vs' with
    | nil => exact hl.elim
    | cons y m => exact Sim.bind (sim_store (h.add i) hl.1) fun β1 _ _ hle _ => ih m (i + 1) (h.mono hle) (LR.mono hle hl.2)
theorem sim_storeVar {a a' : Addr} {v v' : Value} (t : TypeId) (h : PR β a a') (hv : VR β v v') : Sim P B w0 β (storeVar t a v) (storeVar t a' v') (fun _ _ _ => True) := by
  unfold storeVar
  refine Sim.bind (Sim.of_still (still_sizeOf t) (D := fun _ x y => x = y) (fun _ _ => rfl)) fun β1 n m hle hnm => ?_
  subst hnm
  have hc := (hv.mono hle).cells
  rw [← hc.1]
  split
  · exact Sim.stuck
  · exact sim_storeCells _ _ 0 (h.mono hle) hc.lr
theorem sim_newRow {c c' : Array Value} (e : TypeId) (hc : AR β c c') : Sim P B w0 β (newRow e c) (newRow e c') PR := by
  intro β1 σ w hle hR u σ' hu
  have hu' : Result.ok (⟨σ.heap.size, 0, none⟩ : Addr) (σ.alloc (.cells c e)) = .ok u σ' := hu
  simp only [Result.ok.injEq] at hu'
  obtain ⟨rfl, rfl⟩ := hu'
  have hc1 := hc.mono hle
  obtain ⟨bi, hbi⟩ : ∃ bi : BI, bi = ⟨w.heap.size, 0, c.size, ((P.info? e).map (·.size)).getD 0, c'.size⟩ := ⟨_, rfl⟩
  have hput : (β1.put σ.heap.size bi) σ.heap.size = some bi := by unfold Beta.put; rw [if_pos rfl]
  have hOR : OR (β1.put σ.heap.size bi) bi (.cells c e) (.cells c' e) := by
    refine .cells (by rw [hbi]) (by rw [hbi]) (by rw [hbi]; have := hc1.1; simp only; omega) ?_ (.inl ⟨rfl, rfl⟩)
    intro i v hv
    obtain ⟨v', h1, h2⟩ := hc1.get hv
    exact ⟨v', by rw [hbi]; simpa using h1, h2.mono (Beta.le_put hR.fresh)⟩
  subst hbi
  refine ⟨_, ⟨w.heap.size, 0, none⟩, w.alloc (.cells c' e), Beta.le_put hR.fresh, rfl, hR.alloc hOR ?_ rfl, ⟨σ.heap.size, 0, _, hput, rfl, rfl⟩⟩
  intro c2 e2 fz he i hi
  simp only [Obj.cells.injEq] at he
  obtain ⟨_, rfl, _⟩ := he
  simp [hi]
theorem sim_newVar {v v' : Value} (t : TypeId) (hv : VR β v v') : Sim P B w0 β (newVar t v) (newVar t v') PR := sim_newRow t hv.cells
end
end Go.Ideal
namespace Go.Ideal
open Go
theorem selfVR (β : Beta) : ∀ (n : Nat) (v : Value), selfD n v = true → VR β v v
  | n, .bool b, _ => .bool b
  | n, .int k m, _ => .int k m
  | n, .float k m, _ => .float k m
  | n, .complex k m l, _ => .complex k m l
  | n, .string s, _ => .string s
  | n, .nilFunc, _ => .nilFunc
  | n, .nilIface, _ => .nilIface
  | n, .pointer none, _ => .nilPtr
  | n, .slice none 0 0, _ => .nilSlice
  | n, .map none, _ => .nilMap
  | n + 1, .agg cs, h => by
    simp only [selfD, List.all_eq_true] at h
    refine .agg rfl fun i v v' e e' => ?_
    rw [e] at e'
    simp only [Option.some.injEq] at e'
    subst e'
    exact selfVR β n v (h v (by simpa using Array.mem_of_getElem? e))
  | n + 1, .tuple cs, h => by
    simp only [selfD, List.all_eq_true] at h
    refine .tuple rfl fun i v v' e e' => ?_
    rw [e] at e'
    simp only [Option.some.injEq] at e'
    subst e'
    exact selfVR β n v (h v (by simpa using Array.mem_of_getElem? e))
  | n + 1, .iface t v, h => by
    simp only [selfD] at h
    exact .iface t (selfVR β n v h)
  | 0, .agg _, h => by simp [selfD] at h
  | 0, .tuple _, h => by simp [selfD] at h
  | 0, .iface _ _, h => by simp [selfD] at h
  | 0, .pointer (some _), h => by simp [selfD] at h
  | n + 1, .pointer (some _), h => by simp [selfD] at h
  | 0, .slice (some _) _ _, h => by simp [selfD] at h
  | n + 1, .slice (some _) _ _, h => by simp [selfD] at h
  | 0, .slice none (m + 1) _, h => by simp [selfD] at h
  | n + 1, .slice none (m + 1) _, h => by simp [selfD] at h
  | 0, .slice none 0 (c + 1), h => by simp [selfD] at h
  | n + 1, .slice none 0 (c + 1), h => by simp [selfD] at h
  | 0, .map (some _), h => by simp [selfD] at h
  | n + 1, .map (some _), h => by simp [selfD] at h
  | 0, .chan _, h => by simp [selfD] at h
  | n + 1, .chan _, h => by simp [selfD] at h
  | 0, .func _ _ _, h => by simp [selfD] at h
  | n + 1, .func _ _ _, h => by simp [selfD] at h
theorem undefVR (β : Beta) : VR β undef undef := .tuple rfl fun i v v' e => by simp at e
theorem zero_self {P : Program} {t : TypeId} (hz : zeroOk P t = true) {i : TypeInfo} {z : Value} (hi : P.info? t = some i) (h : i.zero = some z) (β : Beta) : VR β z z := by
  unfold zeroOk at hz
  rw [hi] at hz
  simp only [h] at hz
  exact selfVR β 4 z hz
section
variable {P : Program} {B : Nat} {w0 : Base} {β : Beta}
def Never {α : Type} (s : Sem α) (P : Program) : Prop := ∀ σ v σ', s.run P σ ≠ .ok v σ'
theorem never_halt {α : Type} (x : Halt) : Never (.halt x : Sem α) P := fun σ v σ' h => by simp [Sem.run] at h
theorem never_bind {α γ : Type} {s : Sem α} {k : α → Sem γ} (h : ∀ v, Never (k v) P) : Never (s >>= k) P := fun σ v σ' hu => by
  rw [Sem.run_bind] at hu
  cases hs : s.run P σ with
  | halt x y => rw [hs] at hu; cases hu
  | ok u σ1 => rw [hs] at hu; exact h u _ _ _ hu
theorem never_left {α γ : Type} {s : Sem α} {k : α → Sem γ} (h : Never s P) : Never (s >>= k) P := fun σ v σ' hu => by
  rw [Sem.run_bind] at hu
  cases hs : s.run P σ with
  | halt x y => rw [hs] at hu; cases hu
  | ok u σ1 => exact h _ _ _ hs
theorem never_runtimePanic {α : Type} (e : RuntimeError) : Never (runtimePanic e : Sem α) P := by
  unfold runtimePanic
  refine never_bind fun p => ?_
  cases e <;> first
    | exact never_halt _
    | exact never_bind fun _ => never_bind fun _ => never_halt _
    | (simp only []; exact never_halt _)
theorem never_boundsPanic {α : Type} (k : IntKind) (x y : Int) (c : BoundsCode) : Never (boundsPanic k x y c : Sem α) P := by
  unfold boundsPanic
  dsimp only
  split <;> exact never_bind fun _ => never_runtimePanic _
theorem Sim.never {α α' : Type} {s : Sem α} {s' : Sem α'} {A : Beta → α → α' → Prop} (h : Never s P) : Sim P B w0 β s s' A := Sim.of_ne h
theorem Sim.still {α γ γ' : Type} {s : Sem α} (hs : Still s P) {k : α → Sem γ} {k' : α → Sem γ'} {C : Beta → γ → γ' → Prop}
    (h : ∀ v, Sim P B w0 β (k v) (k' v) C) : Sim P B w0 β (s >>= k) (s >>= k') C :=
  Sim.bind (Sim.of_still hs (D := fun _ x y => x = y) (fun _ _ => rfl)) fun _ v v' hle e => by subst e; exact (h v).le hle
theorem sim_zeroValue {t : TypeId} (hz : zeroOk P t = true) : Sim P B w0 β (zeroValue t) (zeroValue t) VR := by
  intro β1 σ w hle hR u σ' hu
  obtain ⟨rfl, hw⟩ := still_zeroValue t σ w u σ' hu
  refine ⟨β1, u, w, .refl _, hw, hR, ?_⟩
  unfold zeroValue typeInfo at hu
  cases hi : P.info? t with
  | none => simp [program, Sem.run, Go.stuck, hi, Result.andThen] at hu
  | some i =>
    cases hzz : i.zero with
    | none => simp [program, Sem.run, Go.unsupported, hi, hzz, Result.andThen] at hu
    | some z =>
      simp [program, Sem.run, hi, hzz, Result.andThen] at hu
      subst hu
      exact zero_self hz hi hzz β1
theorem sim_sureAddr {v v' : Value} (h : VR β v v') : Sim P B w0 β (Instr.sureAddr v) (Instr.sureAddr v') PR := by
  cases h with
  | ptr e => exact Sim.pure fun β1 hle => ⟨_, _, _, hle _ _ e, rfl, rfl⟩
  | _ => exact Sim.stuck
theorem sim_storeAt {v v' x x' : Value} (t : TypeId) (h : VR β v v') (hx : VR β x x') : Sim P B w0 β (Instr.storeAt t v x) (Instr.storeAt t v' x') (fun _ _ _ => True) :=
  Sim.bind (sim_sureAddr h) fun _ _ _ hle hp => sim_storeVar t hp (hx.mono hle)
theorem sim_alloc {t : TypeId} (hz : zeroOk P t = true) : Sim P B w0 β (Instr.alloc t true (.tuple #[])) (Instr.alloc t true (.tuple #[])) VR := by
  unfold Instr.alloc
  refine Sim.bind (sim_zeroValue hz) fun _ _ _ _ hv => ?_
  exact Sim.bind (sim_newVar t hv) fun _ _ _ _ hp => Sim.pure fun β3 hle => (hp.mono hle).vr
theorem sim_box {v v' : Value} (t : TypeId) (h : VR β v v') : Sim P B w0 β (Instr.box t v) (Instr.box t v') VR :=
  Sim.bind (sim_newVar t h) fun _ _ _ _ hp => Sim.pure fun _β3 hle => (hp.mono hle).vr
theorem sim_asIntOf {v v' : Value} (h : VR β v v') : Sim P B w0 β (asIntOf v) (asIntOf v') (fun _ x y => x = y) := by
  cases h with
  | int k n => exact Sim.pure fun _ _ => rfl
  | ptr _ => exact Sim.unsupported
  | _ => exact Sim.stuck
theorem sim_asInt {v v' : Value} (h : VR β v v') : Sim P B w0 β (asInt v) (asInt v') (fun _ x y => x = y) :=
  Sim.bind (sim_asIntOf h) fun _ x y _ e => by subst e; exact Sim.pure fun _ _ => rfl
theorem fieldFit_spec {s : TypeId} {f : Nat} (h : fieldFit P s f = true) : ∃ fields fd i, P.underlying s = some (.struct fields) ∧ fields[f]? = some fd ∧ P.info? fd.type = some i ∧ 0 < i.size := by
  unfold fieldFit at h
  split at h
  · rename_i fields hu
    split at h
    · rename_i fd hf
      split at h
      · rename_i i hi
        exact ⟨fields, fd, i, hu, hf, hi, by simpa using h⟩
      · cases h
    · cases h
  · cases h
theorem run_underlying' {t : TypeId} {d : TypeDesc} (h : P.underlying t = some d) (w : World) : (underlying t).run P w = .ok d w := by
  simp [underlying, program, Sem.run, h, Result.andThen]
theorem run_sizeOf' {t : TypeId} {i : TypeInfo} (h : P.info? t = some i) (w : World) : (sizeOf t).run P w = .ok i.size w := by
  simp [sizeOf, typeInfo, program, Sem.run, h, Result.andThen]
end
end Go.Ideal
namespace Go.Ideal
open Go
def PartR (β : Beta) : List (Nat × Value) → List (Nat × Value) → Prop
  | [], [] => True
  | (i, a) :: l, (j, b) :: m => i = j ∧ VR β a b ∧ PartR β l m
  | _, _ => False
theorem PartR.mono {β β' : Beta} (h : β.le β') : ∀ {l m : List (Nat × Value)}, PartR β l m → PartR β' l m
  | [], [], _ => trivial
  | (_, _) :: _, (_, _) :: _, hl => ⟨hl.1, hl.2.1.mono h, PartR.mono h hl.2.2⟩
  | [], (_, _) :: _, hl => hl.elim
  | (_, _) :: _, [], hl => hl.elim
theorem fold_set {β : Beta} (off : Nat) : ∀ (l m : List Value) (k : Nat) (cs cs' : Array Value), LR β l m → AR β cs cs' →
    AR β ((l.zipIdx k).foldl (fun cs (c, j) => cs.setIfInBounds (off + j) c) cs) ((m.zipIdx k).foldl (fun cs (c, j) => cs.setIfInBounds (off + j) c) cs')
  | [], [], _, _, _, _, h => h
  | _a :: l, _b :: m, k, _cs, _cs', hl, h => fold_set off l m (k + 1) _ _ hl.2 (h.set _ hl.1)
  | [], _ :: _, _, _, _, hl, _ => hl.elim
  | _ :: _, [], _, _, _, hl, _ => hl.elim
theorem fill_rel {β : Beta} (place : Nat → Option (Nat × Nat)) : ∀ (l m : List (Nat × Value)) (cs cs' : Array Value), PartR β l m → AR β cs cs' → ∀ c, Instr.fill place cs l = some c →
    ∃ c', Instr.fill place cs' m = some c' ∧ AR β c c'
  | [], [], cs, cs', _, h, c, e => by
    simp only [Instr.fill, Option.some.injEq] at e ⊢
    subst e; exact ⟨cs', rfl, h⟩
  | (i, a) :: l, (j, b) :: m, cs, cs', hl, h, c, e => by
    obtain ⟨rfl, hv, hl'⟩ := hl
    unfold Instr.fill at e ⊢
    have hcz := hv.cells
    cases hp : place i with
    | none => simp only [hp] at e; cases e
    | some q =>
      obtain ⟨off, size⟩ := q
      simp only [hp] at e ⊢
      rw [← hcz.1, ← h.1]
      split at e
      · cases e
      · rename_i hne
        rw [if_neg hne]
        have hf := fold_set off a.cells.toList b.cells.toList 0 cs cs' hcz.lr h
        refine fill_rel place l m _ _ hl' ?_ c e
        simp only [← Array.foldl_toList, Array.toList_zipIdx]
        exact hf
  | [], (_, _) :: _, _, _, hl, _, _, _ => hl.elim
  | (_, _) :: _, [], _, _, hl, _, _, _ => hl.elim
section
variable {P : Program} {B : Nat} {w0 : Base} {β : Beta}
theorem still_mapM {α γ : Type} {f : α → Sem γ} (hf : ∀ a, Still (f a) P) (l : Array α) : Still (l.mapM f) P := by
  rw [Array.mapM_eq_mapM_toList]
  refine still_bind ?_ fun _ => still_pure _
  induction l.toList with
  | nil => exact still_pure _
  | cons a l ih =>
    rw [List.mapM_cons]
    exact still_bind (hf a) fun _ => still_bind ih fun _ => still_pure _
theorem AR.row {c c' : Array Value} (h : AR β c c') (n : Nat) : AR β ((Array.range n).map (c[· % c.size]!)) ((Array.range n).map (c'[· % c'.size]!)) := by
  refine ⟨by simp, fun i v v' e e' => ?_⟩
  simp only [Array.getElem?_map, Option.map_eq_some_iff] at e e'
  obtain ⟨j, hj, rfl⟩ := e
  obtain ⟨j', hj', rfl⟩ := e'
  rw [hj] at hj'
  simp only [Option.some.injEq] at hj'
  subst hj'
  rw [← h.1]
  by_cases hc : c.size = 0
  · have h0 : c'.size = 0 := by rw [← h.1]; exact hc
    have e0 : c = #[] := Array.eq_empty_of_size_eq_zero hc
    have e1 : c' = #[] := Array.eq_empty_of_size_eq_zero h0
    subst e0; subst e1
    exact .bool false
  · have hlt : j % c.size < c.size := Nat.mod_lt _ (by omega)
    refine h.2 (j % c.size) _ _ ?_ ?_
    · rw [getElem!_pos c _ hlt]; simp [hlt]
    · rw [getElem!_pos c' _ (by rw [← h.1]; exact hlt)]
      rw [Array.getElem?_eq_getElem]
theorem elemOk_slice {t e : TypeId} (h : elemOk P t = true) (hu : P.underlying t = some (.slice e)) : zeroOk P e = true := by
  unfold elemOk at h; rw [hu] at h; exact h
theorem elemOk_map {t k e : TypeId} (h : elemOk P t = true) (hu : P.underlying t = some (.map k e)) : zeroOk P e = true := by
  unfold elemOk at h; rw [hu] at h; exact h
theorem Sim.under {α α' : Type} {t : TypeId} {k : TypeDesc → Sem α} {k' : TypeDesc → Sem α'} {A : Beta → α → α' → Prop}
    (h : ∀ d, P.underlying t = some d → Sim P B w0 β (k d) (k' d) A) : Sim P B w0 β (underlying t >>= k) (underlying t >>= k') A := by
  refine Sim.bind (A := fun _ x y => x = y ∧ P.underlying t = some x) ?_ fun β1 x y hle e => by obtain ⟨rfl, e⟩ := e; exact (h x e).le hle
  intro β1 σ w hle hR u σ' hu
  obtain ⟨rfl, hw⟩ := still_underlying t σ w u σ' hu
  refine ⟨β1, u, w, .refl _, hw, hR, rfl, ?_⟩
  cases hd : P.underlying t with
  | none => simp [underlying, program, Sem.run, hd, Result.andThen, Go.stuck] at hu
  | some d => rw [run_underlying' hd] at hu; simp only [Result.ok.injEq] at hu; rw [hu.1]
theorem sim_newSlice {c c' : Array Value} (e : TypeId) (len cap : Nat) (hlen : len ≤ cap) (hcap : cap < OPEN) (hc : AR β c c') :
    Sim P B w0 β (do pure (.slice (some (← newRow e c)) len cap)) (do pure (.slice (some (← newRow e c')) len cap)) VR :=
  Sim.bind (sim_newRow e hc) fun β1 a a' hle hp => Sim.pure fun β2 hle2 => by
    obtain ⟨b, o, bi, hb, rfl, rfl⟩ := hp
    exact .slice (hle2 _ _ hb) (.inl ⟨hcap, rfl, hlen, .inl rfl⟩)
theorem sim_buildSlice {t : TypeId} (hz : elemOk P t = true) {len : Nat} (hl : len < OPEN) {parts parts' : Array (Nat × Value)} (hp : PartR β parts.toList parts'.toList) :
    Sim P B w0 β (Instr.buildSlice t len parts) (Instr.buildSlice t len parts') VR := by
  unfold Instr.buildSlice
  refine Sim.under fun d hd => ?_
  split
  · rename_i elem
    refine Sim.still (still_sizeOf _) fun size => ?_
    dsimp only
    by_cases hbig : len * size > 2 ^ 24
    · rw [if_pos hbig, if_pos hbig]
      exact Sim.never (never_left (never_halt _))
    · rw [if_neg hbig, if_neg hbig]
      have tail : ∀ {β1 : Beta} {z z' : Array Value}, β.le β1 → AR β1 z z' → Sim P B w0 β1
          (match Instr.fill (fun i => some (i * size, size)) ((Array.range (len * size)).map (z[· % z.size]!)) parts.toList with
            | some cells => do pure (.slice (some (← newRow elem cells)) len len)
            | _ => Go.stuck "buildSlice: a part of the wrong size")
          (match Instr.fill (fun i => some (i * size, size)) ((Array.range (len * size)).map (z'[· % z'.size]!)) parts'.toList with
            | some cells => do pure (.slice (some (← newRow elem cells)) len len)
            | _ => Go.stuck "buildSlice: a part of the wrong size") VR := by
        intro β1 z z' hle hzz
        have key := fill_rel (β := β1) (fun i => some (i * size, size)) parts.toList parts'.toList _ _ (hp.mono hle) (hzz.row (len * size))
        split
        · rename_i cells hc
          obtain ⟨c', h1, h2⟩ := key _ hc
          rw [h1]
          exact sim_newSlice elem len len (Nat.le_refl _) hl h2
        · exact Sim.stuck
      by_cases h0 : len * size = 0
      · rw [if_pos h0, if_pos h0]
        exact Sim.bind (Sim.pure (A := AR) (v := #[]) (v' := #[]) fun β1 _ => AR.empty β1) fun β1 z z' hle hzz => tail hle hzz
      · rw [if_neg h0, if_neg h0]
        exact Sim.bind (sim_zeroValue (elemOk_slice hz hd)) fun β1 z z' hle hzz => Sim.bind (Sim.pure (A := AR) fun β2 hle2 => (hzz.mono hle2).cells) fun β2 y y' hle2 hyy => tail (hle.trans hle2) hyy
  · exact Sim.stuck
end
end Go.Ideal
namespace Go.Ideal
open Go
section
variable {P : Program} {B : Nat} {w0 : Base} {β : Beta}
theorem still_mark (m : Mark) : Still (mark m) P := fun σ w u σ' hu => by
  have hu' : Result.ok () σ = .ok u σ' := hu
  simp only [Result.ok.injEq] at hu'
  exact ⟨hu'.2.symm, rfl⟩
theorem still_askRoom (n : Nat) : Still (askRoom n) P := by
  unfold askRoom
  split
  · exact still_mark _
  · exact still_pure _
theorem sim_makeSlice {t : TypeId} (hz : elemOk P t = true) {l l' c c' : Value} (hl : VR β l l') (hc : VR β c c') (hcap : capFit c = true) :
    Sim P B w0 β (Instr.makeSlice t l c) (Instr.makeSlice t l' c') VR := by
  unfold Instr.makeSlice
  refine Sim.under fun d hd => ?_
  split
  · rename_i elem
    refine Sim.bind (sim_asInt hl) fun β1 n n' hle e => ?_
    subst e
    refine Sim.bind (A := fun _ x y => x = y ∧ IntKind.i64.wrap x < 4611686018427387904) ?_ fun β2 m m' hle2 e => ?_
    · intro β3 σ w hle3 hR u σ' hu
      obtain ⟨β4, v', w', h1, h2, h3, h4⟩ := sim_asInt (hc.mono hle) β3 σ w hle3 hR u σ' hu
      refine ⟨β4, v', w', h1, h2, h3, h4, ?_⟩
      cases hc with
      | int k n =>
        simp [asInt, asIntOf] at hu
        obtain ⟨rfl, _⟩ := hu
        simpa [capFit] using hcap
      | _ => simp [asInt, asIntOf, Result.andThen, Go.stuck, Go.unsupported, Sem.run] at hu
    · obtain ⟨rfl, hm⟩ := e
      refine Sim.still (still_typeInfo _) fun info => ?_
      dsimp only
      split
      · refine Sim.never ?_
        split
        · exact never_left (never_runtimePanic _)
        · split
          · exact never_left (never_runtimePanic _)
          · exact never_bind fun _ => never_left (never_runtimePanic _)
      · rename_i hcond
        simp only [Bool.or_eq_true, decide_eq_true_eq, not_or, Int.not_lt] at hcond
        have hlc : (IntKind.i64.wrap n).toNat ≤ (IntKind.i64.wrap m).toNat := by omega
        have hcO : (IntKind.i64.wrap m).toNat < OPEN := by
          unfold OPEN; omega
        refine Sim.still (still_askRoom _) fun _ => ?_
        refine Sim.still (still_sizeOf _) fun size => ?_
        by_cases h0 : (IntKind.i64.wrap m).toNat * size = 0
        · rw [if_pos h0]
          exact Sim.bind (Sim.pure (A := AR) fun β4 _ => AR.empty β4) fun β4 z z' hle4 hzz => sim_newSlice elem _ _ hlc hcO (hzz.row _)
        · rw [if_neg h0]
          exact Sim.bind (sim_zeroValue (elemOk_slice hz hd)) fun β4 z z' hle4 hzz => Sim.bind (Sim.pure (A := AR) fun β5 hle5 => (hzz.mono hle5).cells) fun β5 y y' hle5 hyy => sim_newSlice elem _ _ hlc hcO (hyy.row _)
  · exact Sim.stuck
theorem sim_getObj {b : Nat} {bi : BI} (hb : β b = some bi) : Sim P B w0 β (getObj b) (getObj bi.r) (fun β o o' => OR β bi o o' ∧ wr o = true) := by
  intro β1 σ w hle hR u σ' hu
  have hb1 := hle _ _ hb
  simp only [getObj, Sem.run] at hu ⊢
  cases ho : σ.heap[b]? with
  | none => simp [ho] at hu
  | some o =>
    rw [ho] at hu
    cases o with
    | cells c e fz => simp at hu
    | _ =>
      simp only [Result.ok.injEq] at hu
      obtain ⟨rfl, rfl⟩ := hu
      obtain ⟨o', ho', hor⟩ := hR.obj _ _ _ ho hb1 rfl
      refine ⟨β1, o', w, .refl _, ?_, hR, hor, rfl⟩
      rw [ho']
      cases hor <;> rfl
end
end Go.Ideal
namespace Go.Ideal
open Go
section
variable {P : Program} {B : Nat} {w0 : Base} {β : Beta}
def StillP {α : Type} (s : Sem α) (P : Program) (Q : α → Prop) : Prop := ∀ σ w v σ', s.run P σ = .ok v σ' → σ' = σ ∧ s.run P w = .ok v w ∧ Q v
theorem StillP.still {α : Type} {s : Sem α} {Q : α → Prop} (h : StillP s P Q) : Still s P := fun σ w v σ' e => let ⟨a, b, _⟩ := h σ w v σ' e; ⟨a, b⟩
theorem stillP_pure {α : Type} {v : α} {Q : α → Prop} (h : Q v) : StillP (Pure.pure v) P Q := fun σ w u σ' hu => by
  simp only [Sem.run_pure, Result.ok.injEq] at hu
  obtain ⟨rfl, rfl⟩ := hu
  exact ⟨rfl, by simp, h⟩
theorem stillP_bind {α γ : Type} {s : Sem α} {k : α → Sem γ} {Q : α → Prop} {Q' : γ → Prop} (h : StillP s P Q) (hk : ∀ v, Q v → StillP (k v) P Q') : StillP (s >>= k) P Q' := fun σ w u σ' hu => by
  rw [Sem.run_bind] at hu
  cases hs : s.run P σ with
  | halt x y => rw [hs] at hu; cases hu
  | ok v σ1 =>
    rw [hs] at hu
    obtain ⟨rfl, hw, hq⟩ := h σ w v σ1 hs
    obtain ⟨rfl, hw2, hq2⟩ := hk v hq σ1 w u σ' hu
    exact ⟨rfl, by rw [Sem.run_bind, hw]; exact hw2, hq2⟩
theorem stillP_halt {α : Type} (x : Halt) {Q : α → Prop} : StillP (.halt x : Sem α) P Q := fun σ w u σ' hu => by simp [Sem.run] at hu
theorem stillP_never {α : Type} {s : Sem α} (h : Never s P) {Q : α → Prop} : StillP s P Q := fun _σ _w _u _σ' hu => absurd hu (h _ _ _)
theorem Still.p {α : Type} {s : Sem α} (h : Still s P) : StillP s P (fun _ => True) := fun σ w v σ' e => let ⟨a, b⟩ := h σ w v σ' e; ⟨a, b, trivial⟩
theorem stillP_under {α : Type} {t : TypeId} {k : TypeDesc → Sem α} {Q : α → Prop} (h : ∀ d, P.underlying t = some d → StillP (k d) P Q) : StillP (underlying t >>= k) P Q := by
  refine stillP_bind (Q := fun d => P.underlying t = some d) ?_ h
  intro σ w u σ' hu
  obtain ⟨rfl, hw⟩ := still_underlying t σ w u σ' hu
  refine ⟨rfl, hw, ?_⟩
  cases hd : P.underlying t with
  | none => simp [underlying, program, Sem.run, hd, Result.andThen, Go.stuck] at hu
  | some d => rw [run_underlying' hd] at hu; simp only [Result.ok.injEq] at hu; rw [hu.1]
theorem still_under {α : Type} {t : TypeId} {k : TypeDesc → Sem α} (h : ∀ d, P.underlying t = some d → Still (k d) P) : Still (underlying t >>= k) P :=
  (stillP_under fun d hd => (h d hd).p).still
theorem groundD_agg {n : Nat} {cs : Array Value} (h : groundD (n + 1) (.agg cs) = true) (i : Nat) (v : Value) (hv : cs[i]? = some v) : groundD n v = true := by
  simp only [groundD, List.all_eq_true] at h
  exact h v (by simpa using Array.mem_of_getElem? hv)
theorem groundD_mono : ∀ (n : Nat) (v : Value), groundD n v = true → groundD (n + 1) v = true
  | n, .bool b, _ => by simp [groundD]
  | n, .int k m, _ => by simp [groundD]
  | n, .float k m, _ => by simp [groundD]
  | n, .complex k m l, _ => by simp [groundD]
  | n, .string s, _ => by simp [groundD]
  | n, .nilFunc, _ => by simp [groundD]
  | n, .nilIface, _ => by simp [groundD]
  | n, .pointer none, _ => by simp [groundD]
  | n, .slice none 0 0, _ => by simp [groundD]
  | n, .map none, _ => by simp [groundD]
  | n + 1, .agg cs, h => by
    simp only [groundD, List.all_eq_true] at h ⊢
    exact fun x hx => groundD_mono n x (h x hx)
  | n + 1, .iface t v, h => by
    simp only [groundD] at h ⊢
    exact groundD_mono n v h
  | 0, .agg _, h => by simp [groundD] at h
  | 0, .iface _ _, h => by simp [groundD] at h
  | 0, .tuple _, h => by simp [groundD] at h
  | n + 1, .tuple _, h => by simp [groundD] at h
  | 0, .pointer (some _), h => by simp [groundD] at h
  | n + 1, .pointer (some _), h => by simp [groundD] at h
  | 0, .slice (some _) _ _, h => by simp [groundD] at h
  | n + 1, .slice (some _) _ _, h => by simp [groundD] at h
  | 0, .slice none (m + 1) _, h => by simp [groundD] at h
  | n + 1, .slice none (m + 1) _, h => by simp [groundD] at h
  | 0, .slice none 0 (c + 1), h => by simp [groundD] at h
  | n + 1, .slice none 0 (c + 1), h => by simp [groundD] at h
  | 0, .map (some _), h => by simp [groundD] at h
  | n + 1, .map (some _), h => by simp [groundD] at h
  | 0, .chan _, h => by simp [groundD] at h
  | n + 1, .chan _, h => by simp [groundD] at h
  | 0, .func _ _ _, h => by simp [groundD] at h
  | n + 1, .func _ _ _, h => by simp [groundD] at h
theorem stillP_part {n : Nat} {cs : Array Value} (h : groundD (n + 1) (.agg cs) = true) (t : TypeId) (off : Nat) : StillP (part t cs off) P (fun v => groundD (n + 1) v = true) := by
  unfold part
  refine stillP_bind (still_isAgg t).p fun x _ => ?_
  cases x with
  | true =>
    simp only [if_true]
    refine stillP_bind (still_sizeOf t).p fun m _ => stillP_pure ?_
    simp only [groundD, List.all_eq_true] at h ⊢
    intro v hv
    obtain ⟨i, hi, rfl⟩ := List.getElem_of_mem hv
    simp only [Array.length_toList] at hi
    refine h _ ?_
    simp only [Array.getElem_toList, Array.getElem_extract]
    simp
  | false =>
    simp only [Bool.false_eq_true, if_false]
    cases hc : cs[off]? with
    | none => exact stillP_halt _
    | some v => exact stillP_pure (groundD_mono n v (groundD_agg h off v hc))
theorem eqTy_struct {n : Nat} {t : TypeId} {fs : Array Field} (h : eqTy P (n + 1) t = true) (hu : P.underlying t = some (.struct fs)) : ∀ f ∈ fs, eqTy P n f.type = true := by
  unfold eqTy at h
  rw [hu] at h
  simp only [Array.all_eq_true] at h
  intro f hf
  obtain ⟨i, hi, rfl⟩ := Array.getElem_of_mem hf
  exact h i hi
theorem still_forIn_mem {α γ : Type} {f : α → γ → Sem (ForInStep γ)} (l : Array α) (hf : ∀ a ∈ l, ∀ b, Still (f a b) P) (b : γ) : Still (forIn l b f) P := by
  rw [← Array.forIn_toList]
  have key : ∀ (L : List α), (∀ a ∈ L, ∀ b, Still (f a b) P) → ∀ b, Still (forIn L b f) P := by
    intro L
    induction L with
    | nil => exact fun _ b => still_pure _
    | cons a L ih =>
      intro h b
      rw [List.forIn_cons]
      refine still_bind (h a (by simp) b) fun x => ?_
      cases x with
      | done b => exact still_pure _
      | yield b => exact ih (fun a ha => h a (by simp [ha])) b
  exact key _ (fun a ha => hf a (by simpa using ha)) b
theorem still_equalIn : ∀ (d m : Nat) (t : TypeId) (x y : Value) (n : Nat), eqTy P m t = true → groundD (n + 1) x = true → groundD (n + 1) y = true → Still (Op.equalIn d t x y) P := by
  intro d
  induction d with
  | zero => intro m t x y n _ _ _; exact still_halt _
  | succ d ih =>
    intro m t x y n hm hx hy
    unfold Op.equalIn
    cases m with
    | zero => simp [eqTy] at hm
    | succ m =>
    refine still_under fun td htd => ?_
    have hm0 := hm
    unfold eqTy at hm
    rw [htd] at hm
    cases td with
    | struct fs =>
      cases x with
      | agg xs =>
        cases y with
        | agg ys =>
          dsimp only
          refine still_bind still_program fun p => ?_
          split
          · exact (stillP_never (never_left (never_halt _)) (Q := fun _ => True)).still
          · refine still_bind (still_forIn_mem _ (fun f hf b => ?_) _) fun r => ?_
            · split
              · refine (stillP_bind (stillP_part hx _ _) fun u hu => stillP_bind (stillP_part hy _ _) fun v hv => ?_).still (Q := fun _ => True)
                refine (still_bind (ih m f.type u v n (eqTy_struct hm0 htd f hf) hu hv) fun e => ?_).p
                split <;> exact still_pure _
              · exact still_pure _
            · split <;> exact still_pure _
        | _ => exact still_halt _
      | _ => exact still_halt _
    | bool => cases x <;> first | exact still_halt _ | (cases y <;> first | exact still_halt _ | exact still_pure _)
    | string => cases x <;> first | exact still_halt _ | (cases y <;> first | exact still_halt _ | exact still_pure _)
    | int k =>
      cases x with
      | int k1 a =>
        cases y with
        | int k2 b =>
          dsimp only
          split
          · exact still_pure _
          · exact still_halt _
        | pointer p =>
          cases p with
          | some _ => simp [groundD] at hy
          | none => exact still_halt _
        | _ => exact still_halt _
      | pointer p =>
        cases p with
        | some _ => simp [groundD] at hx
        | none =>
          cases y with
          | pointer q =>
            cases q with
            | some _ => simp [groundD] at hy
            | none => exact still_halt _
          | _ => exact still_halt _
      | _ => cases y <;> exact still_halt _
    | pointer e =>
      cases x with
      | pointer p =>
        cases p with
        | some _ => simp [groundD] at hx
        | none => cases y <;> first | exact still_halt _ | exact still_pure _
      | _ => exact still_halt _
    | slice e =>
      cases x with
      | slice p l c =>
        cases p with
        | some _ => simp [groundD] at hx
        | none => cases y <;> first | exact still_halt _ | exact still_pure _
      | _ => exact still_halt _
    | map k e =>
      cases x with
      | map p =>
        cases p with
        | some _ => simp [groundD] at hx
        | none => cases y <;> first | exact still_halt _ | exact still_pure _
      | _ => exact still_halt _
    | func a b c => cases x <;> first | exact still_halt _ | (cases y <;> first | exact still_halt _ | exact still_pure _)
    | _ => simp at hm
end
end Go.Ideal
