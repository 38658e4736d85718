/-
  Code in small words: operations with all that the types say looked up ahead; registers as a function. What a run of the small words comes to the ideal run comes to.
-/
import Derived.Test.YtplcocifndpplaaJd
namespace Go.Ideal
open Go

abbrev Env := Nat → Value
def Env.of (a : Array Value) : Env := fun i => a.getD i undef
def Env.put (ρ : Env) : Option Nat → Value → Env
  | none, _ => ρ
  | some d, v => fun i => if i = d then v else ρ i
def ev (ρ : Env) : Operand → Value
  | .tmp t => ρ t
  | .const v => v
  | .global g => .pointer (some ⟨g, 0, none⟩)
  | .func f => .func (.func f) #[] #[]

abbrev Regs := Operand → Value

inductive SOp where
  | move (x : Operand)
  | box (e : TypeId) (x : Operand)
  | zero (e : TypeId) (z : Array Value)
  | build (ps : Array (Nat × Nat)) (z : Array Value) (parts : List (Nat × Operand))
  | row (e : TypeId) (size len : Nat) (z : Array Value) (parts : List (Nat × Operand))
  | load (n : Option Nat) (a : Operand)
  | store (n : Nat) (a x : Operand)
  | nonnil (x : Operand)
  | bin (op : BinOp) (t : TypeId) (x y : Operand)
  | un (op : UnOp) (x : Operand)
  | faddr (off : Nat) (x : Operand)
  | part (n : Option Nat) (off : Nat) (x : Operand)
  | iaddr (size : Nat) (x ix : Operand)
  | extract (x : Operand) (i : Nat)
  | len (x : Operand)
  | lenMap (x : Operand)
  | slice (e : TypeId) (size : Nat) (x : Operand) (lo hi mx : Option Operand)
  | append (e : TypeId) (size bytes : Nat) (s x : Operand)
  | lookup (k : IntKind) (z : Value) (x ix : Operand) (ok : Bool)
  | update (k : IntKind) (m ix v : Operand)
  | delete (k : IntKind) (m ix : Operand)
  | makeMap
  | pick (c a b : Operand)
  | conv (k : IntKind) (x : Operand)
  | imax (x y : Operand)
  | fn (f : FuncId) (cap : Array Operand)
  | call (f : FuncId) (args : Array Operand)
  | callv (x : Operand) (args : Array Operand)
  | raw (op : Op) (t : TypeId)

/-! ### What the small words do -/
def cellsOf? (w : World) (b : Nat) : Option (Array Value × TypeId × (Nat × Nat)) :=
  match w.heap[b]? with
  | some (.cells c e fz) => some (c, e, fz)
  | _ => none
def mapOf? (w : World) (b : Nat) : Option (Array MapEntry × Nat) :=
  match w.heap[b]? with
  | some (.map es n) => some (es, n)
  | _ => none

def World.set (w : World) (b : Nat) (o : Obj) : World := { w with heap := w.heap.setIfInBounds b o }
def World.push (w : World) (o : Obj) : World := { w with heap := w.heap.push o }

def putCells (c : Array Value) (o : Nat) : List Value → Array Value
  | [] => c
  | v :: l => putCells (c.setIfInBounds o v) (o + 1) l

def loadS (n : Option Nat) (a : Value) (w : World) : T (Value × World) :=
  match a with
  | .pointer (some ⟨b, o, none⟩) =>
    match cellsOf? w b with
    | some (c, _, _) =>
      match n with
      | none => match c[o]? with
        | some v => .ret (v, w)
        | none => .bad
      | some n => if o + n ≤ c.size then .ret (.agg (c.extract o (o + n)), w) else .bad
    | none => .bad
  | _ => .bad

def storeS (n : Nat) (a x : Value) (w : World) : T (Value × World) :=
  match a with
  | .pointer (some ⟨b, o, none⟩) =>
    match cellsOf? w b with
    | some (c, e, (0, 0)) =>
      if x.cells.size = n ∧ o + n ≤ c.size ∧ x.cells.toList.all one1 = true then .ret (undef, World.set w b (.cells (putCells c o x.cells.toList) e)) else .bad
    | _ => .bad
  | _ => .bad

def arith (op : BinOp) (k : IntKind) (a b : Int) : T Value :=
  match op with
  | .add => .ret (.int k (k.wrap (a + b)))
  | .sub => .ret (.int k (k.wrap (a - b)))
  | .mul => .ret (.int k (k.wrap (a * b)))
  | .quo => if b = 0 then .bad else .ret (.int k (k.wrap (a.tdiv b)))
  | .rem => if b = 0 then .bad else .ret (.int k (a.tmod b))
  | .eql => .ret (.bool (decide (a = b)))
  | .neq => .ret (.bool (!decide (a = b)))
  | .lss => .ret (.bool (decide (a < b)))
  | .leq => .ret (.bool (decide (a ≤ b)))
  | .gtr => .ret (.bool (decide (b < a)))
  | .geq => .ret (.bool (decide (b ≤ a)))
  | .shl => if b < 0 then .bad else .ret (.int k (k.wrap (a * 2 ^ (min b.toNat k.bits))))
  | .shr => if b < 0 then .bad else .ret (.int k (a.fdiv (2 ^ (min b.toNat k.bits))))
  | .and => .ret (.int k (k.wrap (BitVec.ofInt k.bits a &&& BitVec.ofInt k.bits b).toNat))
  | .andNot => .ret (.int k (k.wrap (BitVec.ofInt k.bits a &&& ~~~ BitVec.ofInt k.bits b).toNat))
  | _ => .bad

def binS (P : Program) (op : BinOp) (t : TypeId) (o1 o2 : Operand) (x y : Value) (w : World) : T (Value × World) :=
  match x, y with
  | .int k a, .int j b => if (op = .shl ∨ op = .shr) ∨ k = j then (arith op k a b).bind fun v => .ret (v, w) else .bad
  | x, y =>
    if binFit P op t x y then ofRun ((do eqGuard op t o1 o2 x y; binOp op t x y : Sem Value).run P w) else .bad


def fillS (ps : Array (Nat × Nat)) (z : Array Value) (parts : List (Nat × Value)) (w : World) : T (Value × World) :=
  match Instr.fill (fun i => ps[i]?) z parts with
  | some cs => .ret (.agg cs, w)
  | none => .bad

def rowS (e : TypeId) (size len : Nat) (z : Array Value) (parts : List (Nat × Value)) (w : World) : T (Value × World) :=
  match Instr.fill (fun i => some (i * size, size)) z parts with
  | some cs => .ret (.slice (some ⟨w.heap.size, 0, none⟩) len len, World.push w (.cells cs e))
  | none => .bad

def faddrS (off : Nat) (x : Value) (w : World) : T (Value × World) :=
  match x with
  | .pointer (some ⟨b, o, none⟩) => .ret (.pointer (some ⟨b, o + off, none⟩), w)
  | _ => .bad

def partS (n : Option Nat) (off : Nat) (x : Value) (w : World) : T (Value × World) :=
  match x with
  | .agg cs =>
    match n with
    | none => match cs[off]? with
      | some v => .ret (v, w)
      | none => .bad
    | some n => .ret (.agg (cs.extract off (off + n)), w)
  | _ => .bad

def iaddrS (size : Nat) (x ix : Value) (w : World) : T (Value × World) :=
  match x, ix with
  | .slice (some ⟨b, o, none⟩) len _, .int _ i => if 0 ≤ i ∧ i < len then .ret (.pointer (some ⟨b, o + i.toNat * size, none⟩), w) else .bad
  | _, _ => .bad

def extractS (x : Value) (i : Nat) (w : World) : T (Value × World) :=
  match x with
  | .tuple vs => match vs[i]? with
    | some v => .ret (v, w)
    | none => .bad
  | _ => .bad

def lenS (x : Value) (w : World) : T (Value × World) :=
  match x with
  | .slice _ n _ => .ret (.int .i64 (n : Int), w)
  | _ => .bad

def lenMapS (x : Value) (w : World) : T (Value × World) :=
  match x with
  | .map none => .ret (.int .i64 0, w)
  | .map (some r) => match mapOf? w r with
    | some (es, _) => .ret (.int .i64 (es.size : Int), w)
    | none => .bad
  | _ => .bad

def intO (v : Option Value) (d : Int) : Option Int :=
  match v with
  | none => some d
  | some (.int _ i) => some i
  | _ => none

def sliceS (e : TypeId) (size : Nat) (x : Value) (lo hi mx : Option Value) (w : World) : T (Value × World) :=
  match x with
  | .slice base len cap =>
    match intO lo 0, intO hi len, intO mx cap with
    | some l, some h, some m =>
      if cap < OPEN then
        if 0 ≤ l ∧ l ≤ h ∧ h ≤ m ∧ m ≤ cap ∧ (mx.isSome = true → hi.isSome = true) then
          .ret (.slice (if m.toNat = l.toNat then base else base.map (·.add (l.toNat * size))) (h.toNat - l.toNat) (m.toNat - l.toNat), w)
        else .bad
      else match base with
        | some ⟨b, o, none⟩ =>
          match cellsOf? w b with
          | some (c, e', (0, 0)) =>
            if cap = OPEN ∧ e' = e ∧ 0 < size ∧ 0 ≤ l ∧ l ≤ h then
              if mx = none then
                if h ≤ len then .ret (.slice (some ⟨b, o + l.toNat * size, none⟩) (h.toNat - l.toNat) OPEN, w) else .bad
              else if h ≤ m ∧ o + m.toNat * size ≤ c.size ∧ hi.isSome = true ∧ m.toNat < OPEN then
                .ret (.slice (some (if m.toNat = l.toNat then ⟨b, o, none⟩ else ⟨b, o + l.toNat * size, none⟩)) (h.toNat - l.toNat) (m.toNat - l.toNat), w)
              else .bad
            else .bad
          | _ => .bad
        | _ => .bad
    | _, _, _ => .bad
  | _ => .bad

def firstS (size n : Nat) (x : Option Addr) (w : World) : Option (Array Value) :=
  match x with
  | none => some #[]
  | some ⟨b, o, none⟩ =>
    match cellsOf? w b with
    | some (c, _, _) => if o + n * size ≤ c.size then some (c.extract o (o + n * size)) else none
    | none => none
  | _ => none

/-- A new row behind what is there. -/
def growS (e : TypeId) (old new : Array Value) (need : Nat) (w : World) : Value × World :=
  (.slice (some ⟨w.heap.size, 0, none⟩) need OPEN, World.push w (.cells (old ++ new) e))

def appendS (e : TypeId) (size bytes : Nat) (s x : Value) (w : World) : T (Value × World) :=
  match s, x with
  | .slice base sLen sCap, .slice xb n _ =>
    if (sLen + n) * bytes ≤ 70368744177664 then
      match firstS size n xb w with
      | some new =>
        if new.toList.all one1 = true then
          if sCap < OPEN then
            if sLen + n ≤ sCap then
              match base with
              | some ⟨b, o, none⟩ =>
                match cellsOf? w b with
                | some (c, e', (0, 0)) =>
                  if o + sLen * size + new.size ≤ c.size then .ret (.slice base (sLen + n) sCap, World.set w b (.cells (putCells c (o + sLen * size) new.toList) e')) else .bad
                | _ => .bad
              | none => .ret (.slice none (sLen + n) sCap, w)
              | _ => .bad
            else
              match firstS size sLen base w with
              | some old => .ret (growS e old new (sLen + n) w)
              | none => .bad
          else
            match base with
            | some ⟨b, o, none⟩ =>
              match cellsOf? w b with
              | some (c, e', (0, 0)) =>
                if sCap = OPEN ∧ e' = e then
                  if o + (sLen + n) * size ≤ c.size then .ret (.slice base (sLen + n) OPEN, World.set w b (.cells (putCells c (o + sLen * size) new.toList) e'))
                  else if sLen + n = 0 then .bad
                  else if o + sLen * size ≤ c.size then .ret ((growS e (c.extract o (o + sLen * size)) new (sLen + n) w).1, kill (growS e (c.extract o (o + sLen * size)) new (sLen + n) w).2 b)
                  else .bad
                else .bad
              | _ => .bad
            | _ => .bad
        else .bad
      | none => .bad
    else .bad
  | _, _ => .bad

def lookupS (k : IntKind) (z x ix : Value) (ok : Bool) (w : World) : T (Value × World) :=
  match ix with
  | .int j i =>
    if j = k then
      match x with
      | .map none => .ret (if ok then .tuple #[z, .bool false] else z, w)
      | .map (some r) =>
        match mapOf? w r with
        | some (es, _) =>
          match Instr.findNow (.int k) (.int k i) es.toList 0 with
          | some (some (_, v)) => .ret (if ok then .tuple #[v, .bool true] else v, w)
          | some none => .ret (if ok then .tuple #[z, .bool false] else z, w)
          | none => .bad
        | none => .bad
      | _ => .bad
    else .bad
  | _ => .bad

def updateS (k : IntKind) (m ix v : Value) (w : World) : T (Value × World) :=
  match ix, m with
  | .int j i, .map (some r) =>
    if j = k then
      match mapOf? w r with
      | some (es, clock) =>
        match Instr.findNow (.int k) (.int k i) es.toList 0 with
        | some (some (p, _)) => .ret (undef, World.set w r (.map (es.modify p fun e => { e with key := .int k i, val := v }) clock))
        | some none => .ret (undef, World.set w r (.map (es.push { key := .int k i, val := v, born := clock }) (clock + 1)))
        | none => .bad
      | none => .bad
    else .bad
  | _, _ => .bad

def deleteS (k : IntKind) (m ix : Value) (w : World) : T (Value × World) :=
  match ix, m with
  | .int j i, .map (some r) =>
    if j = k then
      match mapOf? w r with
      | some (es, clock) =>
        match Instr.findNow (.int k) (.int k i) es.toList 0 with
        | some (some (p, _)) => .ret (.tuple #[], World.set w r (.map (es.eraseIdxIfInBounds p) clock))
        | some none => .ret (.tuple #[], World.set w r (.map es clock))
        | none => .bad
      | none => .bad
    else .bad
  | _, _ => .bad

/-- A call of a function value. -/
def callV (P : Program) (K : Kont) (x : Value) (args : Array Value) (w : World) : T (Value × World) :=
  match x with
  | .func (.func g) first cap => if first.size = 0 ∧ (P.funcs[g]?).any (fun fn => fn.body.isSome && fn.name != "runtime.NumGoroutine") = true then K.enter g (args ++ cap) w else .bad
  | .func (.yield l) first _ =>
    match w.heap[l]? with
    | some (.loop r) => if first.size = 0 ∧ args.size = r.params.size then K.round l r.fn ((r.params.zip args).foldl (fun tmps (t, a) => tmps.setIfInBounds t a) r.tmps) r.assign r.body w else .bad
    | _ => .bad
  | _ => .bad

def partsOf (ρ : Regs) (l : List (Nat × Operand)) : List (Nat × Value) := l.map fun p => (p.1, ρ p.2)

def sone (P : Program) (K : Kont) (ρ : Regs) (w : World) : SOp → T (Value × World)
  | .move x => .ret (ρ x, w)
  | .box e x => .ret (.pointer (some ⟨w.heap.size, 0, none⟩), World.push w (.cells (ρ x).cells e))
  | .zero e z => .ret (.pointer (some ⟨w.heap.size, 0, none⟩), World.push w (.cells z e))
  | .build ps z parts => fillS ps z (partsOf ρ parts) w
  | .row e size len z parts => rowS e size len z (partsOf ρ parts) w
  | .load n a => loadS n (ρ a) w
  | .store n a x => storeS n (ρ a) (ρ x) w
  | .nonnil x => match ρ x with
    | .pointer (some a) => .ret (.pointer (some a), w)
    | _ => .bad
  | .bin op t x y => binS P op t x y (ρ x) (ρ y) w
  | .un op x => match op, ρ x with
    | .not, .bool b => .ret (.bool !b, w)
    | .neg, .int k n => .ret (.int k (k.wrap (0 - n)), w)
    | _, _ => .bad
  | .faddr off x => faddrS off (ρ x) w
  | .part n off x => partS n off (ρ x) w
  | .iaddr size x ix => iaddrS size (ρ x) (ρ ix) w
  | .extract x i => extractS (ρ x) i w
  | .len x => lenS (ρ x) w
  | .lenMap x => lenMapS (ρ x) w
  | .slice e size x lo hi mx => sliceS e size (ρ x) (lo.map ρ) (hi.map ρ) (mx.map ρ) w
  | .append e size bytes s x => appendS e size bytes (ρ s) (ρ x) w
  | .lookup k z x ix ok => lookupS k z (ρ x) (ρ ix) ok w
  | .update k m ix v => updateS k (ρ m) (ρ ix) (ρ v) w
  | .delete k m ix => deleteS k (ρ m) (ρ ix) w
  | .makeMap => .ret (.map (some w.heap.size), World.push w (.map #[] 0))
  | .pick c a b => match ρ c with
    | .bool x => .ret (if x then ρ a else ρ b, w)
    | _ => .bad
  | .conv k x => match ρ x with
    | .int _ n => .ret (.int k (k.wrap n), w)
    | _ => .bad
  | .imax x y => match ρ x, ρ y with
    | .int k a, .int j b => if k = j then .ret (.int k (if b > a then b else a), w) else .bad
    | _, _ => .bad
  | .fn f cap => .ret (.func (.func f) #[] (cap.map ρ), w)
  | .call f args => K.enter f (args.map ρ) w
  | .callv x args => callV P K (ρ x) (args.map ρ) w
  | .raw op t => pval K (pstep P ρ op t w)

/-! ### Looked up ahead -/
def aggOf (P : Program) (t : TypeId) : Option (Option Nat) :=
  match P.underlying t, P.info? t with
  | some (.struct _), some i => some (some i.size)
  | some (.array _ _), some i => some (some i.size)
  | some _, some _ => some none
  | _, _ => none

def placesOf (P : Program) (fs : Array Field) : Option (Array (Nat × Nat)) := fs.mapM fun f => (P.info? f.type).map fun i => (f.offset, i.size)

def lowOp (P : Program) (op : Op) : Option SOp :=
  match op with
  | .move x | .assign x => some (.move x)
  | .load t a => (aggOf P t).map fun n => .load n a
  | .store t a x => (P.info? t).map fun i => .store i.size a x
  | .box e x => some (.box e x)
  | .alloc e => match P.info? e with
    | some i => match i.zero with
      | some z => if selfD 4 z then some (.zero e z.cells) else none
      | none => none
    | none => none
  | .build t parts => match P.underlying t, P.info? t with
    | some (.struct fs), some i => match i.zero, placesOf P fs with
      | some z, some ps => if selfD 4 z then some (.build ps z.cells parts.toList) else none
      | _, _ => none
    | _, _ => none
  | .nilCheck x => some (.nonnil x)
  | .binOp op t x y _ => some (.bin op t x y)
  | .unOp op _ x => some (.un op x)
  | .fieldAddr s x f => match P.underlying s with
    | some (.struct fs) => match fs[f]? with
      | some fd => match P.info? fd.type with
        | some i => if 0 < i.size then some (.faddr fd.offset x) else none
        | none => none
      | none => none
    | _ => none
  | .field t x f => match P.underlying t with
    | some (.struct fs) => match fs[f]? with
      | some fd => (aggOf P fd.type).map fun n => .part n fd.offset x
      | none => none
    | _ => none
  | .indexAddr t x ix => match P.underlying t with
    | some (.slice e) => (P.info? e).map fun i => .iaddr i.size x ix
    | _ => none
  | .extract x i => some (.extract x i)
  | .buildSlice t len parts => match P.underlying t with
    | some (.slice e) => match P.info? e with
      | some i => match i.zero with
        | some z => if selfD 4 z && decide (len < 1000000) && decide (len * i.size ≤ 16777216) then some (.row e i.size len ((Array.range (len * i.size)).map (z.cells[· % z.cells.size]!)) parts.toList) else none
        | none => none
      | none => none
    | _ => none
  | .call { callee := .builtin .len, args, argTypes, .. } => match argTypes[0]?, args[0]? with
    | some t, some x => match P.underlying t with
      | some (.slice _) => some (.len x)
      | some (.map _ _) => some (.lenMap x)
      | _ => none
    | _, _ => none
  | .call { callee := .value (.func g), args, .. } => if (P.funcs[g]?).any fun fn => fn.body.isSome && fn.name != "runtime.NumGoroutine" then some (.call g args) else none
  | .call { callee := .value (.tmp t), args, .. } => some (.callv (.tmp t) args)
  | .slice t x lo hi mx => match P.underlying t with
    | some (.slice e) => (P.info? e).map fun i => .slice e i.size x lo hi mx
    | _ => none
  | .call { callee := .builtin .append, args, argTypes, .. } => match argTypes[0]?, argTypes[1]?, args[0]?, args[1]? with
    | some sT, some xT, some s, some x => match P.underlying sT, P.underlying xT with
      | some (.slice e), some (.slice _) => match P.info? e with
        | some i => if 0 < i.size ∧ 0 < i.bytes ∧ zeroFits i = true then some (.append e i.size i.bytes s x) else none
        | none => none
      | _, _ => none
    | _, _, _, _ => none
  | .lookup t x k ok => match P.underlying t with
    | some (.map kt et) => match P.underlying kt, P.info? et with
      | some (.int kk), some i => match i.zero with
        | some z => if selfD 4 z then some (.lookup kk z x k ok) else none
        | none => none
      | _, _ => none
    | _ => none
  | .mapUpdate t m k v => match P.underlying t with
    | some (.map kt _) => match P.underlying kt with
      | some (.int kk) => some (.update kk m k v)
      | _ => none
    | _ => none
  | .call { callee := .builtin .delete, args, argTypes, .. } => match argTypes[0]?, args[0]?, args[1]? with
    | some t, some m, some k => match P.underlying t with
      | some (.map kt _) => match P.underlying kt with
        | some (.int kk) => some (.delete kk m k)
        | _ => none
      | _ => none
    | _, _, _ => none
  | .makeMap _ none => some .makeMap
  | .pick c a b => some (.pick c a b)
  | .convert src dst x => match P.underlying src, P.underlying dst with
    | some _, some (.int k) => some (.conv k x)
    | _, _ => none
  | .call { callee := .builtin .max, args, .. } => match args.toList with
    | [x, y] => some (.imax x y)
    | _ => none
  | .makeFunc (.func f) first cap => if first.isEmpty then some (.fn f cap) else none
  | _ => none

/-! ### The small words do as the words do -/
section
variable {P : Program} {K : Kont} {w w' : World}

theorem pv {s : Sem Value} {v : Value} (h : s.run P w = .ok v w') : pval K (ofRun ((do let x ← s; pure (Next.value x) : Sem Next).run P w)) = .ret (v, w') := by
  simp [pval, ofRun, Sem.run_bind, h, Result.andThen, T.bind]
theorem pu {s : Sem Unit} (h : s.run P w = .ok () w') : pval K (ofRun ((do s; pure Next.skip : Sem Next).run P w)) = .ret (undef, w') := by
  simp [pval, ofRun, Sem.run_bind, h, Result.andThen, T.bind]

theorem cellsOf?_spec {b : Nat} {c : Array Value} {e : TypeId} {fz : Nat × Nat} (h : cellsOf? w b = some (c, e, fz)) : w.heap[b]? = some (.cells c e fz) := by
  unfold cellsOf? at h
  split at h
  · rename_i hh; simp only [Option.some.injEq, Prod.mk.injEq] at h; obtain ⟨rfl, rfl, rfl⟩ := h; exact hh
  · cases h
theorem mapOf?_spec {b : Nat} {c : Array MapEntry} {n : Nat} (h : mapOf? w b = some (c, n)) : w.heap[b]? = some (.map c n) := by
  unfold mapOf? at h
  split at h
  · rename_i hh; simp only [Option.some.injEq, Prod.mk.injEq] at h; obtain ⟨rfl, rfl⟩ := h; exact hh
  · cases h

theorem run_aggOf {t : TypeId} {n : Option Nat} (h : aggOf P t = some n) : (isAgg t).run P w = .ok n.isSome w ∧ ∀ k, n = some k → (sizeOf t).run P w = .ok k w := by
  unfold aggOf at h
  split at h
  · rename_i fs i hu hi
    simp only [Option.some.injEq] at h; subst h
    exact ⟨by simp [isAgg, Sem.run_bind, run_underlying' hu, Result.andThen], fun k hk => by simp only [Option.some.injEq] at hk; subst hk; exact run_sizeOf' hi w⟩
  · rename_i l e i hu hi
    simp only [Option.some.injEq] at h; subst h
    exact ⟨by simp [isAgg, Sem.run_bind, run_underlying' hu, Result.andThen], fun k hk => by simp only [Option.some.injEq] at hk; subst hk; exact run_sizeOf' hi w⟩
  · rename_i d i h1 h2 hu hi
    simp only [Option.some.injEq] at h; subst h
    refine ⟨?_, fun k hk => by cases hk⟩
    cases d <;> first | (simp [isAgg, Sem.run_bind, run_underlying' hu, Result.andThen]; done) | exact absurd rfl (h1 _) | exact absurd rfl (h2 _ _)
  · cases h

theorem run_loadCells {b o : Nat} {c : Array Value} {e : TypeId} {fz : Nat × Nat} (h : w.heap[b]? = some (.cells c e fz)) : ∀ (n i : Nat) (acc : Array Value), o + i + n ≤ c.size →
    (loadCellsFrom ⟨b, o, none⟩ i n acc).run P w = .ok (acc ++ c.extract (o + i) (o + i + n)) w
  | 0, i, acc, _ => by simp [loadCellsFrom]; omega
  | n + 1, i, acc, hn => by
    have hlt : o + i < c.size := by omega
    have hc : w.cell? ⟨b, o + i, none⟩ = some c[o + i] := by simp [World.cell?, h, hlt]
    unfold loadCellsFrom
    rw [Addr.add_off]
    simp only [Sem.run_bind, run_load, hc, Result.andThen]
    rw [run_loadCells h n (i + 1) _ (by omega)]
    congr 1
    rw [Array.push_eq_append, Array.append_assoc]
    congr 1
    apply Array.ext'
    simp only [Array.toList_append, Array.toList_extract, List.extract_eq_take_drop]
    rw [show o + (i + 1) + n - (o + (i + 1)) = n by omega, show o + i + (n + 1) - (o + i) = n + 1 by omega]
    rw [List.drop_eq_getElem_cons (i := o + i) (by simpa using hlt), List.take_succ_cons]
    simp [show o + (i + 1) = o + i + 1 by omega]

theorem World.set_self {w : World} {b : Nat} {o : Obj} (h : w.heap[b]? = some o) : World.set w b o = w := by
  have hb : b < w.heap.size := (Array.getElem?_eq_some_iff.1 h).1
  have hv : w.heap[b] = o := (Array.getElem?_eq_some_iff.1 h).2
  have : w.heap.setIfInBounds b o = w.heap := by
    apply Array.ext (by simp)
    intro j h1 h2
    rw [Array.getElem_setIfInBounds (by simpa using h1)]
    split
    · rename_i hj; subst hj; exact hv.symm
    · rfl
  unfold World.set
  rw [this]

theorem World.set_set (w : World) (b : Nat) (x y : Obj) : World.set (World.set w b x) b y = World.set w b y := by
  simp [World.set]

theorem run_storeCells {b o : Nat} {e : TypeId} : ∀ (vs : List Value) (i : Nat) (c : Array Value) (w : World), w.heap[b]? = some (.cells c e (0, 0)) → o + i + vs.length ≤ c.size → vs.all one1 = true →
    (storeCells ⟨b, o, none⟩ vs i).run P w = .ok () (if vs = [] then w else World.set w b (.cells (putCells c (o + i) vs) e))
  | [], _, _, _, _, _, _ => by simp [storeCells]
  | v :: vs, i, c, w, h, hn, h1 => by
    simp only [List.all_cons, Bool.and_eq_true] at h1
    simp only [List.length_cons] at hn
    have hlt : o + i < c.size := by omega
    have hc : w.cell? ⟨b, o + i, none⟩ = some c[o + i] := by simp [World.cell?, h, hlt]
    have hf : w.frozen? ⟨b, o + i, none⟩ = false := by simp [World.frozen?, h]
    have hs : w.setCell ⟨b, o + i, none⟩ v = World.set w b (.cells (c.setIfInBounds (o + i) v) e) := by
      unfold World.setCell World.set
      congr 1
      have hb : b < w.heap.size := (Array.getElem?_eq_some_iff.1 h).1
      have hv : w.heap[b] = .cells c e (0, 0) := (Array.getElem?_eq_some_iff.1 h).2
      apply Array.ext (by simp)
      intro j h1 h2
      rw [Array.getElem_modify, Array.getElem_setIfInBounds (by simpa using h2)]
      by_cases hj : b = j
      · subst hj; simp [hv]
      · simp [hj]
    have hv1 : v.oneCell' = true := by cases v <;> simp_all [one1, Value.oneCell']
    unfold storeCells
    rw [Addr.add_off]
    simp only [Sem.run_bind, run_store P w _ v _ hv1, hc, hf, Bool.false_eq_true, if_false, Result.andThen, hs]
    have hb : b < w.heap.size := (Array.getElem?_eq_some_iff.1 h).1
    rw [run_storeCells (e := e) vs (i + 1) (c.setIfInBounds (o + i) v) _ (by simp [World.set, hb]) (by simp; omega) h1.2]
    simp only [reduceCtorEq, if_false, putCells]
    by_cases he : vs = []
    · subst he; simp [putCells]
    · rw [if_neg he, World.set_set]; rfl
end
end Go.Ideal
