/-
  Code in small words: operations with all that the types say looked up ahead; registers as a function. What a run of the small words comes to the ideal run comes to.
-/
import Derived.Test.YteljibbnpheekaaGreatIx
namespace Go.Ideal
open Go
abbrev Env := Nat → Value
def Env.of (a : Array Value) : Env := fun i => a.getD i undef
def Env.put (ρ : Env) : Option Nat → Value → Env
  | none, _ => ρ
  | some d, v => fun i => if i = d then v else ρ i
def ev (ρ : Env) : Operand → Value
  | .tmp t => ρ t
  | .const v => v
  | .global g => .pointer (some ⟨g, 0, none⟩)
  | .func f => .func (.func f) #[] #[]
abbrev Regs := Operand → Value
inductive SOp where
  | move (x : Operand)
  | box (e : TypeId) (x : Operand)
  | zero (e : TypeId) (z : Array Value)
  | build (ps : Array (Nat × Nat)) (z : Array Value) (parts : List (Nat × Operand))
  | row (e : TypeId) (size len : Nat) (z : Array Value) (parts : List (Nat × Operand))
  | load (n : Option Nat) (a : Operand)
  | store (n : Nat) (a x : Operand)
  | nonnil (x : Operand)
  | bin (op : BinOp) (t : TypeId) (x y : Operand)
  | un (op : UnOp) (x : Operand)
  | faddr (off : Nat) (x : Operand)
  | part (n : Option Nat) (off : Nat) (x : Operand)
  | iaddr (size : Nat) (x ix : Operand)
  | extract (x : Operand) (i : Nat)
  | len (x : Operand)
  | lenMap (x : Operand)
  | slice (e : TypeId) (size : Nat) (x : Operand) (lo hi mx : Option Operand)
  | append (e : TypeId) (size bytes : Nat) (s x : Operand)
  | lookup (k : IntKind) (z : Value) (x ix : Operand) (ok : Bool)
  | update (k : IntKind) (m ix v : Operand)
  | delete (k : IntKind) (m ix : Operand)
  | makeMap
  | pick (c a b : Operand)
  | conv (k : IntKind) (x : Operand)
  | imax (x y : Operand)
  | fn (f : FuncId) (cap : Array Operand)
  | call (f : FuncId) (args : Array Operand)
  | callv (x : Operand) (args : Array Operand)
  | raw (op : Op) (t : TypeId)
def cellsOf? (w : World) (b : Nat) : Option (Array Value × TypeId × (Nat × Nat)) :=
  match w.heap[b]? with
  | some (.cells c e fz) => some (c, e, fz)
  | _ => none
def mapOf? (w : World) (b : Nat) : Option (Array MapEntry × Nat) :=
  match w.heap[b]? with
  | some (.map es n) => some (es, n)
  | _ => none
def World.set (w : World) (b : Nat) (o : Obj) : World := { w with heap := w.heap.setIfInBounds b o }
def World.push (w : World) (o : Obj) : World := { w with heap := w.heap.push o }
def putCells (c : Array Value) (o : Nat) : List Value → Array Value
  | [] => c
  | v :: l => putCells (c.setIfInBounds o v) (o + 1) l
def loadS (n : Option Nat) (a : Value) (w : World) : T (Value × World) :=
  match a with
  | .pointer (some ⟨b, o, none⟩) =>
    match cellsOf? w b with
    | some (c, _, _) =>
      match n with
      | none => match c[o]? with
        | some v => .ret (v, w)
        | none => .bad
      | some n => if o + n ≤ c.size then .ret (.agg (c.extract o (o + n)), w) else .bad
    | none => .bad
  | _ => .bad
def storeS (n : Nat) (a x : Value) (w : World) : T (Value × World) :=
  match a with
  | .pointer (some ⟨b, o, none⟩) =>
    match cellsOf? w b with
    | some (c, e, (0, 0)) =>
      if x.cells.size = n ∧ o + n ≤ c.size ∧ x.cells.toList.all one1 = true then .ret (undef, World.set w b (.cells (putCells c o x.cells.toList) e)) else .bad
    | _ => .bad
  | _ => .bad
def arith (op : BinOp) (k : IntKind) (a b : Int) : T Value :=
  match op with
  | .add => .ret (.int k (k.wrap (a + b)))
  | .sub => .ret (.int k (k.wrap (a - b)))
  | .mul => .ret (.int k (k.wrap (a * b)))
  | .quo => if b = 0 then .bad else .ret (.int k (k.wrap (a.tdiv b)))
  | .rem => if b = 0 then .bad else .ret (.int k (a.tmod b))
  | .eql => .ret (.bool (decide (a = b)))
  | .neq => .ret (.bool (!decide (a = b)))
  | .lss => .ret (.bool (decide (a < b)))
  | .leq => .ret (.bool (decide (a ≤ b)))
  | .gtr => .ret (.bool (decide (b < a)))
  | .geq => .ret (.bool (decide (b ≤ a)))
  | .shl => if b < 0 then .bad else .ret (.int k (k.wrap (a * 2 ^ (min b.toNat k.bits))))
  | .shr => if b < 0 then .bad else .ret (.int k (a.fdiv (2 ^ (min b.toNat k.bits))))
  | .and => .ret (.int k (k.wrap (BitVec.ofInt k.bits a &&& BitVec.ofInt k.bits b).toNat))
  | .andNot => .ret (.int k (k.wrap (BitVec.ofInt k.bits a &&& ~~~ BitVec.ofInt k.bits b).toNat))
  | .or => .ret (.int k (k.wrap (BitVec.ofInt k.bits a ||| BitVec.ofInt k.bits b).toNat))
  | .xor => .ret (.int k (k.wrap (BitVec.ofInt k.bits a ^^^ BitVec.ofInt k.bits b).toNat))
def binS (P : Program) (op : BinOp) (t : TypeId) (o1 o2 : Operand) (x y : Value) (w : World) : T (Value × World) :=
  match x, y with
  | .int k a, .int j b => if (op = .shl ∨ op = .shr) ∨ k = j then (arith op k a b).bind fun v => .ret (v, w) else .bad
  | x, y =>
    if binFit P op t x y then ofRun ((do eqGuard op t o1 o2 x y; binOp op t x y : Sem Value).run P w) else .bad
def fillS (ps : Array (Nat × Nat)) (z : Array Value) (parts : List (Nat × Value)) (w : World) : T (Value × World) :=
  match Instr.fill (fun i => ps[i]?) z parts with
  | some cs => .ret (.agg cs, w)
  | none => .bad
def rowS (e : TypeId) (size len : Nat) (z : Array Value) (parts : List (Nat × Value)) (w : World) : T (Value × World) :=
  match Instr.fill (fun i => some (i * size, size)) z parts with
  | some cs => .ret (.slice (some ⟨w.heap.size, 0, none⟩) len len, World.push w (.cells cs e))
  | none => .bad
def faddrS (off : Nat) (x : Value) (w : World) : T (Value × World) :=
  match x with
  | .pointer (some ⟨b, o, none⟩) => .ret (.pointer (some ⟨b, o + off, none⟩), w)
  | _ => .bad
def partS (n : Option Nat) (off : Nat) (x : Value) (w : World) : T (Value × World) :=
  match x with
  | .agg cs =>
    match n with
    | none => match cs[off]? with
      | some v => .ret (v, w)
      | none => .bad
    | some n => .ret (.agg (cs.extract off (off + n)), w)
  | _ => .bad
def iaddrS (size : Nat) (x ix : Value) (w : World) : T (Value × World) :=
  match x, ix with
  | .slice (some ⟨b, o, none⟩) len _, .int _ i => if 0 ≤ i ∧ i < len then .ret (.pointer (some ⟨b, o + i.toNat * size, none⟩), w) else .bad
  | _, _ => .bad
def extractS (x : Value) (i : Nat) (w : World) : T (Value × World) :=
  match x with
  | .tuple vs => match vs[i]? with
    | some v => .ret (v, w)
    | none => .bad
  | _ => .bad
def lenS (x : Value) (w : World) : T (Value × World) :=
  match x with
  | .slice _ n _ => .ret (.int .i64 (n : Int), w)
  | _ => .bad
def lenMapS (x : Value) (w : World) : T (Value × World) :=
  match x with
  | .map none => .ret (.int .i64 0, w)
  | .map (some r) => match mapOf? w r with
    | some (es, _) => .ret (.int .i64 (es.size : Int), w)
    | none => .bad
  | _ => .bad
def intO (v : Option Value) (d : Int) : Option Int :=
  match v with
  | none => some d
  | some (.int _ i) => some i
  | _ => none
def sliceS (e : TypeId) (size : Nat) (x : Value) (lo hi mx : Option Value) (w : World) : T (Value × World) :=
  match x with
  | .slice base len cap =>
    match intO lo 0, intO hi len, intO mx cap with
    | some l, some h, some m =>
      if cap < OPEN then
        if 0 ≤ l ∧ l ≤ h ∧ h ≤ m ∧ m ≤ cap ∧ (mx.isSome = true → hi.isSome = true) then
          .ret (.slice (if m.toNat = l.toNat then base else base.map (·.add (l.toNat * size))) (h.toNat - l.toNat) (m.toNat - l.toNat), w)
        else .bad
      else match base with
        | some ⟨b, o, none⟩ =>
          match cellsOf? w b with
          | some (c, e', (0, 0)) =>
            if cap = OPEN ∧ e' = e ∧ 0 < size ∧ 0 ≤ l ∧ l ≤ h then
              if mx = none then
                if h ≤ len ∨ o + h.toNat * size ≤ c.size then .ret (.slice (some ⟨b, o + l.toNat * size, none⟩) (h.toNat - l.toNat) OPEN, w) else .bad
              else if h ≤ m ∧ o + m.toNat * size ≤ c.size ∧ hi.isSome = true ∧ m.toNat < OPEN then
                .ret (.slice (some (if m.toNat = l.toNat then ⟨b, o, none⟩ else ⟨b, o + l.toNat * size, none⟩)) (h.toNat - l.toNat) (m.toNat - l.toNat), w)
              else .bad
            else .bad
          | _ => if OPEN < cap ∧ lo = none ∧ mx = none ∧ 0 ≤ h ∧ h ≤ len then .ret (.slice (some ⟨b, o, none⟩) h.toNat cap, w) else .bad
        | _ => .bad
    | _, _, _ => .bad
  | _ => .bad
def firstS (size n : Nat) (x : Option Addr) (w : World) : Option (Array Value) :=
  match x with
  | none => some #[]
  | some ⟨b, o, none⟩ =>
    match cellsOf? w b with
    | some (c, _, _) => if o + n * size ≤ c.size then some (c.extract o (o + n * size)) else none
    | none => none
  | _ => none
def growS (e : TypeId) (old new : Array Value) (need : Nat) (w : World) : Value × World :=
  (.slice (some ⟨w.heap.size, 0, none⟩) need OPEN, World.push w (.cells (old ++ new) e))
def appendS (e : TypeId) (size bytes : Nat) (s x : Value) (w : World) : T (Value × World) :=
  match s, x with
  | .slice base sLen sCap, .slice xb n _ =>
    if (sLen + n) * bytes ≤ 140737488355328 then
      match firstS size n xb w with
      | some new =>
        if new.toList.all one1 = true then
          if sCap < OPEN then
            if sLen + n ≤ sCap then
              match base with
              | some ⟨b, o, none⟩ =>
                match cellsOf? w b with
                | some (c, e', (0, 0)) =>
                  if o + sLen * size + new.size ≤ c.size then .ret (.slice base (sLen + n) sCap, World.set w b (.cells (putCells c (o + sLen * size) new.toList) e')) else .bad
                | _ => .bad
              | none => .ret (.slice none (sLen + n) sCap, w)
              | _ => .bad
            else
              match firstS size sLen base w with
              | some old => .ret (growS e old new (sLen + n) w)
              | none => .bad
          else
            match base with
            | some ⟨b, o, none⟩ =>
              match cellsOf? w b with
              | some (c, e', (0, 0)) =>
                if sCap = OPEN ∧ e' = e then
                  if o + (sLen + n) * size ≤ c.size then .ret (.slice base (sLen + n) OPEN, World.set w b (.cells (putCells c (o + sLen * size) new.toList) e'))
                  else if sLen + n = 0 then .bad
                  else if o + sLen * size ≤ c.size then .ret ((growS e (c.extract o (o + sLen * size)) new (sLen + n) w).1, kill (growS e (c.extract o (o + sLen * size)) new (sLen + n) w).2 b)
                  else .bad
                else .bad
              | _ => .bad
            | _ => .bad
        else .bad
      | none => .bad
    else .bad
  | _, _ => .bad
def lookupS (k : IntKind) (z x ix : Value) (ok : Bool) (w : World) : T (Value × World) :=
  match ix with
  | .int j i =>
    if j = k then
      match x with
      | .map none => .ret (if ok then .tuple #[z, .bool false] else z, w)
      | .map (some r) =>
        match mapOf? w r with
        | some (es, _) =>
          match Instr.findNow (.int k) (.int k i) es.toList 0 with
          | some (some (_, v)) => .ret (if ok then .tuple #[v, .bool true] else v, w)
          | some none => .ret (if ok then .tuple #[z, .bool false] else z, w)
          | none => .bad
        | none => .bad
      | _ => .bad
    else .bad
  | _ => .bad
def updateS (k : IntKind) (m ix v : Value) (w : World) : T (Value × World) :=
  match ix, m with
  | .int j i, .map (some r) =>
    if j = k then
      match mapOf? w r with
      | some (es, clock) =>
        match Instr.findNow (.int k) (.int k i) es.toList 0 with
        | some (some (p, _)) => .ret (undef, World.set w r (.map (es.modify p fun e => { e with key := .int k i, val := v }) clock))
        | some none => .ret (undef, World.set w r (.map (es.push { key := .int k i, val := v, born := clock }) (clock + 1)))
        | none => .bad
      | none => .bad
    else .bad
  | _, _ => .bad
def deleteS (k : IntKind) (m ix : Value) (w : World) : T (Value × World) :=
  match ix, m with
  | .int j i, .map (some r) =>
    if j = k then
      match mapOf? w r with
      | some (es, clock) =>
        match Instr.findNow (.int k) (.int k i) es.toList 0 with
        | some (some (p, _)) => .ret (.tuple #[], World.set w r (.map (es.eraseIdxIfInBounds p) clock))
        | some none => .ret (.tuple #[], World.set w r (.map es clock))
        | none => .bad
      | none => .bad
    else .bad
  | _, _ => .bad
def callV (P : Program) (K : Kont) (x : Value) (args : Array Value) (w : World) : T (Value × World) :=
  match x with
  | .func (.func g) first cap => if first.size = 0 ∧ (P.funcs[g]?).any (fun fn => fn.body.isSome && fn.name != "runtime.NumGoroutine") = true then K.enter g (args ++ cap) w
    else if (P.funcs[g]?).any (fun fn => fn.body.isSome && fn.name != "runtime.NumGoroutine") = true then K.enter g (first ++ args ++ cap) w else .bad
  | .func (.yield l) first _ =>
    match w.heap[l]? with
    | some (.loop r) => if first.size = 0 ∧ args.size = r.params.size then K.round l r.fn ((r.params.zip args).foldl (fun tmps (t, a) => tmps.setIfInBounds t a) r.tmps) r.assign r.body w else .bad
    | _ => .bad
  | _ => .bad
def partsOf (ρ : Regs) (l : List (Nat × Operand)) : List (Nat × Value) := l.map fun p => (p.1, ρ p.2)
def sone (P : Program) (K : Kont) (ρ : Regs) (w : World) : SOp → T (Value × World)
  | .move x => .ret (ρ x, w)
  | .box e x => .ret (.pointer (some ⟨w.heap.size, 0, none⟩), World.push w (.cells (ρ x).cells e))
  | .zero e z => .ret (.pointer (some ⟨w.heap.size, 0, none⟩), World.push w (.cells z e))
  | .build ps z parts => fillS ps z (partsOf ρ parts) w
  | .row e size len z parts => rowS e size len z (partsOf ρ parts) w
  | .load n a => loadS n (ρ a) w
  | .store n a x => storeS n (ρ a) (ρ x) w
  | .nonnil x => match ρ x with
    | .pointer (some a) => .ret (.pointer (some a), w)
    | .iface t v => .ret (.iface t v, w)
    | _ => .bad
  | .bin op t x y => binS P op t x y (ρ x) (ρ y) w
  | .un op x => match op, ρ x with
    | .not, .bool b => .ret (.bool !b, w)
    | .neg, .int k n => .ret (.int k (k.wrap (0 - n)), w)
    | _, _ => .bad
  | .faddr off x => faddrS off (ρ x) w
  | .part n off x => partS n off (ρ x) w
  | .iaddr size x ix => iaddrS size (ρ x) (ρ ix) w
  | .extract x i => extractS (ρ x) i w
  | .len x => lenS (ρ x) w
  | .lenMap x => lenMapS (ρ x) w
  | .slice e size x lo hi mx => sliceS e size (ρ x) (lo.map ρ) (hi.map ρ) (mx.map ρ) w
  | .append e size bytes s x => appendS e size bytes (ρ s) (ρ x) w
  | .lookup k z x ix ok => lookupS k z (ρ x) (ρ ix) ok w
  | .update k m ix v => updateS k (ρ m) (ρ ix) (ρ v) w
  | .delete k m ix => deleteS k (ρ m) (ρ ix) w
  | .makeMap => .ret (.map (some w.heap.size), World.push w (.map #[] 0))
  | .pick c a b => match ρ c with
    | .bool x => .ret (if x then ρ a else ρ b, w)
    | _ => .bad
  | .conv k x => match ρ x with
    | .int _ n => .ret (.int k (k.wrap n), w)
    | _ => .bad
  | .imax x y => match ρ x, ρ y with
    | .int k a, .int j b => if k = j then .ret (.int k (if b > a then b else a), w) else .bad
    | _, _ => .bad
  | .fn f cap => .ret (.func (.func f) #[] (cap.map ρ), w)
  | .call f args => K.enter f (args.map ρ) w
  | .callv x args => callV P K (ρ x) (args.map ρ) w
  | .raw op t => pval K (pstep P ρ op t w)
def aggOf (P : Program) (t : TypeId) : Option (Option Nat) :=
  match P.underlying t, P.info? t with
  | some (.struct _), some i => some (some i.size)
  | some (.array _ _), some i => some (some i.size)
  | some _, some _ => some none
  | _, _ => none
def placesOf (P : Program) (fs : Array Field) : Option (Array (Nat × Nat)) := fs.mapM fun f => (P.info? f.type).map fun i => (f.offset, i.size)
def lowOp (P : Program) (op : Op) : Option SOp :=
  match op with
  | .move x | .assign x => some (.move x)
  | .load t a => (aggOf P t).map fun n => .load n a
  | .store t a x => (P.info? t).map fun i => .store i.size a x
  | .box e x => some (.box e x)
  | .alloc e => match P.info? e with
    | some i => match i.zero with
      | some z => if selfD 4 z then some (.zero e z.cells) else none
      | none => none
    | none => none
  | .build t parts => match P.underlying t, P.info? t with
    | some (.struct fs), some i => match i.zero, placesOf P fs with
      | some z, some ps => if selfD 4 z then some (.build ps z.cells parts.toList) else none
      | _, _ => none
    | _, _ => none
  | .nilCheck x => some (.nonnil x)
  | .binOp op t x y _ => some (.bin op t x y)
  | .unOp op _ x => some (.un op x)
  | .fieldAddr s x f => match P.underlying s with
    | some (.struct fs) => match fs[f]? with
      | some fd => match P.info? fd.type with
        | some i => if 0 < i.size then some (.faddr fd.offset x) else none
        | none => none
      | none => none
    | _ => none
  | .field t x f => match P.underlying t with
    | some (.struct fs) => match fs[f]? with
      | some fd => (aggOf P fd.type).map fun n => .part n fd.offset x
      | none => none
    | _ => none
  | .indexAddr t x ix => match P.underlying t with
    | some (.slice e) => (P.info? e).map fun i => .iaddr i.size x ix
    | _ => none
  | .extract x i => some (.extract x i)
  | .buildSlice t len parts => match P.underlying t with
    | some (.slice e) => match P.info? e with
      | some i => match i.zero with
        | some z => if selfD 4 z && decide (len < 1000000) && decide (len * i.size ≤ 16777216) then some (.row e i.size len ((Array.range (len * i.size)).map (z.cells[· % z.cells.size]!)) parts.toList) else none
        | none => none
      | none => none
    | _ => none
  | .call { callee := .builtin .len, args, argTypes, .. } => match argTypes[0]?, args[0]? with
    | some t, some x => match P.underlying t with
      | some (.slice _) => some (.len x)
      | some (.map _ _) => some (.lenMap x)
      | _ => none
    | _, _ => none
  | .call { callee := .value (.func g), args, .. } => if (P.funcs[g]?).any fun fn => fn.body.isSome && fn.name != "runtime.NumGoroutine" then some (.call g args) else none
  | .call { callee := .value (.tmp t), args, .. } => some (.callv (.tmp t) args)
  | .slice t x lo hi mx => match P.underlying t with
    | some (.slice e) => (P.info? e).map fun i => .slice e i.size x lo hi mx
    | _ => none
  | .call { callee := .builtin .append, args, argTypes, .. } => match argTypes[0]?, argTypes[1]?, args[0]?, args[1]? with
    | some sT, some xT, some s, some x => match P.underlying sT, P.underlying xT with
      | some (.slice e), some (.slice _) => match P.info? e with
        | some i => if 0 < i.size ∧ 0 < i.bytes ∧ zeroFits i = true then some (.append e i.size i.bytes s x) else none
        | none => none
      | _, _ => none
    | _, _, _, _ => none
  | .lookup t x k ok => match P.underlying t with
    | some (.map kt et) => match P.underlying kt, P.info? et with
      | some (.int kk), some i => match i.zero with
        | some z => if selfD 4 z then some (.lookup kk z x k ok) else none
        | none => none
      | _, _ => none
    | _ => none
  | .mapUpdate t m k v => match P.underlying t with
    | some (.map kt _) => match P.underlying kt with
      | some (.int kk) => some (.update kk m k v)
      | _ => none
    | _ => none
  | .insert t m k v => match P.underlying t with
    | some (.map kt _) => match P.underlying kt with
      | some (.int kk) => some (.update kk m k v)
      | _ => none
    | _ => none
  | .call { callee := .builtin .delete, args, argTypes, .. } => match argTypes[0]?, args[0]?, args[1]? with
    | some t, some m, some k => match P.underlying t with
      | some (.map kt _) => match P.underlying kt with
        | some (.int kk) => some (.delete kk m k)
        | _ => none
      | _ => none
    | _, _, _ => none
  | .makeMap _ none => some .makeMap
  | .pick c a b => some (.pick c a b)
  | .convert src dst x => match P.underlying src, P.underlying dst with
    | some _, some (.int k) => some (.conv k x)
    | _, _ => none
  | .call { callee := .builtin .max, args, .. } => match args.toList with
    | [x, y] => some (.imax x y)
    | _ => none
  | .makeFunc (.func f) first cap => if first.isEmpty then some (.fn f cap) else none
  | _ => none
section
variable {P : Program} {K : Kont} {w w' : World}
theorem pv {s : Sem Value} {v : Value} (h : s.run P w = .ok v w') : pval K (ofRun ((do let x ← s; pure (Next.value x) : Sem Next).run P w)) = .ret (v, w') := by
  simp [pval, ofRun, h, Result.andThen, T.bind]
theorem pu {s : Sem Unit} (h : s.run P w = .ok () w') : pval K (ofRun ((do s; pure Next.skip : Sem Next).run P w)) = .ret (undef, w') := by
  simp [pval, ofRun, h, Result.andThen, T.bind]
theorem cellsOf?_spec {b : Nat} {c : Array Value} {e : TypeId} {fz : Nat × Nat} (h : cellsOf? w b = some (c, e, fz)) : w.heap[b]? = some (.cells c e fz) := by
  unfold cellsOf? at h
  split at h
  · rename_i hh; simp only [Option.some.injEq, Prod.mk.injEq] at h; obtain ⟨rfl, rfl, rfl⟩ := h; exact hh
  · cases h
theorem mapOf?_spec {b : Nat} {c : Array MapEntry} {n : Nat} (h : mapOf? w b = some (c, n)) : w.heap[b]? = some (.map c n) := by
  unfold mapOf? at h
  split at h
  · rename_i hh; simp only [Option.some.injEq, Prod.mk.injEq] at h; obtain ⟨rfl, rfl⟩ := h; exact hh
  · cases h
theorem run_aggOf {t : TypeId} {n : Option Nat} (h : aggOf P t = some n) : (isAgg t).run P w = .ok n.isSome w ∧ ∀ k, n = some k → (sizeOf t).run P w = .ok k w := by
  unfold aggOf at h
  split at h
  · rename_i fs i hu hi
    simp only [Option.some.injEq] at h; subst h
    exact ⟨by simp [isAgg, Sem.run_bind, run_underlying' hu, Result.andThen], fun k hk => by simp only [Option.some.injEq] at hk; subst hk; exact run_sizeOf' hi w⟩
  · rename_i l e i hu hi
    simp only [Option.some.injEq] at h; subst h
    exact ⟨by simp [isAgg, Sem.run_bind, run_underlying' hu, Result.andThen], fun k hk => by simp only [Option.some.injEq] at hk; subst hk; exact run_sizeOf' hi w⟩
  · rename_i d i h1 h2 hu hi
    simp only [Option.some.injEq] at h; subst h
    refine ⟨?_, fun k hk => by cases hk⟩
    cases d <;> first | (simp [isAgg, Sem.run_bind, run_underlying' hu, Result.andThen]; done) | exact absurd rfl (h1 _) | exact absurd rfl (h2 _ _)
  · cases h
theorem run_loadCells {b o : Nat} {c : Array Value} {e : TypeId} {fz : Nat × Nat} (h : w.heap[b]? = some (.cells c e fz)) : ∀ (n i : Nat) (acc : Array Value), o + i + n ≤ c.size →
    (loadCellsFrom ⟨b, o, none⟩ i n acc).run P w = .ok (acc ++ c.extract (o + i) (o + i + n)) w
  | 0, i, acc, _ => by simp [loadCellsFrom]; omega
  | n + 1, i, acc, hn => by
    have hlt : o + i < c.size := by omega
    have hc : w.cell? ⟨b, o + i, none⟩ = some c[o + i] := by simp [World.cell?, h, hlt]
    unfold loadCellsFrom
    rw [Addr.add_off]
    simp only [Sem.run_bind, run_load, hc, Result.andThen]
    rw [run_loadCells h n (i + 1) _ (by omega)]
    congr 1
    rw [Array.push_eq_append, Array.append_assoc]
    congr 1
    apply Array.ext'
    simp only [Array.toList_append, Array.toList_extract, List.extract_eq_take_drop]
    rw [show o + (i + 1) + n - (o + (i + 1)) = n by omega, show o + i + (n + 1) - (o + i) = n + 1 by omega]
    rw [List.drop_eq_getElem_cons (i := o + i) (by simpa using hlt), List.take_succ_cons]
    simp [show o + (i + 1) = o + i + 1 by omega]
theorem World.set_self {w : World} {b : Nat} {o : Obj} (h : w.heap[b]? = some o) : World.set w b o = w := by
  have hb : b < w.heap.size := (Array.getElem?_eq_some_iff.1 h).1
  have hv : w.heap[b] = o := (Array.getElem?_eq_some_iff.1 h).2
  have : w.heap.setIfInBounds b o = w.heap := by
    apply Array.ext (by simp)
    intro j h1 h2
    rw [Array.getElem_setIfInBounds (by simpa using h1)]
    split
    · rename_i hj; subst hj; exact hv.symm
    · rfl
  unfold World.set
  rw [this]
theorem World.set_set (w : World) (b : Nat) (x y : Obj) : World.set (World.set w b x) b y = World.set w b y := by
  simp [World.set]
theorem run_storeCells {b o : Nat} {e : TypeId} : ∀ (vs : List Value) (i : Nat) (c : Array Value) (w : World), w.heap[b]? = some (.cells c e (0, 0)) → o + i + vs.length ≤ c.size → vs.all one1 = true →
    (storeCells ⟨b, o, none⟩ vs i).run P w = .ok () (if vs = [] then w else World.set w b (.cells (putCells c (o + i) vs) e))
  | [], _, _, _, _, _, _ => by simp [storeCells]
  | v :: vs, i, c, w, h, hn, h1 => by
    simp only [List.all_cons, Bool.and_eq_true] at h1
    simp only [List.length_cons] at hn
    have hlt : o + i < c.size := by omega
    have hc : w.cell? ⟨b, o + i, none⟩ = some c[o + i] := by simp [World.cell?, h, hlt]
    have hf : w.frozen? ⟨b, o + i, none⟩ = false := by simp [World.frozen?, h]
    have hs : w.setCell ⟨b, o + i, none⟩ v = World.set w b (.cells (c.setIfInBounds (o + i) v) e) := by
      unfold World.setCell World.set
      congr 1
      have hb : b < w.heap.size := (Array.getElem?_eq_some_iff.1 h).1
      have hv : w.heap[b] = .cells c e (0, 0) := (Array.getElem?_eq_some_iff.1 h).2
      apply Array.ext (by simp)
      intro j h1 h2
      rw [Array.getElem_modify, Array.getElem_setIfInBounds (by simpa using h2)]
      by_cases hj : b = j
      · subst hj; simp [hv]
      · simp [hj]
    have hv1 : v.oneCell' = true := by cases v <;> simp_all [one1, Value.oneCell']
    unfold storeCells
    rw [Addr.add_off]
    simp only [Sem.run_bind, run_store P w _ v _ hv1, hc, hf, Bool.false_eq_true, if_false, Result.andThen, hs]
    have hb : b < w.heap.size := (Array.getElem?_eq_some_iff.1 h).1
    rw [run_storeCells (e := e) vs (i + 1) (c.setIfInBounds (o + i) v) _ (by simp [World.set, hb]) (by simp; omega) h1.2]
    simp only [reduceCtorEq, if_false, putCells]
    by_cases he : vs = []
    · subst he; simp [putCells]
    · rw [if_neg he, World.set_set]; rfl
end
end Go.Ideal
namespace Go.Ideal
open Go
section
variable {P : Program} {K : Kont} {w : World} {Q : Value × World → Prop}
theorem ok_load {t : TypeId} {n : Option Nat} (ha : aggOf P t = some n) {a : Value} (h : (loadS n a w).all Q) : ∃ r, (Instr.loadAt t a).run P w = .ok r w ∧ Q (r, w) := by
  obtain ⟨h1, h2⟩ := run_aggOf (w := w) ha
  unfold loadS at h
  split at h
  · rename_i b o
    split at h
    · rename_i c e fz hc
      have hh := cellsOf?_spec hc
      cases n with
      | none =>
        simp only at h
        split at h
        · rename_i v hv
          have hcell : w.cell? ⟨b, o, none⟩ = some v := by simp [World.cell?, hh, hv]
          exact ⟨v, by simp [Instr.loadAt, Instr.sureAddr, loadVar, Sem.run_bind, h1, Result.andThen, hcell], h⟩
        · exact h.elim
      | some k =>
        simp only at h
        split at h
        · rename_i hk
          have := run_loadCells (P := P) hh k 0 #[] (by omega)
          simp only [Nat.add_zero, Array.empty_append] at this
          exact ⟨_, by simp [Instr.loadAt, Instr.sureAddr, loadVar, loadCells, Sem.run_bind, h1, h2 k rfl, Result.andThen, this], h⟩
        · exact h.elim
    · exact h.elim
  · exact h.elim
theorem ok_store {t : TypeId} {i : TypeInfo} (hi : P.info? t = some i) {a x : Value} (h : (storeS i.size a x w).all Q) : ∃ w', (Instr.storeAt t a x).run P w = .ok () w' ∧ Q (undef, w') := by
  unfold storeS at h
  split at h
  · rename_i b o
    split at h
    · rename_i c e hc
      split at h
      · rename_i hk
        obtain ⟨hs, hn, h1⟩ := hk
        have hh := cellsOf?_spec hc
        have hlen : x.cells.toList.length = i.size := by simpa using hs
        have := run_storeCells (P := P) (b := b) (o := o) x.cells.toList 0 c w hh (by rw [hlen]; omega) h1
        refine ⟨_, ?_, h⟩
        simp only [Instr.storeAt, Instr.sureAddr, Sem.run_bind, storeVar, Sem.run_pure, Result.andThen, run_sizeOf' hi w, hs, ne_eq, not_true_eq_false, if_false, this]
        by_cases he : x.cells.toList = []
        · rw [if_pos he, he]
          simp only [putCells, World.set_self hh]
        · rw [if_neg he]; simp
      · exact h.elim
    · exact h.elim
  · exact h.elim
theorem ok_fieldAt {s : TypeId} {fs : Array Field} {f : Nat} {fd : Field} {i : TypeInfo} (hu : P.underlying s = some (.struct fs)) (hf : fs[f]? = some fd) (hi : P.info? fd.type = some i) (h0 : 0 < i.size) {x : Value}
    (h : (faddrS fd.offset x w).all Q) : ∃ r, (Instr.fieldAt s x f).run P w = .ok r w ∧ Q (r, w) := by
  unfold faddrS at h
  split at h
  · rename_i b o
    refine ⟨_, ?_, h⟩
    have h0' : ¬ i.size = 0 := by omega
    simp [Instr.fieldAt, Sem.run_bind, run_underlying' hu, Result.andThen, hf, Instr.sureAddr, fieldPlace, run_sizeOf' hi w, h0', Addr.add_off]
  · exact h.elim
theorem ok_part {t : TypeId} {n : Option Nat} (ha : aggOf P t = some n) {off : Nat} {x : Value} (h : (partS n off x w).all Q) : ∃ cs r, x = .agg cs ∧ (part t cs off).run P w = .ok r w ∧ Q (r, w) := by
  obtain ⟨h1, h2⟩ := run_aggOf (w := w) ha
  unfold partS at h
  split at h
  · rename_i cs
    cases n with
    | none =>
      simp only at h
      split at h
      · rename_i v hv
        exact ⟨cs, v, rfl, by simp [part, Sem.run_bind, h1, Result.andThen, hv], h⟩
      · exact h.elim
    | some k => exact ⟨cs, _, rfl, by simp [part, Sem.run_bind, h1, h2 k rfl, Result.andThen], h⟩
  · exact h.elim
theorem ok_indexAt {t e : TypeId} {i : TypeInfo} (hu : P.underlying t = some (.slice e)) (hi : P.info? e = some i) {x ix : Value} (h : (iaddrS i.size x ix w).all Q) : ∃ r, (Instr.indexAt t x ix).run P w = .ok r w ∧ Q (r, w) := by
  unfold iaddrS at h
  split at h
  · rename_i b o len c k n
    split at h
    · rename_i hn
      refine ⟨_, ?_, h⟩
      simp [Instr.indexAt, Sem.run_bind, asIntOf, run_underlying' hu, Result.andThen, hn, run_sizeOf' hi w, Addr.add_off]
    · exact h.elim
  · exact h.elim
theorem ok_extract {x : Value} {i : Nat} (h : (extractS x i w).all Q) : ∃ r, (Instr.extract x i).run P w = .ok r w ∧ Q (r, w) := by
  unfold extractS at h
  split at h
  · split at h
    · rename_i vs v hv
      exact ⟨v, by simp [Instr.extract, hv], h⟩
    · exact h.elim
  · exact h.elim
theorem ok_arith {op : BinOp} {t : TypeId} {k j : IntKind} {a b : Int} (hk : (op = .shl ∨ op = .shr) ∨ k = j) {q : Value → Prop} (h : (arith op k a b).all q) : ∃ r, (binOp op t (.int k a) (.int j b)).run P w = .ok r w ∧ q r := by
  by_cases hs : op = .shl ∨ op = .shr
  · rcases hs with rfl | rfl
    · simp only [arith] at h
      split at h
      · exact h.elim
      · rename_i hb
        exact ⟨_, by simp [binOp, Op.shift, hb], h⟩
    · simp only [arith] at h
      split at h
      · exact h.elim
      · rename_i hb
        exact ⟨_, by simp [binOp, Op.shift, hb], h⟩
  · obtain rfl := hk.resolve_left hs
    cases op with
    | shl => exact absurd (.inl rfl) hs
    | shr => exact absurd (.inr rfl) hs
    | add => exact ⟨_, by simp [binOp, Op.intArith], h⟩
    | sub => exact ⟨_, by simp [binOp, Op.intArith], h⟩
    | mul => exact ⟨_, by simp [binOp, Op.intArith], h⟩
    | quo =>
      simp only [arith] at h
      split at h
      · exact h.elim
      · rename_i hb; exact ⟨_, by simp [binOp, Op.intDiv, hb], h⟩
    | rem =>
      simp only [arith] at h
      split at h
      · exact h.elim
      · rename_i hb; exact ⟨_, by simp [binOp, Op.intDiv, hb], h⟩
    | eql => exact ⟨_, by simp only [binOp, Op.intCmp, ne_eq, not_true_eq_false, if_false, Sem.run_pure]; rfl, h⟩
    | neq => exact ⟨_, by simp only [binOp, Op.intCmp, ne_eq, not_true_eq_false, if_false, Sem.run_pure]; rfl, h⟩
    | lss => exact ⟨_, by simp only [binOp, Op.intCmp, ne_eq, not_true_eq_false, if_false, Sem.run_pure], h⟩
    | leq => exact ⟨_, by simp only [binOp, Op.intCmp, ne_eq, not_true_eq_false, if_false, Sem.run_pure], h⟩
    | gtr => exact ⟨_, by simp only [binOp, Op.intCmp, ne_eq, not_true_eq_false, if_false, Sem.run_pure], h⟩
    | geq => exact ⟨_, by simp only [binOp, Op.intCmp, ne_eq, not_true_eq_false, if_false, Sem.run_pure], h⟩
    | and => exact ⟨_, by simp only [binOp, Op.intBits, ne_eq, not_true_eq_false, if_false, Sem.run_pure], h⟩
    | andNot => exact ⟨_, by simp only [binOp, Op.intBits, ne_eq, not_true_eq_false, if_false, Sem.run_pure], h⟩
    | or => exact ⟨_, by simp only [binOp, Op.intBits, ne_eq, not_true_eq_false, if_false, Sem.run_pure], h⟩
    | xor => exact ⟨_, by simp only [binOp, Op.intBits, ne_eq, not_true_eq_false, if_false, Sem.run_pure], h⟩
theorem ok_len {t : TypeId} {e : TypeId} {ty : TypeId} {at_ : Array TypeId} {args : Array Value} {x : Value} (h0 : at_[0]? = some t) (h1 : args[0]? = some x) (hu : P.underlying t = some (.slice e)) (h : (lenS x w).all Q) :
    ∃ r, (Builtin.len_ at_ ty args).run P w = .ok r w ∧ Q (r, w) := by
  unfold lenS at h
  split at h
  · exact ⟨_, by simp [Builtin.len_, h0, h1, Sem.run_bind, run_underlying' hu, Result.andThen, goInt], h⟩
  · exact h.elim
theorem ok_lenMap {t k e : TypeId} {ty : TypeId} {at_ : Array TypeId} {args : Array Value} {x : Value} (h0 : at_[0]? = some t) (h1 : args[0]? = some x) (hu : P.underlying t = some (.map k e)) (h : (lenMapS x w).all Q) :
    ∃ r, (Builtin.len_ at_ ty args).run P w = .ok r w ∧ Q (r, w) := by
  unfold lenMapS at h
  split at h
  · exact ⟨_, by simp [Builtin.len_, h0, h1, Sem.run_bind, run_underlying' hu, Result.andThen, goInt], h⟩
  · split at h
    · rename_i r es n hm
      have hh := mapOf?_spec hm
      exact ⟨_, by simp [Builtin.len_, h0, h1, Sem.run_bind, run_underlying' hu, Result.andThen, goInt, getObj, Sem.run, hh], h⟩
    · exact h.elim
  · exact h.elim
end
end Go.Ideal
namespace Go.Ideal
open Go
section
variable {P : Program} {K : Kont} {w : World} {Q : Value × World → Prop}
theorem intO_spec {v : Option Value} {d l : Int} (h : intO v d = some l) : (v = none ∧ l = d) ∨ ∃ k, v = some (.int k l) := by
  unfold intO at h
  split at h
  · simp only [Option.some.injEq] at h; exact .inl ⟨rfl, h.symm⟩
  · simp only [Option.some.injEq] at h; subst h; exact .inr ⟨_, rfl⟩
  · cases h
theorem run_bounds_in {len cap : Nat} {lo hi mx : Option Value} {l h m : Int} (el : intO lo 0 = some l) (eh : intO hi len = some h) (em : intO mx cap = some m) (h0 : 0 ≤ l) (h1 : l ≤ h) (h2 : h ≤ m) (h3 : m ≤ cap)
    (hx : mx.isSome = true → hi.isSome = true) : (Instr.sliceBounds true len cap lo hi mx).run P w = .ok (l.toNat, h.toNat, m.toNat) w := by
  have q1 : 0 ≤ h := by omega
  have q2 : 0 ≤ m := by omega
  have em' : (m.toNat : Int) = m := Int.toNat_of_nonneg q2
  have eh' : (h.toNat : Int) = h := Int.toNat_of_nonneg q1
  have q3 : h ≤ cap := by omega
  rcases intO_spec em with ⟨rfl, e1⟩ | ⟨km, rfl⟩
  · rcases intO_spec eh with ⟨rfl, e2⟩ | ⟨kh, rfl⟩ <;> rcases intO_spec el with ⟨rfl, e3⟩ | ⟨kl, rfl⟩
    · simp [Instr.sliceBounds]; omega
    · have q4 : l ≤ (len : Int) := by omega
      simp [Instr.sliceBounds, Instr.sliceBound, asIntOf, h0, q4]; omega
    · simp [Instr.sliceBounds, Instr.sliceBound, asIntOf, q1, q3]; omega
    · simp [Instr.sliceBounds, Instr.sliceBound, asIntOf, q1, q3, h0, eh', h1]; omega
  · rcases intO_spec eh with ⟨rfl, e2⟩ | ⟨kh, rfl⟩
    · simp at hx
    · rcases intO_spec el with ⟨rfl, e3⟩ | ⟨kl, rfl⟩
      · simp [Instr.sliceBounds, Instr.sliceBound, asIntOf, em', h2, h3, q1, q2]; omega
      · simp [Instr.sliceBounds, Instr.sliceBound, asIntOf, eh', em', h0, h1, h2, h3, q1, q2]
theorem ok_slice {t e : TypeId} {i : TypeInfo} (hu : P.underlying t = some (.slice e)) (hi : P.info? e = some i) {x : Value} {lo hi' mx : Option Value} (h : (sliceS e i.size x lo hi' mx w).all Q) : (islice P t x lo hi' mx w).all Q := by
  unfold sliceS at h
  split at h
  · rename_i base len cap
    split at h
    · rename_i l hh m el eh em
      split at h
      · rename_i hcap
        split at h
        · rename_i hb
          obtain ⟨h0, h1, h2, h3, h4⟩ := hb
          have hrun : (Instr.sliceAt t (.slice base len cap) lo hi' mx).run P w = .ok (.slice (if m.toNat = l.toNat then base else base.map (·.add (l.toNat * i.size))) (hh.toNat - l.toNat) (m.toNat - l.toNat)) w := by
            have := run_bounds_in (P := P) (w := w) el eh em h0 h1 h2 h3 h4
            simp [Instr.sliceAt, Instr.slice, Sem.run_bind, run_underlying' hu, Result.andThen, this, run_sizeOf' hi w]
          unfold islice
          rw [hu]
          cases base with
          | none => simp only [hrun, ofRun]; exact h
          | some a => simp only [hcap, if_true, hrun, ofRun]; exact h
        · exact h.elim
      · rename_i hcap
        split at h
        · rename_i b o
          split at h
          · rename_i c e' hc
            have hcell := cellsOf?_spec hc
            split at h
            · rename_i hk
              obtain ⟨hco, rfl, hs, h0, h1⟩ := hk
              unfold islice
              rw [hu]
              simp only [hcap, if_false, if_pos hco]
              subst hco
              have eb : bound? lo 0 = some l.toNat := by
                rcases intO_spec el with ⟨rfl, rfl⟩ | ⟨kl, rfl⟩
                · rfl
                · simp [bound?, h0]
              have ehb : bound? hi' len = some hh.toNat := by
                rcases intO_spec eh with ⟨rfl, rfl⟩ | ⟨kl, rfl⟩
                · simp [bound?]
                · have : 0 ≤ hh := by omega
                  simp [bound?, this]
              unfold isliceOpen
              simp only [hi, eb, ehb, hcell]
              have hlh : l.toNat ≤ hh.toNat := by omega
              rw [if_pos (by simp [hlh, hs])]
              split at h
              · rename_i hm; subst hm
                split at h
                · rename_i hl
                  have : hh.toNat ≤ len ∨ o + hh.toNat * i.size ≤ c.size := by
                    rcases hl with hl | hl
                    · exact .inl (by omega)
                    · exact .inr hl
                  simp only [this, if_true]; exact h
                · exact h.elim
              · rename_i hm
                rcases intO_spec em with ⟨rfl, rfl⟩ | ⟨km, rfl⟩
                · exact absurd rfl hm
                · split at h
                  · rename_i hq
                    obtain ⟨q1, q2, q3, q4⟩ := hq
                    have p1 : 0 ≤ m := by omega
                    have p2 : hh.toNat ≤ m.toNat := by omega
                    simp only [p1, p2, q2, q3, q4, and_self, if_true]
                    exact h
                  · exact h.elim
            · exact h.elim
          · split at h
            · rename_i hq
              obtain ⟨q1, rfl, rfl, q4, q5⟩ := hq
              unfold islice
              rw [hu]
              simp only [hcap, if_false, if_neg (Nat.ne_of_gt q1)]
              have ehb : bound? hi' len = some hh.toNat := by
                rcases intO_spec eh with ⟨rfl, rfl⟩ | ⟨kl, rfl⟩
                · simp [bound?]
                · simp [bound?, q4]
              unfold isliceSeen
              simp only [hi, ehb]
              rw [if_pos (by omega)]
              exact h
            · exact h.elim
        · exact h.elim
    · exact h.elim
  · exact h.elim
theorem run_checkKey_int {t : TypeId} {k : IntKind} (hu : P.underlying t = some (.int k)) (b : Bool) (j : IntKind) (n : Int) : (Instr.checkKey b 10000 t (.int j n)).run P w = .ok () w := by
  have : ∀ m : Nat, (Instr.checkKey b (m + 1) t (.int j n)).run P w = .ok () w := fun m => by
    unfold Instr.checkKey
    simp [Sem.run_bind, run_underlying' hu, Result.andThen]
  exact this 9999
theorem run_findKey_int {t : TypeId} {k : IntKind} (hu : P.underlying t = some (.int k)) {x : Value} {es : List MapEntry} {r : Option (Nat × Value)} (h : Instr.findNow (.int k) x es 0 = some r) : (Instr.findKey t x es).run P w = .ok r w := by
  simp [Instr.findKey, Sem.run_bind, run_underlying' hu, Result.andThen, h]
theorem ok_lookup {t kt et : TypeId} {kk : IntKind} {i : TypeInfo} {z : Value} (hu : P.underlying t = some (.map kt et)) (hk : P.underlying kt = some (.int kk)) (hi : P.info? et = some i) (hz : i.zero = some z) {x ix : Value} {ok : Bool}
    (h : (lookupS kk z x ix ok w).all Q) : ∃ r, (Instr.lookup t x ix ok).run P w = .ok r w ∧ Q (r, w) ∧ keyFit ix = true := by
  unfold lookupS at h
  split at h
  · rename_i j n
    split at h
    · rename_i hj; subst hj
      split at h
      · refine ⟨_, ?_, h, rfl⟩
        have hf : (Instr.findKey kt (.int j n) []).run P w = .ok none w := run_findKey_int hk rfl
        simp only [Instr.lookup, Sem.run_bind, run_underlying' hu, Result.andThen, Sem.run_pure, run_checkKey_int hk, hf, zeroValue, typeInfo, run_program, hi, hz]
      · split at h
        · rename_i r es n' hm
          have hh := mapOf?_spec hm
          split at h
          · rename_i p v hfn
            refine ⟨_, ?_, h, rfl⟩
            have hf := run_findKey_int (w := w) hk hfn
            simp only [Instr.lookup, Sem.run_bind, run_underlying' hu, Result.andThen, Sem.run_pure, run_checkKey_int hk, hf, getObj, Sem.run, hh]
          · rename_i hfn
            refine ⟨_, ?_, h, rfl⟩
            have hf := run_findKey_int (w := w) hk hfn
            simp only [Instr.lookup, Sem.run_bind, run_underlying' hu, Result.andThen, Sem.run_pure, run_checkKey_int hk, hf, getObj, Sem.run, hh, zeroValue, typeInfo, run_program, hi, hz]
          · exact h.elim
        · exact h.elim
      · exact h.elim
    · exact h.elim
  · exact h.elim
theorem run_setObj_map {r : Nat} {es es' : Array MapEntry} {n n' : Nat} (h : w.heap[r]? = some (.map es n)) : (setObj r (.map es' n')).run P w = .ok () (World.set w r (.map es' n')) := by
  simp [setObj, Sem.run, h, World.set]
theorem ok_update {t kt et : TypeId} {kk : IntKind} (hu : P.underlying t = some (.map kt et)) (hk : P.underlying kt = some (.int kk)) {m ix v : Value}
    (h : (updateS kk m ix v w).all Q) : ∃ w', (Instr.mapUpdate t m ix v).run P w = .ok () w' ∧ Q (undef, w') ∧ keyFit ix = true := by
  unfold updateS at h
  split at h
  · rename_i j n r
    split at h
    · rename_i hj; subst hj
      split at h
      · rename_i es clock hm
        have hh := mapOf?_spec hm
        split at h
        · rename_i p v0 hfn
          refine ⟨_, ?_, h, rfl⟩
          have hf := run_findKey_int (w := w) hk hfn
          obtain ⟨en, _, hen, hkey, _⟩ := findNow_key (.int j) (k := .int j n) rfl es.toList 0 p v0 hfn
          have hen' : es[p]? = some en := by simpa using hen
          have hks : (Instr.keyThatStays (.int j n) (.int j n)).run P w = .ok (.int j n) w := by
            unfold Instr.keyThatStays
            rw [if_pos (by simp [Instr.sameBits])]
            rfl
          simp only [Instr.mapUpdate, Sem.run_bind, run_underlying' hu, Result.andThen, run_checkKey_int hk, hf, getObj, Sem.run, hh, hen', Option.map_some, Option.getD_some, hkey, hks, run_setObj_map hh]
        · rename_i hfn
          refine ⟨_, ?_, h, rfl⟩
          have hf := run_findKey_int (w := w) hk hfn
          simp only [Instr.mapUpdate, Sem.run_bind, run_underlying' hu, Result.andThen, run_checkKey_int hk, hf, getObj, Sem.run, hh, run_setObj_map hh]
        · exact h.elim
      · exact h.elim
    · exact h.elim
  · exact h.elim
theorem ok_delete {t kt et ty : TypeId} {at_ : Array TypeId} {args : Array Value} {kk : IntKind} {m ix : Value} (h0 : at_[0]? = some t) (ha0 : args[0]? = some m) (ha1 : args[1]? = some ix) (hu : P.underlying t = some (.map kt et)) (hk : P.underlying kt = some (.int kk))
    (h : (deleteS kk m ix w).all Q) : ∃ r w', (Builtin.delete_ at_ ty args).run P w = .ok r w' ∧ Q (r, w') ∧ keyFit ix = true := by
  unfold deleteS at h
  split at h
  · rename_i j n r
    split at h
    · rename_i hj; subst hj
      split at h
      · rename_i es clock hm
        have hh := mapOf?_spec hm
        split at h
        · rename_i p v0 hfn
          refine ⟨_, _, ?_, h, rfl⟩
          have hf := run_findKey_int (w := w) hk hfn
          simp only [Builtin.delete_, h0, ha0, ha1, Sem.run_bind, run_underlying' hu, Result.andThen, Sem.run_pure, run_checkKey_int hk, hf, getObj, Sem.run, hh, run_setObj_map hh]
        · rename_i hfn
          refine ⟨_, _, ?_, h, rfl⟩
          have hf := run_findKey_int (w := w) hk hfn
          simp only [Builtin.delete_, h0, ha0, ha1, Sem.run_bind, run_underlying' hu, Result.andThen, Sem.run_pure, run_checkKey_int hk, hf, getObj, Sem.run, hh, run_setObj_map hh]
        · exact h.elim
      · exact h.elim
    · exact h.elim
  · exact h.elim
theorem run_firstS {size n : Nat} {xb : Option Addr} {l c : Nat} {cs : Array Value} (h : firstS size n xb w = some cs) : (Builtin.firstCells size n (.slice xb l c)).run P w = .ok cs w ∧ (xb = none → cs = #[]) ∧ ∀ a, xb = some a → cs.size = n * size := by
  unfold firstS at h
  split at h
  · simp only [Option.some.injEq] at h; subst h; exact ⟨rfl, (fun _ => rfl), (fun _ h => by cases h)⟩
  · rename_i b o
    split at h
    · rename_i c' e fz hc
      split at h
      · rename_i hn
        simp only [Option.some.injEq] at h; subst h
        have := run_loadCells (P := P) (cellsOf?_spec hc) (n * size) 0 #[] (by omega)
        simp only [Nat.add_zero, Array.empty_append] at this
        exact ⟨this, (fun h => by cases h), (fun _ _ => by simp; omega)⟩
      · cases h
    · cases h
  · cases h
theorem ok_append {at_ : Array TypeId} {args : Array Value} {sT xT e xe : TypeId} {i : TypeInfo} {s x : Value} (h0 : at_[0]? = some sT) (h1 : at_[1]? = some xT) (ha0 : args[0]? = some s) (ha1 : args[1]? = some x)
    (hu : P.underlying sT = some (.slice e)) (hux : P.underlying xT = some (.slice xe)) (hi : P.info? e = some i) (hs : 0 < i.size) (hb : 0 < i.bytes) (hz : zeroFits i = true) (h : (appendS e i.size i.bytes s x w).all Q) :
    (iappend P at_ args w).all Q := by
  unfold appendS at h
  split at h
  · rename_i base sLen sCap xb n xc
    split at h
    · rename_i hroom
      split at h
      · rename_i new hnew
        obtain ⟨hrn, hn0, hn1⟩ := run_firstS (P := P) (l := n) (c := xc) hnew
        split at h
        · rename_i hone
          unfold iappend
          simp only [h0, h1, ha0, ha1, hu, hux, hi]
          rw [if_pos ⟨hs, hb, hroom, hz⟩]
          simp only [hrn]
          rw [if_pos hone]
          split at h
          · rename_i hcap
            rw [if_pos hcap]
            split at h
            · rename_i hfit
              rw [if_pos hfit]
              split at h
              · rename_i b o
                split at h
                · rename_i c e' hc
                  split at h
                  · rename_i hsz
                    have hst := run_storeCells (P := P) (b := b) (o := o + sLen * i.size) new.toList 0 c w (cellsOf?_spec hc) (by simpa using hsz) hone
                    simp only [Addr.add_off, hst, Nat.add_zero]
                    by_cases he : new.toList = []
                    · rw [if_pos he]
                      have hh := cellsOf?_spec hc
                      have hw : World.set w b (.cells (putCells c (o + sLen * i.size) new.toList) e') = w := by
                        rw [he]; exact World.set_self hh
                      rw [hw] at h
                      exact h
                    · rw [if_neg he]; exact h
                  · exact h.elim
                · exact h.elim
              · exact h
              · exact h.elim
            · rename_i hfit
              rw [if_neg hfit]
              split at h
              · rename_i old hold
                have hro := (run_firstS (P := P) (l := sLen) (c := sCap) hold).1
                simp only [growCells, hro, newCells]
                exact h
              · exact h.elim
          · rename_i hcap
            rw [if_neg hcap]
            split at h
            · rename_i b o
              split at h
              · rename_i c e' hc
                have hh := cellsOf?_spec hc
                split at h
                · rename_i hk
                  obtain ⟨hco, rfl⟩ := hk
                  rw [if_pos hco]
                  simp only [hh]
                  rw [if_pos ⟨trivial, trivial⟩]
                  split at h
                  · rename_i hsz
                    rw [if_pos hsz]
                    have hnsz : new.size ≤ n * i.size := by
                      cases xb with
                      | none => rw [hn0 rfl]; simp
                      | some a => rw [hn1 a rfl]; exact Nat.le_refl _
                    have hst := run_storeCells (P := P) (b := b) (o := o + sLen * i.size) new.toList 0 c w hh (by
                      simp only [Array.length_toList, Nat.add_zero]
                      have : (sLen + n) * i.size = sLen * i.size + n * i.size := Nat.add_mul _ _ _
                      omega) hone
                    simp only [Addr.add_off, hst, Nat.add_zero]
                    by_cases he : new.toList = []
                    · rw [if_pos he]
                      have hw : World.set w b (.cells (putCells c (o + sLen * i.size) new.toList) e') = w := by
                        rw [he]; exact World.set_self hh
                      rw [hw] at h
                      exact h
                    · rw [if_neg he]; exact h
                  · rename_i hsz
                    rw [if_neg hsz]
                    split at h
                    · exact h.elim
                    · rename_i hz0
                      rw [if_neg hz0]
                      split at h
                      · rename_i hin
                        have hold : firstS i.size sLen (some ⟨b, o, none⟩) w = some (c.extract o (o + sLen * i.size)) := by simp [firstS, hc, hin]
                        have hro := (run_firstS (P := P) (l := sLen) (c := OPEN) hold).1
                        subst hco
                        simp only [growCells, hro, newCells, T.bind]
                        exact h
                      · exact h.elim
                · exact h.elim
              · exact h.elim
            · exact h.elim
        · exact h.elim
      · exact h.elim
    · exact h.elim
  · exact h.elim
end
end Go.Ideal
namespace Go.Ideal
open Go
section
variable {P : Program} {K : Kont} {w : World} {Q : Value × World → Prop}
theorem pv_all {s : Sem Value} {v : Value} {w' : World} (h : s.run P w = .ok v w') (hq : Q (v, w')) : (pval K (ofRun ((do let x ← s; pure (Next.value x) : Sem Next).run P w))).all Q := by
  rw [pv h]; exact hq
theorem pu_all {s : Sem Unit} {w' : World} (h : s.run P w = .ok () w') (hq : Q (undef, w')) : (pval K (ofRun ((do s; pure Next.skip : Sem Next).run P w))).all Q := by
  rw [pu h]; exact hq
theorem low_load {t : TypeId} {a : Operand} {ty : TypeId} {s : SOp} {ρ : Regs} (hc : (Op.load t a).operands.all constFit = true) (hl : lowOp P (.load t a) = some s) (h : (sone P K ρ w s).all Q) : (pval K (pstep P ρ (.load t a) ty w)).all Q := by
  simp only [lowOp, Option.map_eq_some_iff] at hl
  obtain ⟨n, ha, rfl⟩ := hl
  obtain ⟨r, hr, hq⟩ := ok_load ha h
  simp only [pstep, istep, hc, if_true, execOp]
  exact pv_all hr hq
theorem low_store {t : TypeId} {a x : Operand} {ty : TypeId} {s : SOp} {ρ : Regs} (hc : (Op.store t a x).operands.all constFit = true) (hl : lowOp P (.store t a x) = some s) (h : (sone P K ρ w s).all Q) : (pval K (pstep P ρ (.store t a x) ty w)).all Q := by
  simp only [lowOp, Option.map_eq_some_iff] at hl
  obtain ⟨n, ha, rfl⟩ := hl
  obtain ⟨r, hr, hq⟩ := ok_store ha h
  simp only [pstep, istep, hc, if_true, execOp]
  exact pu_all hr hq
theorem run_zeroValue {t : TypeId} {i : TypeInfo} {z : Value} (hi : P.info? t = some i) (hz : i.zero = some z) (w : World) : (zeroValue t).run P w = .ok z w := by
  simp [zeroValue, typeInfo, Sem.run_bind, hi, hz, Result.andThen]
theorem zeroOk_of {t : TypeId} {i : TypeInfo} {z : Value} (hi : P.info? t = some i) (hz : i.zero = some z) (hs : selfD 4 z = true) : zeroOk P t = true := by
  unfold zeroOk; rw [hi]; simp only [hz]; exact hs
theorem low_alloc {e : TypeId} {ty : TypeId} {s : SOp} {ρ : Regs} (hc : (Op.alloc e).operands.all constFit = true) (hl : lowOp P (.alloc e) = some s) (h : (sone P K ρ w s).all Q) : (pval K (pstep P ρ (.alloc e) ty w)).all Q := by
  simp only [lowOp] at hl
  split at hl
  · rename_i i hi
    split at hl
    · rename_i z hz
      split at hl
      · rename_i hs
        simp only [Option.some.injEq] at hl; subst hl
        have hzo := zeroOk_of hi hz hs
        simp only [pstep, istep, hc, if_true, execOp, hzo]
        refine pv_all (v := .pointer (some ⟨w.heap.size, 0, none⟩)) (w' := World.push w (.cells z.cells e)) ?_ h
        simp [Instr.alloc, Sem.run_bind, run_zeroValue hi hz, Result.andThen, newVar, newRow, World.push]
      · cases hl
    · cases hl
  · cases hl
theorem mapM_sizes : ∀ (l : List Field) (ps : List (Nat × Nat)), l.mapM (fun f => (P.info? f.type).map fun i => (f.offset, i.size)) = some ps →
    (l.mapM (fun f => do pure (f.offset, ← sizeOf f.type) : Field → Sem (Nat × Nat))).run P w = .ok ps w
  | [], ps, h => by
    simp only [List.mapM_nil, Option.pure_def, Option.some.injEq] at h; subst h; rfl
  | f :: l, ps, h => by
    simp only [List.mapM_cons, Option.bind_eq_bind, Option.bind_eq_some_iff, Option.map_eq_some_iff, Option.pure_def, Option.some.injEq] at h
    obtain ⟨a, ⟨i, hi, rfl⟩, b, hb, rfl⟩ := h
    simp only [List.mapM_cons, Sem.run_bind, run_sizeOf' hi w, Result.andThen, Sem.run_pure, mapM_sizes l b hb]
theorem low_build {t : TypeId} {parts : Array (Nat × Operand)} {ty : TypeId} {s : SOp} {ρ : Regs} (hc : (Op.build t parts).operands.all constFit = true) (hl : lowOp P (.build t parts) = some s) (h : (sone P K ρ w s).all Q) : (pval K (pstep P ρ (.build t parts) ty w)).all Q := by
  simp only [lowOp] at hl
  split at hl
  · rename_i fs i hu hi
    split at hl
    · rename_i z ps hz hps
      split at hl
      · rename_i hs
        simp only [Option.some.injEq] at hl; subst hl
        have hzo := zeroOk_of hi hz hs
        simp only [pstep, istep, hc, if_true, execOp, hzo]
        simp only [sone, fillS] at h
        split at h
        · rename_i cs hf
          refine pv_all (v := .agg cs) (w' := w) ?_ h
          have hm : (fs.mapM (fun f => do pure (f.offset, ← sizeOf f.type) : Field → Sem (Nat × Nat))).run P w = .ok ps w := by
            have h2 : fs.toList.mapM (fun f => (P.info? f.type).map fun i => (f.offset, i.size)) = some ps.toList := by
              unfold placesOf at hps
              rw [Array.mapM_eq_mapM_toList] at hps
              simp only [Option.map_eq_map, Option.map_eq_some_iff] at hps
              obtain ⟨l, hl, rfl⟩ := hps
              exact hl
            have := mapM_sizes (w := w) _ _ h2
            rw [Array.mapM_eq_mapM_toList]
            rw [map_eq_pure_bind, Sem.run_bind, this]
            simp [Result.andThen]
          have hf' : Instr.fill (fun i => ps[i]?) z.cells (parts.map fun (i, x) => (i, ρ x)).toList = some cs := by
            rw [Array.toList_map]; exact hf
          simp only [Instr.build, Sem.run_bind, run_zeroValue hi hz, Result.andThen, run_underlying' hu, hm, hf', Sem.run_pure]
        · exact h.elim
      · cases hl
    · cases hl
  · cases hl
theorem low_row {t : TypeId} {len : Nat} {parts : Array (Nat × Operand)} {ty : TypeId} {s : SOp} {ρ : Regs} (hc : (Op.buildSlice t len parts).operands.all constFit = true) (hl : lowOp P (.buildSlice t len parts) = some s) (h : (sone P K ρ w s).all Q) : (pval K (pstep P ρ (.buildSlice t len parts) ty w)).all Q := by
  simp only [lowOp] at hl
  split at hl
  · rename_i e hu
    split at hl
    · rename_i i hi
      split at hl
      · rename_i z hz
        split at hl
        · rename_i hs
          simp only [Bool.and_eq_true, decide_eq_true_eq] at hs
          simp only [Option.some.injEq] at hl; subst hl
          have hzo : elemOk P t = true := by unfold elemOk; rw [hu]; exact zeroOk_of hi hz hs.1.1
          have hdec : (elemOk P t && decide (len < 1000000)) = true := by simp [hzo, hs.1.2]
          simp only [pstep, istep, hc, if_true, execOp, hdec]
          simp only [sone, rowS] at h
          split at h
          · rename_i cs hf
            refine pv_all (v := .slice (some ⟨w.heap.size, 0, none⟩) len len) (w' := World.push w (.cells cs e)) ?_ h
            have hf' : Instr.fill (fun j => some (j * i.size, i.size)) ((Array.range (len * i.size)).map (z.cells[· % z.cells.size]!)) (parts.map fun (j, x) => (j, ρ x)).toList = some cs := by
              rw [Array.toList_map]; exact hf
            have hbig : ¬ len * i.size > 2 ^ 24 := by omega
            by_cases h0 : len * i.size = 0
            · have he : (Array.range (len * i.size)).map ((#[] : Array Value)[· % (#[] : Array Value).size]!) = (Array.range (len * i.size)).map (z.cells[· % z.cells.size]!) := by rw [h0]; simp
              simp only [Instr.buildSlice, Sem.run_bind, run_underlying' hu, Result.andThen, run_sizeOf' hi w, hbig, if_false, if_pos h0, Sem.run_pure]
              rw [he, hf']
              simp [newRow, Result.andThen, World.push]
            · simp only [Instr.buildSlice, Sem.run_bind, run_underlying' hu, Result.andThen, run_sizeOf' hi w, hbig, if_false, if_neg h0, Sem.run_pure, run_zeroValue hi hz, hf']
              simp [newRow, Result.andThen, World.push]
          · exact h.elim
        · cases hl
      · cases hl
    · cases hl
  · cases hl
theorem low_nilCheck {x : Operand} {ty : TypeId} {s : SOp} {ρ : Regs} (hc : (Op.nilCheck x).operands.all constFit = true) (hl : lowOp P (.nilCheck x) = some s) (h : (sone P K ρ w s).all Q) : (pval K (pstep P ρ (.nilCheck x) ty w)).all Q := by
  simp only [lowOp, Option.some.injEq] at hl; subst hl
  simp only [sone] at h
  split at h
  · rename_i a ha
    simp only [pstep, istep, hc, if_true, execOp, ha]
    exact h
  · rename_i a b ha
    simp only [pstep, istep, hc, if_true, execOp, ha]
    exact h
  · exact h.elim
theorem low_bin {op : BinOp} {t yt : TypeId} {x y : Operand} {ty : TypeId} {s : SOp} {ρ : Regs} (hc : (Op.binOp op t x y yt).operands.all constFit = true) (hl : lowOp P (.binOp op t x y yt) = some s) (h : (sone P K ρ w s).all Q) : (pval K (pstep P ρ (.binOp op t x y yt) ty w)).all Q := by
  simp only [lowOp, Option.some.injEq] at hl; subst hl
  simp only [sone, binS] at h
  split at h
  · rename_i k a j b hx hy
    split at h
    · rename_i hk
      obtain ⟨r, hr, hq⟩ := ok_arith (P := P) (w := w) (t := t) hk (T.all_bind.1 h)
      simp only [pstep, istep, hc, if_true, execOp, hx, hy, binFit]
      refine pv_all (v := r) (w' := w) ?_ hq
      rw [Sem.run_bind, eqGuard_none op t x y _ _ (fun _ h => by cases h) (fun h => by cases h)]
      exact hr
    · exact h.elim
  · split at h
    · rename_i hf
      simp only [pstep, istep, hc, if_true, execOp, hf]
      cases hr : (do eqGuard op t x y (ρ x) (ρ y); binOp op t (ρ x) (ρ y) : Sem Value).run P w with
      | ok v w' => rw [hr] at h; exact pv_all hr h
      | halt a b => rw [hr] at h; exact h.elim
    · exact h.elim
theorem low_un {op : UnOp} {t : TypeId} {x : Operand} {ty : TypeId} {s : SOp} {ρ : Regs} (hc : (Op.unOp op t x).operands.all constFit = true) (hl : lowOp P (.unOp op t x) = some s) (h : (sone P K ρ w s).all Q) : (pval K (pstep P ρ (.unOp op t x) ty w)).all Q := by
  simp only [lowOp, Option.some.injEq] at hl; subst hl
  simp only [sone] at h
  split at h
  · rename_i b hx
    simp only [pstep, istep, hc, if_true, execOp, hx, unFit]
    exact pv_all (v := .bool !b) (w' := w) rfl h
  · rename_i k n hx
    simp only [pstep, istep, hc, if_true, execOp, hx, unFit]
    exact pv_all (v := .int k (k.wrap (0 - n))) (w' := w) rfl h
  · exact h.elim
theorem low_faddr {t : TypeId} {f : Nat} {x : Operand} {ty : TypeId} {s : SOp} {ρ : Regs} (hc : (Op.fieldAddr t x f).operands.all constFit = true) (hl : lowOp P (.fieldAddr t x f) = some s) (h : (sone P K ρ w s).all Q) : (pval K (pstep P ρ (.fieldAddr t x f) ty w)).all Q := by
  simp only [lowOp] at hl
  split at hl
  · rename_i fs hu
    split at hl
    · rename_i fd hf
      split at hl
      · rename_i i hi
        split at hl
        · rename_i h0
          simp only [Option.some.injEq] at hl; subst hl
          obtain ⟨r, hr, hq⟩ := ok_fieldAt hu hf hi h0 h
          have hfit : fieldFit P t f = true := by unfold fieldFit; rw [hu]; simp only [hf, hi, decide_eq_true_eq]; exact h0
          simp only [pstep, istep, hc, if_true, execOp, hfit]
          exact pv_all hr hq
        · cases hl
      · cases hl
    · cases hl
  · cases hl
theorem low_field {t : TypeId} {f : Nat} {x : Operand} {ty : TypeId} {s : SOp} {ρ : Regs} (hc : (Op.field t x f).operands.all constFit = true) (hl : lowOp P (.field t x f) = some s) (h : (sone P K ρ w s).all Q) : (pval K (pstep P ρ (.field t x f) ty w)).all Q := by
  simp only [lowOp] at hl
  split at hl
  · rename_i fs hu
    split at hl
    · rename_i fd hf
      simp only [Option.map_eq_some_iff] at hl
      obtain ⟨n, ha, rfl⟩ := hl
      obtain ⟨cs, r, hx, hr, hq⟩ := ok_part ha h
      simp only [pstep, istep, hc, if_true, execOp]
      refine pv_all (v := r) (w' := w) ?_ hq
      simp only [Instr.field, Sem.run_bind, run_underlying' hu, Result.andThen, hf, hx, asAgg, Sem.run_pure, hr]
    · cases hl
  · cases hl
theorem low_iaddr {t : TypeId} {x ix : Operand} {ty : TypeId} {s : SOp} {ρ : Regs} (hc : (Op.indexAddr t x ix).operands.all constFit = true) (hl : lowOp P (.indexAddr t x ix) = some s) (h : (sone P K ρ w s).all Q) : (pval K (pstep P ρ (.indexAddr t x ix) ty w)).all Q := by
  simp only [lowOp] at hl
  split at hl
  · rename_i e hu
    simp only [Option.map_eq_some_iff] at hl
    obtain ⟨i, hi, rfl⟩ := hl
    obtain ⟨r, hr, hq⟩ := ok_indexAt hu hi h
    simp only [pstep, istep, hc, if_true, execOp]
    exact pv_all hr hq
  · cases hl
theorem low_slice {t : TypeId} {x : Operand} {lo hi mx : Option Operand} {ty : TypeId} {s : SOp} {ρ : Regs} (hc : (Op.slice t x lo hi mx).operands.all constFit = true) (hl : lowOp P (.slice t x lo hi mx) = some s) (h : (sone P K ρ w s).all Q) : (pval K (pstep P ρ (.slice t x lo hi mx) ty w)).all Q := by
  simp only [lowOp] at hl
  split at hl
  · rename_i e hu
    simp only [Option.map_eq_some_iff] at hl
    obtain ⟨i, hi', rfl⟩ := hl
    have := ok_slice hu hi' h
    simp only [pstep, istep, hc, if_true]
    unfold pval
    refine T.all_bind.2 (T.all_bind.2 (T.all_mono (fun p hp => ?_) this))
    exact hp
  · cases hl
theorem low_lookup {t : TypeId} {x k : Operand} {ok : Bool} {ty : TypeId} {s : SOp} {ρ : Regs} (hc : (Op.lookup t x k ok).operands.all constFit = true) (hl : lowOp P (.lookup t x k ok) = some s) (h : (sone P K ρ w s).all Q) : (pval K (pstep P ρ (.lookup t x k ok) ty w)).all Q := by
  simp only [lowOp] at hl
  split at hl
  · rename_i kt et hu
    split at hl
    · rename_i kk i hk hi
      split at hl
      · rename_i z hz
        split at hl
        · rename_i hs
          simp only [Option.some.injEq] at hl; subst hl
          obtain ⟨r, hr, hq, hkf⟩ := ok_lookup hu hk hi hz h
          have h1 : elemOk P t = true := by unfold elemOk; rw [hu]; exact zeroOk_of hi hz hs
          have h2 : keyTy P t = true := by unfold keyTy isInt; rw [hu]; simp only [hk]
          have h3 : (keyFit (ρ k) && elemOk P t && keyTy P t) = true := by simp [hkf, h1, h2]
          simp only [pstep, istep, hc, if_true, execOp, h3]
          exact pv_all hr hq
        · cases hl
      · cases hl
    · cases hl
  · cases hl
theorem low_update {t : TypeId} {m k v : Operand} {ty : TypeId} {s : SOp} {ρ : Regs} (hc : (Op.mapUpdate t m k v).operands.all constFit = true) (hl : lowOp P (.mapUpdate t m k v) = some s) (h : (sone P K ρ w s).all Q) : (pval K (pstep P ρ (.mapUpdate t m k v) ty w)).all Q := by
  simp only [lowOp] at hl
  split at hl
  · rename_i kt et hu
    split at hl
    · rename_i kk hk
      simp only [Option.some.injEq] at hl; subst hl
      obtain ⟨w', hr, hq, hkf⟩ := ok_update hu hk h
      have h2 : keyTy P t = true := by unfold keyTy isInt; rw [hu]; simp only [hk]
      have h3 : (keyFit (ρ k) && keyTy P t) = true := by simp [hkf, h2]
      simp only [pstep, istep, hc, if_true, execOp, h3]
      exact pu_all hr hq
    · cases hl
  · cases hl
end
end Go.Ideal
namespace Go.Ideal
open Go
section
variable {P : Program} {K : Kont} {w : World} {Q : Value × World → Prop}
theorem low_insert {t : TypeId} {m k v : Operand} {ty : TypeId} {s : SOp} {ρ : Regs} (hc : (Op.insert t m k v).operands.all constFit = true) (hl : lowOp P (.insert t m k v) = some s) (h : (sone P K ρ w s).all Q) : (pval K (pstep P ρ (.insert t m k v) ty w)).all Q := by
  simp only [lowOp] at hl
  split at hl
  · rename_i kt et hu
    split at hl
    · rename_i kk hk
      simp only [Option.some.injEq] at hl; subst hl
      obtain ⟨w', hr, hq, hkf⟩ := ok_update hu hk h
      have h2 : keyTy P t = true := by unfold keyTy isInt; rw [hu]; simp only [hk]
      have h3 : (keyFit (ρ k) && keyTy P t) = true := by simp [hkf, h2]
      simp only [pstep, istep, hc, if_true, execOp, h3]
      exact pu_all hr hq
    · cases hl
  · cases hl
end
end Go.Ideal
namespace Go.Ideal
open Go
section
variable {P : Program} {K : Kont} {w : World} {Q : Value × World → Prop}
theorem run_builtin {b : Builtin} {args : Array Operand} {at_ : Array TypeId} {ty : TypeId} {ρ : Regs} {c : Call} (hcal : c.callee = .builtin b) (hargs : c.args = args) (hat : c.argTypes = at_) :
    execOp ρ { dst := none, op := .call c, type := ty, pos := "", after := #[], guard := none } = builtin b at_ ty (args.map fun | .const _ => true | _ => false) (args.map ρ) := by
  subst hargs; subst hat
  simp only [execOp, resolve, hcal]
  rfl
theorem low_len {c : Call} (hcal : c.callee = .builtin .len) {ty : TypeId} {s : SOp} {ρ : Regs} (hc : (Op.call c).operands.all constFit = true) (hl : lowOp P (.call c) = some s) (h : (sone P K ρ w s).all Q) : (pval K (pstep P ρ (.call c) ty w)).all Q := by
  have he := run_builtin (ty := ty) (ρ := ρ) hcal rfl rfl
  obtain ⟨callee, args, at_⟩ := c
  simp only at hcal; subst hcal
  simp only [lowOp] at hl
  split at hl
  · rename_i t x ht hx
    have h1 : (args.map ρ)[0]? = some (ρ x) := by rw [Array.getElem?_map, hx]; rfl
    split at hl
    · rename_i e hu
      simp only [Option.some.injEq] at hl; subst hl
      obtain ⟨r, hr, hq⟩ := ok_len (P := P) (ty := ty) ht h1 hu h
      simp only [pstep, istep, hc, if_true, he]
      exact pv_all hr hq
    · rename_i k e hu
      simp only [Option.some.injEq] at hl; subst hl
      obtain ⟨r, hr, hq⟩ := ok_lenMap (P := P) (ty := ty) ht h1 hu h
      simp only [pstep, istep, hc, if_true, he]
      exact pv_all hr hq
    · cases hl
  · cases hl
theorem low_delete {c : Call} (hcal : c.callee = .builtin .delete) {ty : TypeId} {s : SOp} {ρ : Regs} (hc : (Op.call c).operands.all constFit = true) (hl : lowOp P (.call c) = some s) (h : (sone P K ρ w s).all Q) : (pval K (pstep P ρ (.call c) ty w)).all Q := by
  have he := run_builtin (ty := ty) (ρ := ρ) hcal rfl rfl
  obtain ⟨callee, args, at_⟩ := c
  simp only at hcal; subst hcal
  simp only [lowOp] at hl
  split at hl
  · rename_i t m k ht hm hk
    have h0 : (args.map ρ)[0]? = some (ρ m) := by rw [Array.getElem?_map, hm]; rfl
    have h1 : (args.map ρ)[1]? = some (ρ k) := by rw [Array.getElem?_map, hk]; rfl
    have h1' : (args[1]?).map ρ = some (ρ k) := by rw [hk]; rfl
    split at hl
    · rename_i kt e hu
      split at hl
      · rename_i kk hkk
        simp only [Option.some.injEq] at hl; subst hl
        obtain ⟨r, w', hr, hq, hkf⟩ := ok_delete (P := P) (ty := ty) ht h0 h1 hu hkk h
        have h2 : keyTy P t = true := by unfold keyTy isInt; rw [hu]; simp only [hkk]
        have h3 : (keyFit (ρ k) && keyTy P t) = true := by simp [hkf, h2]
        simp only [pstep, istep, hc, if_true, he, h1', ht, h3]
        exact pv_all hr hq
      · cases hl
    · cases hl
  · cases hl
theorem low_append {c : Call} (hcal : c.callee = .builtin .append) {ty : TypeId} {s : SOp} {ρ : Regs} (hc : (Op.call c).operands.all constFit = true) (hl : lowOp P (.call c) = some s) (h : (sone P K ρ w s).all Q) : (pval K (pstep P ρ (.call c) ty w)).all Q := by
  obtain ⟨callee, args, at_⟩ := c
  simp only at hcal; subst hcal
  simp only [lowOp] at hl
  split at hl
  · rename_i sT xT s0 x0 h0 h1 ha0 ha1
    have g0 : (args.map ρ)[0]? = some (ρ s0) := by rw [Array.getElem?_map, ha0]; rfl
    have g1 : (args.map ρ)[1]? = some (ρ x0) := by rw [Array.getElem?_map, ha1]; rfl
    split at hl
    · rename_i e xe hu hux
      split at hl
      · rename_i i hi
        split at hl
        · rename_i hs
          simp only [Option.some.injEq] at hl; subst hl
          have := ok_append h0 h1 g0 g1 hu hux hi hs.1 hs.2.1 hs.2.2 h
          simp only [pstep, istep, hc, if_true]
          unfold pval
          refine T.all_bind.2 (T.all_bind.2 (T.all_mono (fun p hp => ?_) this))
          exact hp
        · cases hl
      · cases hl
    · cases hl
  · cases hl
theorem low_call {g : FuncId} {c : Call} (hcal : c.callee = .value (.func g)) {ty : TypeId} {s : SOp} {ρ : Regs} (hρ : ρ (.func g) = .func (.func g) #[] #[]) (hc : (Op.call c).operands.all constFit = true) (hl : lowOp P (.call c) = some s) (h : (sone P K ρ w s).all Q) : (pval K (pstep P ρ (.call c) ty w)).all Q := by
  obtain ⟨callee, args, at_⟩ := c
  simp only at hcal; subst hcal
  simp only [lowOp] at hl
  split at hl
  · rename_i hb
    simp only [Option.some.injEq] at hl; subst hl
    obtain ⟨fn, hfn, hbody⟩ : ∃ fn, P.funcs[g]? = some fn ∧ (fn.body.isSome && fn.name != "runtime.NumGoroutine") = true := by
      cases hf : P.funcs[g]? with
      | none => rw [hf] at hb; cases hb
      | some fn => rw [hf] at hb; exact ⟨fn, rfl, hb⟩
    simp only [Bool.and_eq_true, bne_iff_ne, ne_eq] at hbody
    have hne : ¬ fn.body.isNone = true := by cases hb2 : fn.body <;> simp_all
    have hany : ((P.funcs[g]?).any (·.body.isSome)) = true := by rw [hfn]; exact hbody.1
    have hrun : (execOp ρ { dst := none, op := .call { callee := .value (.func g), args := args, argTypes := at_ }, type := ty, pos := "", after := #[], guard := none }).run P w = .ok (.enter g (args.map ρ)) w := by
      simp [execOp, resolve, hρ, Deferred.ofValue, invoke, callFunc, Sem.run_bind, Result.andThen, hfn, hbody.2]
      intro hb0
      rw [hb0] at hne
      exact absurd rfl hne
    simp only [pstep, istep, hc, if_true, hρ, hany]
    simp only [hrun, ofRun, T.bind, enters, pval]
    exact h
  · cases hl
theorem low_callv {t : Tmp} {c : Call} (hcal : c.callee = .value (.tmp t)) {ty : TypeId} {s : SOp} {ρ : Regs} (hc : (Op.call c).operands.all constFit = true) (hl : lowOp P (.call c) = some s) (h : (sone P K ρ w s).all Q) : (pval K (pstep P ρ (.call c) ty w)).all Q := by
  obtain ⟨callee, args, at_⟩ := c
  simp only at hcal; subst hcal
  simp only [lowOp, Option.some.injEq] at hl; subst hl
  simp only [sone] at h
  unfold callV at h
  split at h
  · rename_i g first cap hx
    have main : (P.funcs[g]?).any (fun fn => fn.body.isSome && fn.name != "runtime.NumGoroutine") = true → (K.enter g (first ++ args.map ρ ++ cap) w).all Q → (pval K (pstep P ρ (.call { callee := .value (.tmp t), args := args, argTypes := at_ }) ty w)).all Q := by
      intro hb h
      obtain ⟨fn, hfn, hbody⟩ : ∃ fn, P.funcs[g]? = some fn ∧ (fn.body.isSome && fn.name != "runtime.NumGoroutine") = true := by
        cases hf : P.funcs[g]? with
        | none => rw [hf] at hb; cases hb
        | some fn => rw [hf] at hb; exact ⟨fn, rfl, hb⟩
      simp only [Bool.and_eq_true, bne_iff_ne, ne_eq] at hbody
      have hne : ¬ fn.body.isNone = true := by cases hb2 : fn.body <;> simp_all
      have hany : ((P.funcs[g]?).any (·.body.isSome)) = true := by rw [hfn]; exact hbody.1
      have hrun : (execOp ρ { dst := none, op := .call { callee := .value (.tmp t), args := args, argTypes := at_ }, type := ty, pos := "", after := #[], guard := none }).run P w = .ok (.enter g (first ++ args.map ρ ++ cap)) w := by
        simp [execOp, resolve, hx, Deferred.ofValue, invoke, callFunc, Sem.run_bind, Result.andThen, hfn, hbody.2]
        intro hb0
        rw [hb0] at hne
        exact absurd rfl hne
      simp only [pstep, istep, hc, if_true, hx, hany]
      simp only [hrun, ofRun, T.bind, enters, pval]
      exact h
    split at h
    · rename_i hb0
      obtain ⟨he, hb⟩ := hb0
      obtain rfl := Array.eq_empty_of_size_eq_zero he
      exact main hb (by rw [Array.empty_append]; exact h)
    · split at h
      · exact main ‹_› h
      · exact h.elim
  · rename_i l first cap hx
    split at h
    · rename_i r hr
      split at h
      · rename_i hsz0
        obtain ⟨he, hsz⟩ := hsz0
        obtain rfl := Array.eq_empty_of_size_eq_zero he
        have hrun : (execOp ρ { dst := none, op := .call { callee := .value (.tmp t), args := args, argTypes := at_ }, type := ty, pos := "", after := #[], guard := none }).run P w =
            .ok (.round l r.fn ((r.params.zip (args.map ρ)).foldl (fun tmps (t, a) => tmps.setIfInBounds t a) r.tmps) r.assign r.body) w := by
          have hsz' : (args.map ρ).size = r.params.size := hsz
          simp only [execOp, resolve, hx, Deferred.ofValue, invoke, Sem.run_bind, Sem.run_pure, Result.andThen, Array.empty_append, Instr.yield, Instr.getLoop, getObj, Sem.run, hr, hsz', ne_eq, not_true_eq_false, if_false]
        simp only [pstep, istep, hc, if_true, hx]
        simp only [hrun, ofRun, T.bind, enters, pval]
        exact h
      · exact h.elim
    · exact h.elim
  · exact h.elim
theorem low_max {c : Call} (hcal : c.callee = .builtin .max) {ty : TypeId} {s : SOp} {ρ : Regs} (hc : (Op.call c).operands.all constFit = true) (hl : lowOp P (.call c) = some s) (h : (sone P K ρ w s).all Q) : (pval K (pstep P ρ (.call c) ty w)).all Q := by
  have he := run_builtin (ty := ty) (ρ := ρ) hcal rfl rfl
  obtain ⟨callee, args, at_⟩ := c
  simp only at hcal; subst hcal
  simp only [lowOp] at hl
  split at hl
  · rename_i x y ha
    simp only [Option.some.injEq] at hl; subst hl
    simp only [sone] at h
    split at h
    · rename_i k a j b hx hy
      split at h
      · rename_i hk; subst hk
        have hk1 : (args.toList.all fun x => keyFit (ρ x)) = true := by rw [ha]; simp [hx, hy, keyFit]
        simp only [pstep, istep, hc, if_true, he, hk1]
        refine pv_all (v := .int k (if b > a then b else a)) (w' := w) ?_ h
        have hm : (args.map ρ).toList = [.int k a, .int k b] := by rw [Array.toList_map, ha]; simp [hx, hy]
        simp only [Builtin.max_, hm, List.foldlM_cons, List.foldlM_nil, Builtin.max2, pure_bind, Sem.run_pure]
      · exact h.elim
    · exact h.elim
  · cases hl
theorem low_convert {src dst : TypeId} {x : Operand} {ty : TypeId} {s : SOp} {ρ : Regs} (hc : (Op.convert src dst x).operands.all constFit = true) (hl : lowOp P (.convert src dst x) = some s) (h : (sone P K ρ w s).all Q) : (pval K (pstep P ρ (.convert src dst x) ty w)).all Q := by
  simp only [lowOp] at hl
  split at hl
  · rename_i d k hs hd
    simp only [Option.some.injEq] at hl; subst hl
    simp only [sone] at h
    split at h
    · rename_i j n hx
      have hi : isInt P dst = true := by unfold isInt; rw [hd]
      simp only [pstep, istep, hc, if_true, execOp, hx, hi]
      refine pv_all (v := .int k (k.wrap n)) (w' := w) ?_ h
      simp only [convert, Sem.run_bind, run_underlying' hs, run_underlying' hd, Result.andThen]
      cases d <;> rfl
    · exact h.elim
  · cases hl
theorem lowOp_ok {op : Op} {ty : TypeId} {s : SOp} {ρ : Regs} (hρ : ∀ g, ρ (.func g) = .func (.func g) #[] #[]) (hc : op.operands.all constFit = true) (hl : lowOp P op = some s) (h : (sone P K ρ w s).all Q) : (pval K (pstep P ρ op ty w)).all Q := by
  cases op with
  | move x =>
    simp only [lowOp, Option.some.injEq] at hl; subst hl
    simp only [pstep, istep, hc, if_true, execOp]; exact h
  | assign x =>
    simp only [lowOp, Option.some.injEq] at hl; subst hl
    simp only [pstep, istep, hc, if_true, execOp]; exact h
  | box e x =>
    simp only [lowOp, Option.some.injEq] at hl; subst hl
    simp only [pstep, istep, hc, if_true, execOp]
    exact pv_all (v := .pointer (some ⟨w.heap.size, 0, none⟩)) (w' := World.push w (.cells (ρ x).cells e)) (by simp [Instr.box, newVar, newRow, Result.andThen, World.push]) h
  | makeMap t r =>
    cases r with
    | some _ => cases hl
    | none =>
      simp only [lowOp, Option.some.injEq] at hl; subst hl
      simp only [pstep, istep, hc, if_true, execOp]
      exact pv_all (v := .map (some w.heap.size)) (w' := World.push w (.map #[] 0)) (by simp [Instr.makeMap, Result.andThen, World.push]) h
  | pick c a b =>
    simp only [lowOp, Option.some.injEq] at hl; subst hl
    simp only [sone] at h
    split at h
    · rename_i x hx
      simp only [pstep, istep, hc, if_true, execOp, hx, asBool]
      exact h
    · exact h.elim
  | convert src dst x => exact low_convert hc hl h
  | makeFunc f first cap =>
    cases f with
    | func f =>
      simp only [lowOp] at hl
      split at hl
      · rename_i he
        have he' : first = #[] := by simpa using he
        subst he'
        simp only [Option.some.injEq] at hl; subst hl
        simp only [pstep, istep, hc, if_true, execOp]
        exact pv_all (v := .func (.func f) #[] (cap.map ρ)) (w' := w) (by simp [Instr.makeFunc]) h
      · cases hl
    | _ => simp [lowOp] at hl
  | extract x i =>
    simp only [lowOp, Option.some.injEq] at hl; subst hl
    obtain ⟨r, hr, hq⟩ := ok_extract (P := P) h
    simp only [pstep, istep, hc, if_true, execOp]; exact pv_all hr hq
  | load t a => exact low_load hc hl h
  | store t a x => exact low_store hc hl h
  | alloc e => exact low_alloc hc hl h
  | build t p => exact low_build hc hl h
  | buildSlice t n p => exact low_row hc hl h
  | nilCheck x => exact low_nilCheck hc hl h
  | binOp op t x y yt => exact low_bin hc hl h
  | unOp op t x => exact low_un hc hl h
  | fieldAddr t x f => exact low_faddr hc hl h
  | field t x f => exact low_field hc hl h
  | indexAddr t x ix => exact low_iaddr hc hl h
  | slice t x lo hi mx => exact low_slice hc hl h
  | lookup t x k ok => exact low_lookup hc hl h
  | mapUpdate t m k v => exact low_update hc hl h
  | insert t m k v => exact low_insert hc hl h
  | call c =>
    cases hcal : c.callee with
    | builtin b =>
      cases b with
      | len => exact low_len hcal hc hl h
      | append => exact low_append hcal hc hl h
      | delete => exact low_delete hcal hc hl h
      | max => exact low_max hcal hc hl h
      | _ => obtain ⟨callee, args, at_⟩ := c; simp only at hcal; subst hcal; simp [lowOp] at hl
    | value f =>
      cases f with
      | func g => exact low_call hcal (hρ g) hc hl h
      | tmp t => exact low_callv hcal hc hl h
      | _ => obtain ⟨callee, args, at_⟩ := c; simp only at hcal; subst hcal; simp [lowOp] at hl
    | invoke r m => obtain ⟨callee, args, at_⟩ := c; simp only at hcal; subst hcal; simp [lowOp] at hl
  | _ => simp [lowOp] at hl
end
end Go.Ideal
