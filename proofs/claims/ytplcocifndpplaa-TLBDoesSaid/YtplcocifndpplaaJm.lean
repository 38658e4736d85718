/-
  Words for reckoning what must hold ahead.
-/
import Derived.Test.YtplcocifndpplaaJl
namespace Go.Ideal
open Go

@[simp] theorem put_at (ρ : Env) (d : Nat) (v : Value) (i : Nat) : (ρ.put (some d) v) i = if i = d then v else ρ i := rfl
@[simp] theorem put_no (ρ : Env) (v : Value) : ρ.put none v = ρ := rfl
@[simp] theorem ev_tmp (ρ : Env) (t : Nat) : ev ρ (.tmp t) = ρ t := rfl
@[simp] theorem ev_const (ρ : Env) (v : Value) : ev ρ (.const v) = v := rfl
@[simp] theorem ev_func (ρ : Env) (f : FuncId) : ev ρ (.func f) = .func (.func f) #[] #[] := rfl
@[simp] theorem of_at (a : Array Value) (i : Nat) : Env.of a i = a.getD i undef := rfl
@[simp] theorem all_ret {α : Type} {a : α} {Q : α → Prop} : (T.ret a).all Q ↔ Q a := Iff.rfl
@[simp] theorem all_bad {α : Type} {Q : α → Prop} : (T.bad : T α).all Q ↔ False := Iff.rfl
@[simp] theorem all_ite {α : Type} {c : Prop} [Decidable c] {x y : T α} {Q : α → Prop} : (if c then x else y).all Q ↔ (c → x.all Q) ∧ (¬ c → y.all Q) := by
  by_cases h : c <;> simp [h]
@[simp] theorem bind_ite {α β : Type} {c : Prop} [Decidable c] {x y : T α} {f : α → T β} : (if c then x else y).bind f = if c then x.bind f else y.bind f := by
  by_cases h : c <;> simp [h]
@[simp] theorem bind_ret {α β : Type} {a : α} {f : α → T β} : (T.ret a).bind f = f a := rfl
@[simp] theorem bind_bad {α β : Type} {f : α → T β} : (T.bad : T α).bind f = .bad := rfl

/-! ### Memory -/
@[simp] theorem size_push (w : World) (o : Obj) : (World.push w o).heap.size = w.heap.size + 1 := by simp [World.push]
@[simp] theorem size_set (w : World) (b : Nat) (o : Obj) : (World.set w b o).heap.size = w.heap.size := by simp [World.set]
@[simp] theorem size_kill (w : World) (b : Nat) : (kill w b).heap.size = w.heap.size := by simp [kill]
theorem at_push (w : World) (o : Obj) (b : Nat) : (World.push w o).heap[b]? = if b = w.heap.size then some o else w.heap[b]? := by
  simp only [World.push, Array.getElem?_push]
theorem at_set (w : World) (b c : Nat) (o : Obj) : (World.set w b o).heap[c]? = if c = b ∧ b < w.heap.size then some o else w.heap[c]? := by
  simp only [World.set, Array.getElem?_setIfInBounds]
  by_cases h : b = c
  · subst h
    by_cases hb : b < w.heap.size
    · simp [hb]
    · simp [hb]
  · rw [if_neg h, if_neg (fun hh => h hh.1.symm)]
theorem at_kill (w : World) (b c : Nat) : (kill w b).heap[c]? = if c = b ∧ b < w.heap.size then some dead else w.heap[c]? := at_set w b c dead
@[simp] theorem cells_push (w : World) (c : Array Value) (e : TypeId) (fz : Nat × Nat) (b : Nat) : cellsOf? (World.push w (.cells c e fz)) b = if b = w.heap.size then some (c, e, fz) else cellsOf? w b := by
  unfold cellsOf?; rw [at_push]; by_cases h : b = w.heap.size
  · rw [if_pos h, if_pos h]
  · rw [if_neg h, if_neg h]
@[simp] theorem cells_push_map (w : World) (es : Array MapEntry) (n : Nat) (b : Nat) : cellsOf? (World.push w (.map es n)) b = if b = w.heap.size then none else cellsOf? w b := by
  unfold cellsOf?; rw [at_push]; by_cases h : b = w.heap.size
  · rw [if_pos h, if_pos h]
  · rw [if_neg h, if_neg h]
@[simp] theorem maps_push (w : World) (c : Array Value) (e : TypeId) (fz : Nat × Nat) (b : Nat) : mapOf? (World.push w (.cells c e fz)) b = if b = w.heap.size then none else mapOf? w b := by
  unfold mapOf?; rw [at_push]; by_cases h : b = w.heap.size
  · rw [if_pos h, if_pos h]
  · rw [if_neg h, if_neg h]
@[simp] theorem maps_push_map (w : World) (es : Array MapEntry) (n : Nat) (b : Nat) : mapOf? (World.push w (.map es n)) b = if b = w.heap.size then some (es, n) else mapOf? w b := by
  unfold mapOf?; rw [at_push]; by_cases h : b = w.heap.size
  · rw [if_pos h, if_pos h]
  · rw [if_neg h, if_neg h]
@[simp] theorem cells_set (w : World) (c : Array Value) (e : TypeId) (fz : Nat × Nat) (d b : Nat) : cellsOf? (World.set w d (.cells c e fz)) b = if b = d ∧ d < w.heap.size then some (c, e, fz) else cellsOf? w b := by
  unfold cellsOf?; rw [at_set]; by_cases h : b = d ∧ d < w.heap.size
  · rw [if_pos h, if_pos h]
  · rw [if_neg h, if_neg h]
@[simp] theorem cells_set_map (w : World) (es : Array MapEntry) (n : Nat) (d b : Nat) : cellsOf? (World.set w d (.map es n)) b = if b = d ∧ d < w.heap.size then none else cellsOf? w b := by
  unfold cellsOf?; rw [at_set]; by_cases h : b = d ∧ d < w.heap.size
  · rw [if_pos h, if_pos h]
  · rw [if_neg h, if_neg h]
@[simp] theorem maps_set (w : World) (c : Array Value) (e : TypeId) (fz : Nat × Nat) (d b : Nat) : mapOf? (World.set w d (.cells c e fz)) b = if b = d ∧ d < w.heap.size then none else mapOf? w b := by
  unfold mapOf?; rw [at_set]; by_cases h : b = d ∧ d < w.heap.size
  · rw [if_pos h, if_pos h]
  · rw [if_neg h, if_neg h]
@[simp] theorem maps_set_map (w : World) (es : Array MapEntry) (n : Nat) (d b : Nat) : mapOf? (World.set w d (.map es n)) b = if b = d ∧ d < w.heap.size then some (es, n) else mapOf? w b := by
  unfold mapOf?; rw [at_set]; by_cases h : b = d ∧ d < w.heap.size
  · rw [if_pos h, if_pos h]
  · rw [if_neg h, if_neg h]
theorem cells_lt {w : World} {b : Nat} {x : Array Value × TypeId × (Nat × Nat)} (h : cellsOf? w b = some x) : b < w.heap.size := by
  obtain ⟨c, e, fz⟩ := x
  exact (Array.getElem?_eq_some_iff.1 (cellsOf?_spec h)).1
theorem maps_lt {w : World} {b : Nat} {x : Array MapEntry × Nat} (h : mapOf? w b = some x) : b < w.heap.size := by
  obtain ⟨c, n⟩ := x
  exact (Array.getElem?_eq_some_iff.1 (mapOf?_spec h)).1

section
variable {P : Program} {K : Kont} {fuel : Nat} {fn : FuncId} {ro : Option Nat} {n : Nat}
@[simp] theorem wpU_nil {ρ : Env} {w : World} {Q : Env → World → Prop} : wpU P K [] ρ w Q = Q ρ w := rfl
@[simp] theorem wpU_cons {o : SG} {l : List SG} {ρ : Env} {w : World} {Q : Env → World → Prop} : wpU P K (o :: l) ρ w Q = (sone P K (ev ρ) w o.o).all fun r => sagain P K (ρ.put o.d r.1) r.2 o.re = true ∧ wpU P K l (ρ.put o.d r.1) r.2 Q := rfl
@[simp] theorem skipU_nil {ρ : Env} : skipU [] ρ = ρ := rfl
@[simp] theorem skipU_cons {o : SG} {l : List SG} {ρ : Env} : skipU (o :: l) ρ = skipU l (ρ.put o.d undef) := rfl
@[simp] theorem sagain_nil {ρ : Env} {w : World} : sagain P K ρ w [] = true := rfl
@[simp] theorem sagain_cons {ρ : Env} {w : World} {r : SR} {l : List SR} : sagain P K ρ w (r :: l) = (((!wantS ρ r.g) || match sone P K (ev ρ) w r.o with | .ret (v, _) => (match r.d with | some d => veq 4 v (ρ d) | none => false) | _ => false) && sagain P K ρ w l) := rfl
@[simp] theorem want_none {ρ : Env} : wantS ρ none = true := rfl
@[simp] theorem want_no {ρ : Env} {b : Bool} : wantS ρ (some (none, b)) = false := rfl
@[simp] theorem want_some {ρ : Env} {d : Nat} {b : Bool} : wantS ρ (some (some d, b)) = match ρ d with | .bool c => c == b | _ => false := rfl
@[simp] theorem wpI_one {o : SG} {ρ : Env} {w : World} {Q : Env → World → Prop} : wpI P K (.one o) ρ w Q = wpG P K o ρ w fun ρ w => sagain P K ρ w o.re = true ∧ Q ρ w := rfl
@[simp] theorem wpI_plain {l : List SG} {ρ : Env} {w : World} {Q : Env → World → Prop} : wpI P K (.grp none l) ρ w Q = wpU P K l ρ w Q := rfl
@[simp] theorem wpI_grp {d : Nat} {b : Bool} {l : List SG} {ρ : Env} {w : World} {Q : Env → World → Prop} : wpI P K (.grp (some (some d, b)) l) ρ w Q = match ρ d with
    | .bool c => (c = b → wpU P K l (ρ.put (some d) (.bool b)) w Q) ∧ (c = !b → Q (skipU l (ρ.put (some d) (.bool !b))) w)
    | _ => Q (skipU l ρ) w := rfl
@[simp] theorem wpGs_nil {ρ : Env} {w : World} {Q : Env → World → Prop} : wpGs P K [] ρ w Q = Q ρ w := rfl
@[simp] theorem wpGs_cons {i : GI} {l : List GI} {ρ : Env} {w : World} {Q : Env → World → Prop} : wpGs P K (i :: l) ρ w Q = wpI P K i ρ w fun ρ w => wpGs P K l ρ w Q := rfl
@[simp] theorem gc_skip {ρ : Env} {ds : List Deferred} {w : World} {Q : SPost} : wpGC P K fuel fn ro n .skip ρ ds w Q = Q .normal ρ ds w := rfl
@[simp] theorem gc_ret {ρ : Env} {ds : List Deferred} {w : World} {Q : SPost} : wpGC P K fuel fn ro n .ret ρ ds w Q = Q .ret ρ ds w := rfl
@[simp] theorem gc_exit {id : Nat} {ρ : Env} {ds : List Deferred} {w : World} {Q : SPost} : wpGC P K fuel fn ro n (.exit id) ρ ds w Q = Q (.exit id) ρ ds w := rfl
@[simp] theorem gc_ops {l : List GI} {ρ : Env} {ds : List Deferred} {w : World} {Q : SPost} : wpGC P K fuel fn ro n (.ops l) ρ ds w Q = wpGs P K l ρ w fun ρ w => Q .normal ρ ds w := rfl
@[simp] theorem gc_seq {x y : GC} {ρ : Env} {ds : List Deferred} {w : World} {Q : SPost} : wpGC P K fuel fn ro n (.seq x y) ρ ds w Q = wpGC P K fuel fn ro n x ρ ds w fun e ρ ds w => match e with
    | .normal => wpGC P K fuel fn ro n y ρ ds w Q
    | e => Q e ρ ds w := rfl
@[simp] theorem gc_cond {c : Operand} {x y : GC} {ρ : Env} {ds : List Deferred} {w : World} {Q : SPost} : wpGC P K fuel fn ro n (.cond c x y) ρ ds w Q = match ev ρ c with
    | .bool b => (b = true → wpGC P K fuel fn ro n x ρ ds w Q) ∧ (b = false → wpGC P K fuel fn ro n y ρ ds w Q)
    | _ => False := rfl
@[simp] theorem gc_block {id : Nat} {c : GC} {ρ : Env} {ds : List Deferred} {w : World} {Q : SPost} : wpGC P K fuel fn ro n (.block id c) ρ ds w Q = wpGC P K fuel fn ro n c ρ ds w fun e ρ ds w => match e with
    | .exit id' => if id' = id then Q .normal ρ ds w else Q (.exit id') ρ ds w
    | e => Q e ρ ds w := rfl
@[simp] theorem gc_loop {c : GC} {ρ : Env} {ds : List Deferred} {w : World} {Q : SPost} : wpGC P K fuel fn ro n (.loop c) ρ ds w Q = wpLoop (wpGC P K fuel fn ro n c) fuel ρ ds w Q := rfl
@[simp] theorem fin_nil {w : World} {Q : World → Prop} : wpFin P [] w Q = Q w := rfl
@[simp] theorem resL_nil {ρ : Env} {w : World} : resL [] ρ w = some [] := rfl
@[simp] theorem resL_tmp {t : Tmp} {l : List RS} {ρ : Env} {w : World} : resL (⟨t, none⟩ :: l) ρ w = (resL l ρ w).map (ρ t :: ·) := rfl
@[simp] theorem resL_cell {t : Tmp} {k : Option Nat} {l : List RS} {ρ : Env} {w : World} : resL (⟨t, some k⟩ :: l) ρ w = match loadS k (ρ t) w with | .ret (v, _) => (resL l ρ w).map (v :: ·) | _ => none := rfl
@[simp] theorem oneOf_one {v : Value} : oneOf [v] = v := rfl
@[simp] theorem oneOf_two {v u : Value} {l : List Value} : oneOf (v :: u :: l) = .tuple (v :: u :: l).toArray := rfl
@[simp] theorem wpRes_eq {rs : List RS} {ρ : Env} {w : World} {Q : Value → Prop} : wpRes rs ρ w Q = match resL rs ρ w with | some vs => Q (oneOf vs) | none => False := rfl
variable {ρ : Regs} {w : World}
@[simp] theorem so_move {x : Operand} : sone P K ρ w (.move x) = .ret (ρ x, w) := rfl
@[simp] theorem so_box {e : TypeId} {x : Operand} : sone P K ρ w (.box e x) = .ret (.pointer (some ⟨w.heap.size, 0, none⟩), World.push w (.cells (ρ x).cells e)) := rfl
@[simp] theorem so_zero {e : TypeId} {z : Array Value} : sone P K ρ w (.zero e z) = .ret (.pointer (some ⟨w.heap.size, 0, none⟩), World.push w (.cells z e)) := rfl
@[simp] theorem so_build {ps : Array (Nat × Nat)} {z : Array Value} {parts : List (Nat × Operand)} : sone P K ρ w (.build ps z parts) = fillS ps z (partsOf ρ parts) w := rfl
@[simp] theorem so_row {e : TypeId} {size len : Nat} {z : Array Value} {parts : List (Nat × Operand)} : sone P K ρ w (.row e size len z parts) = rowS e size len z (partsOf ρ parts) w := rfl
@[simp] theorem so_load {k : Option Nat} {a : Operand} : sone P K ρ w (.load k a) = loadS k (ρ a) w := rfl
@[simp] theorem so_store {k : Nat} {a x : Operand} : sone P K ρ w (.store k a x) = storeS k (ρ a) (ρ x) w := rfl
@[simp] theorem so_nonnil {x : Operand} : sone P K ρ w (.nonnil x) = match ρ x with
    | .pointer (some a) => .ret (.pointer (some a), w)
    | _ => .bad := rfl
@[simp] theorem so_bin {op : BinOp} {t : TypeId} {x y : Operand} : sone P K ρ w (.bin op t x y) = binS P op t x y (ρ x) (ρ y) w := rfl
@[simp] theorem so_not {x : Operand} : sone P K ρ w (.un .not x) = match ρ x with
    | .bool b => .ret (.bool !b, w)
    | _ => .bad := by simp only [sone]; split <;> simp_all
@[simp] theorem so_faddr {off : Nat} {x : Operand} : sone P K ρ w (.faddr off x) = faddrS off (ρ x) w := rfl
@[simp] theorem so_part {k : Option Nat} {off : Nat} {x : Operand} : sone P K ρ w (.part k off x) = partS k off (ρ x) w := rfl
@[simp] theorem so_iaddr {size : Nat} {x ix : Operand} : sone P K ρ w (.iaddr size x ix) = iaddrS size (ρ x) (ρ ix) w := rfl
@[simp] theorem so_extract {x : Operand} {i : Nat} : sone P K ρ w (.extract x i) = extractS (ρ x) i w := rfl
@[simp] theorem so_len {x : Operand} : sone P K ρ w (.len x) = lenS (ρ x) w := rfl
@[simp] theorem so_lenMap {x : Operand} : sone P K ρ w (.lenMap x) = lenMapS (ρ x) w := rfl
@[simp] theorem so_slice {e : TypeId} {size : Nat} {x : Operand} {lo hi mx : Option Operand} : sone P K ρ w (.slice e size x lo hi mx) = sliceS e size (ρ x) (lo.map ρ) (hi.map ρ) (mx.map ρ) w := rfl
@[simp] theorem so_append {e : TypeId} {size bytes : Nat} {s x : Operand} : sone P K ρ w (.append e size bytes s x) = appendS e size bytes (ρ s) (ρ x) w := rfl
@[simp] theorem so_lookup {k : IntKind} {z : Value} {x ix : Operand} {ok : Bool} : sone P K ρ w (.lookup k z x ix ok) = lookupS k z (ρ x) (ρ ix) ok w := rfl
@[simp] theorem so_update {k : IntKind} {m ix v : Operand} : sone P K ρ w (.update k m ix v) = updateS k (ρ m) (ρ ix) (ρ v) w := rfl
@[simp] theorem so_delete {k : IntKind} {m ix : Operand} : sone P K ρ w (.delete k m ix) = deleteS k (ρ m) (ρ ix) w := rfl
@[simp] theorem so_makeMap : sone P K ρ w .makeMap = .ret (.map (some w.heap.size), World.push w (.map #[] 0)) := rfl
@[simp] theorem so_pick {c a b : Operand} : sone P K ρ w (.pick c a b) = match ρ c with
    | .bool x => .ret (if x then ρ a else ρ b, w)
    | _ => .bad := rfl
@[simp] theorem so_conv {k : IntKind} {x : Operand} : sone P K ρ w (.conv k x) = match ρ x with
    | .int _ n => .ret (.int k (k.wrap n), w)
    | _ => .bad := rfl
@[simp] theorem so_imax {x y : Operand} : sone P K ρ w (.imax x y) = match ρ x, ρ y with
    | .int k a, .int j b => if k = j then .ret (.int k (if b > a then b else a), w) else .bad
    | _, _ => .bad := rfl
@[simp] theorem so_fn {f : FuncId} {cap : Array Operand} : sone P K ρ w (.fn f cap) = .ret (.func (.func f) #[] (cap.map ρ), w) := rfl
@[simp] theorem so_call {f : FuncId} {args : Array Operand} : sone P K ρ w (.call f args) = K.enter f (args.map ρ) w := rfl

@[simp] theorem so_callv {x : Operand} {args : Array Operand} : sone P K ρ w (.callv x args) = callV P K (ρ x) (args.map ρ) w := rfl
@[simp] theorem bin_int {op : BinOp} {t : TypeId} {o1 o2 : Operand} {k j : IntKind} {a b : Int} {w : World} : binS P op t o1 o2 (.int k a) (.int j b) w = if (op = .shl ∨ op = .shr) ∨ k = j then (arith op k a b).bind fun v => .ret (v, w) else .bad := rfl
@[simp] theorem ar_add {k : IntKind} {a b : Int} : arith .add k a b = .ret (.int k (k.wrap (a + b))) := rfl
@[simp] theorem ar_sub {k : IntKind} {a b : Int} : arith .sub k a b = .ret (.int k (k.wrap (a - b))) := rfl
@[simp] theorem ar_mul {k : IntKind} {a b : Int} : arith .mul k a b = .ret (.int k (k.wrap (a * b))) := rfl
@[simp] theorem ar_quo {k : IntKind} {a b : Int} : arith .quo k a b = if b = 0 then .bad else .ret (.int k (k.wrap (a.tdiv b))) := rfl
@[simp] theorem ar_rem {k : IntKind} {a b : Int} : arith .rem k a b = if b = 0 then .bad else .ret (.int k (a.tmod b)) := rfl
@[simp] theorem ar_eql {k : IntKind} {a b : Int} : arith .eql k a b = .ret (.bool (decide (a = b))) := rfl
@[simp] theorem ar_neq {k : IntKind} {a b : Int} : arith .neq k a b = .ret (.bool (!decide (a = b))) := rfl
@[simp] theorem ar_lss {k : IntKind} {a b : Int} : arith .lss k a b = .ret (.bool (decide (a < b))) := rfl
@[simp] theorem ar_leq {k : IntKind} {a b : Int} : arith .leq k a b = .ret (.bool (decide (a ≤ b))) := rfl
@[simp] theorem ar_gtr {k : IntKind} {a b : Int} : arith .gtr k a b = .ret (.bool (decide (b < a))) := rfl
@[simp] theorem ar_geq {k : IntKind} {a b : Int} : arith .geq k a b = .ret (.bool (decide (b ≤ a))) := rfl
@[simp] theorem ar_shl {a b : Int} : arith .shl .i64 a b = if b < 0 then .bad else .ret (.int .i64 (IntKind.i64.wrap (a * 2 ^ (min b.toNat 64)))) := rfl
@[simp] theorem ar_shr {a b : Int} : arith .shr .i64 a b = if b < 0 then .bad else .ret (.int .i64 (a.fdiv (2 ^ (min b.toNat 64)))) := rfl
def and64 (a b : Int) : Int := IntKind.i64.wrap (BitVec.ofInt 64 a &&& BitVec.ofInt 64 b).toNat
def andNot64 (a b : Int) : Int := IntKind.i64.wrap (BitVec.ofInt 64 a &&& ~~~ BitVec.ofInt 64 b).toNat
@[simp] theorem ar_and {a b : Int} : arith .and .i64 a b = .ret (.int .i64 (and64 a b)) := rfl
@[simp] theorem ar_andNot {a b : Int} : arith .andNot .i64 a b = .ret (.int .i64 (andNot64 a b)) := rfl

@[simp] theorem load_one {b o : Nat} {w : World} : loadS none (.pointer (some ⟨b, o, none⟩)) w = match cellsOf? w b with
    | some (c, _, _) => (match c[o]? with
      | some v => .ret (v, w)
      | none => .bad)
    | none => .bad := rfl
@[simp] theorem load_row {k b o : Nat} {w : World} : loadS (some k) (.pointer (some ⟨b, o, none⟩)) w = match cellsOf? w b with
    | some (c, _, _) => if o + k ≤ c.size then .ret (.agg (c.extract o (o + k)), w) else .bad
    | none => .bad := rfl
@[simp] theorem faddr_at {off b o : Nat} {w : World} : faddrS off (.pointer (some ⟨b, o, none⟩)) w = .ret (.pointer (some ⟨b, o + off, none⟩), w) := rfl
@[simp] theorem part_one {off : Nat} {cs : Array Value} {w : World} : partS none off (.agg cs) w = match cs[off]? with
    | some v => .ret (v, w)
    | none => .bad := rfl
@[simp] theorem part_row {k off : Nat} {cs : Array Value} {w : World} : partS (some k) off (.agg cs) w = .ret (.agg (cs.extract off (off + k)), w) := rfl
@[simp] theorem iaddr_at {size b o len cap : Nat} {k : IntKind} {i : Int} {w : World} : iaddrS size (.slice (some ⟨b, o, none⟩) len cap) (.int k i) w = if 0 ≤ i ∧ i < len then .ret (.pointer (some ⟨b, o + i.toNat * size, none⟩), w) else .bad := rfl
@[simp] theorem extract_at {vs : Array Value} {i : Nat} {w : World} : extractS (.tuple vs) i w = match vs[i]? with
    | some v => .ret (v, w)
    | none => .bad := rfl
@[simp] theorem len_at {b : Option Addr} {l c : Nat} {w : World} : lenS (.slice b l c) w = .ret (.int .i64 (l : Int), w) := rfl
@[simp] theorem veq_int {m : Nat} {j k : IntKind} {a b : Int} : veq m (.int j a) (.int k b) = (j == k && a == b) := by cases m <;> rfl
@[simp] theorem veq_bool {m : Nat} {a b : Bool} : veq m (.bool a) (.bool b) = (a == b) := by cases m <;> rfl
@[simp] theorem veq_slice {m : Nat} {a b : Option Addr} {l c l' c' : Nat} : veq m (.slice a l c) (.slice b l' c') = (a == b && l == l' && c == c') := by cases m <;> rfl
@[simp] theorem veq_ptr {m : Nat} {a b : Option Addr} : veq m (.pointer a) (.pointer b) = (a == b) := by cases m <;> rfl
@[simp] theorem veq_map {m : Nat} {a b : Option Nat} : veq m (.map a) (.map b) = (a == b) := by cases m <;> rfl
@[simp] theorem cells_int {k : IntKind} {n : Int} : (Value.int k n).cells = #[.int k n] := rfl
@[simp] theorem cells_bool {b : Bool} : (Value.bool b).cells = #[.bool b] := rfl
@[simp] theorem cells_slice {b : Option Addr} {l c : Nat} : (Value.slice b l c).cells = #[.slice b l c] := rfl
@[simp] theorem cells_ptr {b : Option Addr} : (Value.pointer b).cells = #[.pointer b] := rfl
@[simp] theorem cells_mapv {b : Option Nat} : (Value.map b).cells = #[.map b] := rfl
@[simp] theorem cells_agg {cs : Array Value} : (Value.agg cs).cells = cs := rfl
end

/-! ### Loops -/
section
variable {P : Program} {K : Kont}
theorem wpGs_mono : ∀ {l : List GI} {ρ : Env} {w : World} {Q Q' : Env → World → Prop}, (∀ ρ w, Q ρ w → Q' ρ w) → wpGs P K l ρ w Q → wpGs P K l ρ w Q' := by
  have hU : ∀ {l : List SG} {ρ : Env} {w : World} {Q Q' : Env → World → Prop}, (∀ ρ w, Q ρ w → Q' ρ w) → wpU P K l ρ w Q → wpU P K l ρ w Q' := by
    intro l
    induction l with
    | nil => intro ρ w Q Q' h hw; exact h _ _ hw
    | cons o l ih => intro ρ w Q Q' h hw; exact T.all_mono (fun r hr => ⟨hr.1, ih h hr.2⟩) hw
  intro l
  induction l with
  | nil => intro ρ w Q Q' h hw; exact h _ _ hw
  | cons i l ih =>
    intro ρ w Q Q' h hw
    rw [wpGs_cons] at hw ⊢
    unfold wpI at hw ⊢
    split at hw
    · exact wpG_mono (fun _ _ hr => ⟨hr.1, ih h hr.2⟩) hw
    · exact hU (fun _ _ hr => ih h hr) hw
    · exact ih h hw
    · split at hw
      · rename_i c hc
        simp only [hc]
        exact ⟨fun hh => hU (fun _ _ hr => ih h hr) (hw.1 hh), fun hh => ih h (hw.2 hh)⟩
      · exact ih h hw

theorem wpGC_mono {fuel : Nat} {fn : FuncId} {ro : Option Nat} {n : Nat} : ∀ (c : GC) {ρ : Env} {ds : List Deferred} {w : World} {Q Q' : SPost}, (∀ e ρ ds w, Q e ρ ds w → Q' e ρ ds w) → wpGC P K fuel fn ro n c ρ ds w Q → wpGC P K fuel fn ro n c ρ ds w Q' := by
  intro c
  induction c with
  | skip => intro ρ ds w Q Q' h hw; exact h _ _ _ _ hw
  | ret => intro ρ ds w Q Q' h hw; exact h _ _ _ _ hw
  | bad => intro ρ ds w Q Q' h hw; exact hw
  | exit id => intro ρ ds w Q Q' h hw; exact h _ _ _ _ hw
  | ops l => intro ρ ds w Q Q' h hw; exact wpGs_mono (fun _ _ hr => h _ _ _ _ hr) hw
  | seq x y ihx ihy =>
    intro ρ ds w Q Q' h hw
    refine ihx (fun e ρ ds w hr => ?_) hw
    cases e with
    | normal => exact ihy h hr
    | _ => exact h _ _ _ _ hr
  | cond c x y ihx ihy =>
    intro ρ ds w Q Q' h hw
    unfold wpGC at hw ⊢
    split
    · rename_i b hb
      rw [hb] at hw
      exact ⟨fun hh => ihx h (hw.1 hh), fun hh => ihy h (hw.2 hh)⟩
    · rename_i hb
      split at hw
      · rename_i b hb2; exact absurd hb2 (hb b)
      · exact hw
  | block id c ih =>
    intro ρ ds w Q Q' h hw
    refine ih (fun e ρ ds w hr => ?_) hw
    cases e with
    | exit id' =>
      simp only at hr ⊢
      split at hr
      · rename_i hi; rw [if_pos hi]; exact h _ _ _ _ hr
      · rename_i hi; rw [if_neg hi]; exact h _ _ _ _ hr
    | _ => exact h _ _ _ _ hr
  | loop c ih => intro ρ ds w Q Q' h hw; exact wpLoop_mono (body := wpGC P K fuel fn ro n c) (fun _ _ _ _ _ h hw => ih h hw) fuel h hw
  | rangeFunc g ps assign body => intro ρ ds w Q Q' h hw; exact wpC_mono _ h hw

/-- A loop: what holds ahead of each round, with a number that falls. -/
theorem loop_rule {fuel : Nat} {fn : FuncId} {ro : Option Nat} {n : Nat} {c : GC} {ds : List Deferred} {Q : SPost} (Inv : Nat → Env → World → Prop)
    (h : ∀ k ρ w, Inv k ρ w → wpGC P K fuel fn ro n c ρ ds w fun e ρ' ds' w' => match e with
      | .normal => ds' = ds ∧ ∃ k', k' < k ∧ Inv k' ρ' w'
      | e => Q e ρ' ds' w') : ∀ (m k : Nat) (ρ : Env) (w : World), Inv k ρ w → k < m → wpLoop (wpGC P K fuel fn ro n c) m ρ ds w Q
  | 0, k, ρ, w, _, hk => absurd hk (Nat.not_lt_zero _)
  | m + 1, k, ρ, w, hi, hk => by
    unfold wpLoop
    refine wpGC_mono c (fun e ρ' ds' w' hr => ?_) (h k ρ w hi)
    cases e with
    | normal =>
      obtain ⟨rfl, k', hk', hi'⟩ := hr
      exact loop_rule Inv h m k' ρ' w' hi' (by omega)
    | _ => exact hr
end
end Go.Ideal
