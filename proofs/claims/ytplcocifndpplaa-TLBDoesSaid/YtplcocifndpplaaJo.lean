/-
  Reckoning from the front: what is still to be done is data.
-/
import Derived.Test.YtplcocifndpplaaJn
namespace Go.Ideal
open Go

inductive FI where
  | code (c : GC)
  | blk (id : Nat)

structure Cx where
  P : Program
  K : Kont
  fuel : Nat
  fn : FuncId
  ro : Option Nat
  n : Nat
  Q : SPost

def kont (X : Cx) : List FI → SPost
  | [] => X.Q
  | .code y :: k => fun e ρ ds w => match e with
    | .normal => wpGC X.P X.K X.fuel X.fn X.ro X.n y ρ ds w (kont X k)
    | e => kont X k e ρ ds w
  | .blk id :: k => fun e ρ ds w => match e with
    | .exit id' => if id' = id then kont X k .normal ρ ds w else kont X k (.exit id') ρ ds w
    | e => kont X k e ρ ds w

def goN (X : Cx) (k : List FI) (ρ : Env) (ds : List Deferred) (w : World) : Prop := kont X k .normal ρ ds w
def goR (X : Cx) (k : List FI) (ρ : Env) (ds : List Deferred) (w : World) : Prop := kont X k .ret ρ ds w
def goE (X : Cx) (id : Nat) (k : List FI) (ρ : Env) (ds : List Deferred) (w : World) : Prop := kont X k (.exit id) ρ ds w
def codeR (X : Cx) (c : GC) (k : List FI) (ρ : Env) (ds : List Deferred) (w : World) : Prop := wpGC X.P X.K X.fuel X.fn X.ro X.n c ρ ds w (kont X k)
def opsR (X : Cx) (l : List GI) (k : List FI) (ρ : Env) (ds : List Deferred) (w : World) : Prop := wpGs X.P X.K l ρ w fun ρ w => goN X k ρ ds w
def uR (X : Cx) (m : List SG) (l : List GI) (k : List FI) (ρ : Env) (ds : List Deferred) (w : World) : Prop := wpU X.P X.K m ρ w fun ρ w => opsR X l k ρ ds w
def againA (X : Cx) (re : List SR) (m : List SG) (l : List GI) (k : List FI) (ρ : Env) (ds : List Deferred) (w : World) : Prop := sagain X.P X.K ρ w re = true ∧ uR X m l k ρ ds w
def valA (X : Cx) (d : Option Nat) (re : List SR) (m : List SG) (l : List GI) (k : List FI) (t : T (Value × World)) (ρ : Env) (ds : List Deferred) : Prop := t.all fun r => againA X re m l k (ρ.put d r.1) ds r.2
def grpA (X : Cx) (v : Value) (d : Nat) (b : Bool) (m : List SG) (l : List GI) (k : List FI) (ρ : Env) (ds : List Deferred) (w : World) : Prop := match v with
  | .bool c => (c = b → uR X m l k (ρ.put (some d) (.bool b)) ds w) ∧ (c = !b → opsR X l k (skipU m (ρ.put (some d) (.bool !b))) ds w)
  | _ => opsR X l k (skipU m ρ) ds w
def condA (X : Cx) (v : Value) (x y : GC) (k : List FI) (ρ : Env) (ds : List Deferred) (w : World) : Prop := match v with
  | .bool b => (b = true → codeR X x k ρ ds w) ∧ (b = false → codeR X y k ρ ds w)
  | _ => False
def loopA (X : Cx) (c : GC) (k : List FI) (ρ : Env) (ds : List Deferred) (w : World) : Prop := wpLoop (wpGC X.P X.K X.fuel X.fn X.ro X.n c) X.fuel ρ ds w (kont X k)
def oneA (X : Cx) (o : SG) (l : List GI) (k : List FI) (ρ : Env) (ds : List Deferred) (w : World) : Prop := wpG X.P X.K o ρ w fun ρ w => sagain X.P X.K ρ w o.re = true ∧ opsR X l k ρ ds w

/-- What is to hold behind a function. -/
def finPost (P : Program) (res : List RS) (Q : Value → World → Prop) : SPost := fun e ρ ds w => (e = .normal ∨ e = .ret) ∧ wpFin P ds w fun w => wpRes res ρ w fun v => Q v w

section
variable {X : Cx} {ρ : Env} {ds : List Deferred} {w : World} {k : List FI} {l : List GI} {m : List SG}

theorem gfn_start {P : Program} {K : Kont} {fuel : Nat} {f : FuncId} {gf : GFn} {args : Array Value} {Q : Value → World → Prop} :
    wpGFn P K fuel f gf args w Q ↔ args.size ≤ gf.n ∧ codeR ⟨P, K, fuel, f, none, gf.n, finPost P gf.res Q⟩ gf.body [] (Env.of args) [] w := Iff.rfl
theorem code_start {P : Program} {K : Kont} {fuel : Nat} {fn : FuncId} {ro : Option Nat} {n : Nat} {c : GC} {Q : SPost} : wpGC P K fuel fn ro n c ρ ds w Q ↔ codeR ⟨P, K, fuel, fn, ro, n, Q⟩ c [] ρ ds w := Iff.rfl

@[simp] theorem kont_exit {id : Nat} : kont X k (.exit id) ρ ds w = goE X id k ρ ds w := rfl
@[simp] theorem kont_ret : kont X k .ret ρ ds w = goR X k ρ ds w := rfl
@[simp] theorem kont_normal : kont X k .normal ρ ds w = goN X k ρ ds w := rfl
@[simp] theorem goN_nil : goN X [] ρ ds w = X.Q .normal ρ ds w := rfl
@[simp] theorem goN_code {y : GC} : goN X (.code y :: k) ρ ds w = codeR X y k ρ ds w := rfl
@[simp] theorem goN_blk {id : Nat} : goN X (.blk id :: k) ρ ds w = goN X k ρ ds w := rfl
@[simp] theorem goR_nil : goR X [] ρ ds w = X.Q .ret ρ ds w := rfl
@[simp] theorem goR_code {y : GC} : goR X (.code y :: k) ρ ds w = goR X k ρ ds w := rfl
@[simp] theorem goR_blk {id : Nat} : goR X (.blk id :: k) ρ ds w = goR X k ρ ds w := rfl
@[simp] theorem goE_nil {id : Nat} : goE X id [] ρ ds w = X.Q (.exit id) ρ ds w := rfl
@[simp] theorem goE_code {id : Nat} {y : GC} : goE X id (.code y :: k) ρ ds w = goE X id k ρ ds w := rfl
@[simp] theorem goE_blk {id id' : Nat} : goE X id (.blk id' :: k) ρ ds w = if id = id' then goN X k ρ ds w else goE X id k ρ ds w := rfl
@[simp] theorem codeR_skip : codeR X .skip k ρ ds w = goN X k ρ ds w := rfl
@[simp] theorem codeR_ret : codeR X .ret k ρ ds w = goR X k ρ ds w := rfl
@[simp] theorem codeR_exit {id : Nat} : codeR X (.exit id) k ρ ds w = goE X id k ρ ds w := rfl
@[simp] theorem codeR_bad : codeR X .bad k ρ ds w = False := rfl
@[simp] theorem codeR_seq {x y : GC} : codeR X (.seq x y) k ρ ds w = codeR X x (.code y :: k) ρ ds w := rfl
@[simp] theorem codeR_block {id : Nat} {c : GC} : codeR X (.block id c) k ρ ds w = codeR X c (.blk id :: k) ρ ds w := rfl
@[simp] theorem codeR_ops {l : List GI} : codeR X (.ops l) k ρ ds w = opsR X l k ρ ds w := rfl
@[simp] theorem codeR_cond {c : Operand} {x y : GC} : codeR X (.cond c x y) k ρ ds w = condA X (ev ρ c) x y k ρ ds w := rfl
@[simp] theorem codeR_loop {c : GC} : codeR X (.loop c) k ρ ds w = loopA X c k ρ ds w := rfl
@[simp high] theorem condA_true {x y : GC} : condA X (.bool true) x y k ρ ds w = codeR X x k ρ ds w := by simp [condA]
@[simp high] theorem condA_false {x y : GC} : condA X (.bool false) x y k ρ ds w = codeR X y k ρ ds w := by simp [condA]
@[simp] theorem condA_decide {p : Prop} [Decidable p] {x y : GC} : condA X (.bool (decide p)) x y k ρ ds w = ((p → codeR X x k ρ ds w) ∧ (¬ p → codeR X y k ρ ds w)) := by simp [condA]
@[simp low] theorem condA_bool {b : Bool} {x y : GC} : condA X (.bool b) x y k ρ ds w = ((b = true → codeR X x k ρ ds w) ∧ (b = false → codeR X y k ρ ds w)) := rfl
@[simp] theorem opsR_nil : opsR X [] k ρ ds w = goN X k ρ ds w := rfl
@[simp] theorem opsR_plain : opsR X (.grp none m :: l) k ρ ds w = uR X m l k ρ ds w := rfl
@[simp] theorem opsR_no {b : Bool} : opsR X (.grp (some (none, b)) m :: l) k ρ ds w = opsR X l k (skipU m ρ) ds w := rfl
@[simp] theorem opsR_grp {d : Nat} {b : Bool} : opsR X (.grp (some (some d, b)) m :: l) k ρ ds w = grpA X (ρ d) d b m l k ρ ds w := rfl
@[simp] theorem opsR_one {o : SG} : opsR X (.one o :: l) k ρ ds w = oneA X o l k ρ ds w := rfl
@[simp] theorem uR_nil : uR X [] l k ρ ds w = opsR X l k ρ ds w := rfl
@[simp] theorem uR_cons {o : SG} : uR X (o :: m) l k ρ ds w = valA X o.d o.re m l k (sone X.P X.K (ev ρ) w o.o) ρ ds := rfl
@[simp] theorem valA_ret {d : Option Nat} {re : List SR} {v : Value} {w' : World} : valA X d re m l k (.ret (v, w')) ρ ds = againA X re m l k (ρ.put d v) ds w' := rfl
@[simp] theorem valA_bad {d : Option Nat} {re : List SR} : valA X d re m l k .bad ρ ds = False := rfl
@[simp] theorem valA_ite {d : Option Nat} {re : List SR} {c : Prop} [Decidable c] {x y : T (Value × World)} : valA X d re m l k (if c then x else y) ρ ds = ((c → valA X d re m l k x ρ ds) ∧ (¬ c → valA X d re m l k y ρ ds)) := by
  by_cases h : c <;> simp [h]
@[simp] theorem againA_nil : againA X [] m l k ρ ds w = uR X m l k ρ ds w := by simp [againA]
@[simp] theorem againA_cons {r : SR} {re : List SR} : againA X (r :: re) m l k ρ ds w = (sagain X.P X.K ρ w (r :: re) = true ∧ uR X m l k ρ ds w) := rfl
@[simp high] theorem grpA_tt {d : Nat} : grpA X (.bool true) d true m l k ρ ds w = uR X m l k (ρ.put (some d) (.bool true)) ds w := by simp [grpA]
@[simp high] theorem grpA_ff {d : Nat} : grpA X (.bool false) d false m l k ρ ds w = uR X m l k (ρ.put (some d) (.bool false)) ds w := by simp [grpA]
@[simp high] theorem grpA_tf {d : Nat} : grpA X (.bool true) d false m l k ρ ds w = opsR X l k (skipU m (ρ.put (some d) (.bool true))) ds w := by simp [grpA]
@[simp high] theorem grpA_ft {d : Nat} : grpA X (.bool false) d true m l k ρ ds w = opsR X l k (skipU m (ρ.put (some d) (.bool false))) ds w := by simp [grpA]
@[simp] theorem grpA_dt {d : Nat} {p : Prop} [Decidable p] : grpA X (.bool (decide p)) d true m l k ρ ds w = ((p → uR X m l k (ρ.put (some d) (.bool true)) ds w) ∧ (¬ p → opsR X l k (skipU m (ρ.put (some d) (.bool false))) ds w)) := by simp [grpA]
@[simp] theorem grpA_df {d : Nat} {p : Prop} [Decidable p] : grpA X (.bool (decide p)) d false m l k ρ ds w = ((¬ p → uR X m l k (ρ.put (some d) (.bool false)) ds w) ∧ (p → opsR X l k (skipU m (ρ.put (some d) (.bool true))) ds w)) := by simp [grpA]
@[simp low] theorem grpA_bool {d : Nat} {b c : Bool} : grpA X (.bool c) d b m l k ρ ds w = ((c = b → uR X m l k (ρ.put (some d) (.bool b)) ds w) ∧ (c = !b → opsR X l k (skipU m (ρ.put (some d) (.bool !b))) ds w)) := rfl
@[simp] theorem grpA_undef {d : Nat} {b : Bool} : grpA X undef d b m l k ρ ds w = opsR X l k (skipU m ρ) ds w := rfl

@[simp] theorem finPost_ret {P : Program} {res : List RS} {Q : Value → World → Prop} : finPost P res Q .ret ρ [] w = wpRes res ρ w fun v => Q v w := by simp [finPost]
@[simp] theorem finPost_normal {P : Program} {res : List RS} {Q : Value → World → Prop} : finPost P res Q .normal ρ [] w = wpRes res ρ w fun v => Q v w := by simp [finPost]

/-- A call whose outcome is known. -/
theorem valA_of {d : Option Nat} {re : List SR} {t : T (Value × World)} {R : Value × World → Prop} (h : t.all R) (hk : ∀ v w, R (v, w) → againA X re m l k (ρ.put d v) ds w) : valA X d re m l k t ρ ds := T.all_mono (fun r hr => hk r.1 r.2 hr) h

/-- A loop. -/
theorem loop_go {c : GC} (Inv : Nat → Env → World → Prop) (h : ∀ i ρ w, Inv i ρ w → codeR ⟨X.P, X.K, X.fuel, X.fn, X.ro, X.n, fun e ρ' ds' w' => match e with
      | .normal => ds' = ds ∧ ∃ i', i' < i ∧ Inv i' ρ' w'
      | e => kont X k e ρ' ds' w'⟩ c [] ρ ds w) {i : Nat} (hi : Inv i ρ w) (hlt : i < X.fuel) : loopA X c k ρ ds w := loop_rule Inv h X.fuel i ρ w hi hlt
end
end Go.Ideal
