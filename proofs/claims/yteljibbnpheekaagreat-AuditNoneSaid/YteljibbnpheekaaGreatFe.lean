/-
  The fast evaluator: small words, functions, calls; what it says holds.
-/
import Derived.Test.YteljibbnpheekaaGreatFf
import Derived.Test.YteljibbnpheekaaGreatFl
namespace Go.Ideal
open Go
noncomputable def T.tb {α β : Type} (t : T α) (f : α → T β) : T β := T.rec (motive := fun _ => T β) f .bad (fun n _ h => .pick n h) t
theorem T.tb_all {α β : Type} {t : T α} {f : α → T β} {Q : β → Prop} : (t.tb f).all Q ↔ t.all fun a => (f a).all Q := by
  induction t with
  | ret a => exact Iff.rfl
  | bad => exact Iff.rfl
  | pick n k ih =>
    show (0 < n ∧ ∀ i, i < n → ((k i).tb f).all Q) ↔ (0 < n ∧ ∀ i, i < n → (k i).all _)
    constructor
    · rintro ⟨h1, h2⟩; exact ⟨h1, fun i hi => (ih i).1 (h2 i hi)⟩
    · rintro ⟨h1, h2⟩; exact ⟨h1, fun i hi => (ih i).2 (h2 i hi)⟩
theorem fget_of (a : Array Value) : fget (Tr.put a.toList .lf 0) = Env.of a := by
  funext i
  rw [fget_eq, Tr.get_put, Env.of, Tr.get_lf]
  by_cases h : i < a.size
  · rw [if_pos (by simp; exact h)]; simp [h]
  · rw [if_neg (by simp; omega)]; simp [h]
noncomputable def nilCmpF (P : Program) (op : BinOp) (t : TypeId) (w : FW) : T (Value × FW) :=
  match P.underlying t, op with
  | some (.interface _), .eql => .ret (.bool false, w)
  | some (.interface _), .neq => .ret (.bool true, w)
  | _, _ => .bad
theorem run_nilEq {P : Program} {t : TypeId} {ms : Array (String × TypeId)} (hu : P.underlying t = some (.interface ms)) {x y : Value} (h : (∃ u v, x = .iface u v ∧ y = .nilIface) ∨ (∃ u v, x = .nilIface ∧ y = .iface u v)) (w : World) : (Op.equal t x y).run P w = .ok false w := by
  unfold Op.equal
  obtain ⟨d, hd⟩ : ∃ d, Op.maxDepth = d + 1 := ⟨Op.maxDepth - 1, by unfold Op.maxDepth; omega⟩
  rw [hd]
  rcases h with ⟨u, v, rfl, rfl⟩ | ⟨u, v, rfl, rfl⟩ <;>
    (unfold Op.equalIn; simp only [Sem.run_bind, run_underlying' hu, Result.andThen, Sem.run_pure])
theorem nilCmp_tr {fw : FW} {w : World} (hs : SimW fw w) (P : Program) (op : BinOp) (t : TypeId) (o1 o2 : Operand) {x y : Value} (h : (∃ u v, x = .iface u v ∧ y = .nilIface) ∨ (∃ u v, x = .nilIface ∧ y = .iface u v)) : TR (nilCmpF P op t fw) (binS P op t o1 o2 x y w) := by
  have guard : ∀ op, eqGuard op t o1 o2 x y = Pure.pure () := fun op => by
    rcases h with ⟨u, v, rfl, rfl⟩ | ⟨u, v, rfl, rfl⟩ <;> (unfold eqGuard; cases op <;> rfl)
  have e1 : binOp .eql t x y = (do pure (.bool (← Op.equal t x y))) := by
    rcases h with ⟨u, v, rfl, rfl⟩ | ⟨u, v, rfl, rfl⟩ <;> rfl
  have e2 : binOp .neq t x y = (do pure (.bool (!(← Op.equal t x y)))) := by
    rcases h with ⟨u, v, rfl, rfl⟩ | ⟨u, v, rfl, rfl⟩ <;> rfl
  have b1 : ∀ op, binS P op t o1 o2 x y w = if binFit P op t x y then ofRun ((do eqGuard op t o1 o2 x y; binOp op t x y : Sem Value).run P w) else .bad := fun op => by
    rcases h with ⟨u, v, rfl, rfl⟩ | ⟨u, v, rfl, rfl⟩ <;> rfl
  unfold nilCmpF
  split
  · rename_i ms hu
    have hf : binFit P .eql t x y = true := by rcases h with ⟨u, v, rfl, rfl⟩ | ⟨u, v, rfl, rfl⟩ <;> rfl
    have : binS P .eql t o1 o2 x y w = .ret (.bool false, w) := by
      rw [b1, hf, guard, e1]
      simp only [if_true, Sem.run_bind, Sem.run_pure, Result.andThen, run_nilEq hu h, ofRun]
    rw [this]; exact .ret hs
  · rename_i ms hu
    have hf : binFit P .neq t x y = true := by rcases h with ⟨u, v, rfl, rfl⟩ | ⟨u, v, rfl, rfl⟩ <;> rfl
    have : binS P .neq t o1 o2 x y w = .ret (.bool true, w) := by
      rw [b1, hf, guard, e2]
      simp only [if_true, Sem.run_bind, Sem.run_pure, Result.andThen, run_nilEq hu h, ofRun, Bool.not_false]
    rw [this]; exact .ret hs
  · exact .bad _
noncomputable def ptrCmpF (P : Program) (op : BinOp) (t : TypeId) (b : Bool) (w : FW) : T (Value × FW) :=
  match P.underlying t, op with
  | some (.pointer _), .eql => .ret (.bool b, w)
  | some (.pointer _), .neq => .ret (.bool (not b), w)
  | _, _ => .bad
theorem run_ptrEq {P : Program} {t e : TypeId} (hu : P.underlying t = some (.pointer e)) (a : Option Addr) (w : World) : (Op.equal t (.pointer a) (.pointer none)).run P w = .ok (Option.rec true (fun _ => false) a) w := by
  unfold Op.equal
  obtain ⟨d, hd⟩ : ∃ d, Op.maxDepth = d + 1 := ⟨Op.maxDepth - 1, by unfold Op.maxDepth; omega⟩
  rw [hd]
  unfold Op.equalIn
  cases a <;> (simp only [Sem.run_bind, run_underlying' hu, Result.andThen, Sem.run_pure]; first | rfl | done)
theorem ptrCmp_tr {fw : FW} {w : World} (hs : SimW fw w) (P : Program) (op : BinOp) (t : TypeId) (o1 o2 : Operand) (a : Option Addr) : TR (ptrCmpF P op t (Option.rec true (fun _ => false) a) fw) (binS P op t o1 o2 (.pointer a) (.pointer none) w) := by
  have guard : ∀ op, eqGuard op t o1 o2 (.pointer a) (.pointer none) = Pure.pure () := fun op => by
    unfold eqGuard; cases op <;> rfl
  have e1 : binOp .eql t (.pointer a) (.pointer none) = (do pure (.bool (← Op.equal t (.pointer a) (.pointer none)))) := by cases a <;> rfl
  have e2 : binOp .neq t (.pointer a) (.pointer none) = (do pure (.bool (!(← Op.equal t (.pointer a) (.pointer none))))) := by cases a <;> rfl
  have b1 : ∀ op, binS P op t o1 o2 (.pointer a) (.pointer none) w = if binFit P op t (.pointer a) (.pointer none) then ofRun ((do eqGuard op t o1 o2 (.pointer a) (.pointer none); binOp op t (.pointer a) (.pointer none) : Sem Value).run P w) else .bad := fun op => rfl
  unfold ptrCmpF
  split
  · rename_i e hu
    have hf : binFit P .eql t (.pointer a) (.pointer none) = true := by
      unfold binFit eqTy
      rw [hu]
      cases a <;> rfl
    have : binS P .eql t o1 o2 (.pointer a) (.pointer none) w = .ret (.bool (Option.rec true (fun _ => false) a), w) := by
      rw [b1, hf, guard, e1]
      simp only [if_true, Sem.run_bind, Sem.run_pure, Result.andThen, run_ptrEq hu, ofRun]
    rw [this]; exact .ret hs
  · rename_i e hu
    have hf : binFit P .neq t (.pointer a) (.pointer none) = true := by
      unfold binFit eqTy
      rw [hu]
      cases a <;> rfl
    have : binS P .neq t o1 o2 (.pointer a) (.pointer none) w = .ret (.bool (not (Option.rec true (fun _ => false) a)), w) := by
      rw [b1, hf, guard, e2]
      simp only [if_true, Sem.run_bind, Sem.run_pure, Result.andThen, run_ptrEq hu, ofRun]
    rw [this]; exact .ret hs
  · exact .bad _
noncomputable def bin2F (P : Program) (op : BinOp) (t : TypeId) (o1 o2 : Operand) (x y : Value) (w : FW) : T (Value × FW) :=
  match x, y with
  | .int k a, .int j b => match Nat.beq (kIx k) (kIx j), intOp op k a b with
    | true, some v => .ret (v, w)
    | _, _ => pureF (binS P op t o1 o2 (.int k a) (.int j b)) w
  | .iface _ _, .nilIface => nilCmpF P op t w
  | .nilIface, .iface _ _ => nilCmpF P op t w
  | .pointer a, .pointer none => ptrCmpF P op t (Option.rec true (fun _ => false) a) w
  | x, y => binF P op t o1 o2 x y w
theorem bin2_tr {fw : FW} {w : World} (hs : SimW fw w) (P : Program) (op : BinOp) (t : TypeId) (o1 o2 : Operand) (x y : Value) : TR (bin2F P op t o1 o2 x y fw) (binS P op t o1 o2 x y w) := by
  unfold bin2F
  split
  · rename_i k a j b
    split
    · rename_i v hk hv
      have hkj := kIx_inj hk
      subst hkj
      have : binS P op t o1 o2 (.int k a) (.int k b) w = .ret (v, w) := by
        unfold binS
        simp only [or_true, if_true, intOp_ok hv, T.bind]
      rw [this]
      exact .ret hs
    · exact pure_tr hs _ (bin_pure P op t o1 o2 k j a b w)
  · exact nilCmp_tr hs P op t o1 o2 (.inl ⟨_, _, rfl, rfl⟩)
  · exact nilCmp_tr hs P op t o1 o2 (.inr ⟨_, _, rfl, rfl⟩)
  · exact ptrCmp_tr hs P op t o1 o2 _
  · exact bin_tr hs P op t o1 o2 x y
noncomputable def evO (x : Operand) : Tr Value → Value := Operand.rec (motive := fun _ => Tr Value → Value) (fun t ρ => Option.rec undef (fun v => v) (ρ.get t)) (fun v _ => v) (fun g _ => .pointer (some ⟨g, 0, none⟩)) (fun f _ => .func (.func f) #[] #[]) x
theorem evO_eq (x : Operand) (ρ : Tr Value) : evO x ρ = ev (fget ρ) x := by cases x <;> rfl
noncomputable def evL (l : List Operand) (ρ : Tr Value) : List Value := List.rec (motive := fun _ => List Value) [] (fun x _ h => evO x ρ :: h) l
theorem evL_eq (ρ : Tr Value) : ∀ l, evL l ρ = l.map (ev (fget ρ))
  | [] => rfl
  | x :: l => by
    have : evL (x :: l) ρ = evO x ρ :: evL l ρ := rfl
    rw [this, evL_eq ρ l, evO_eq]; rfl
noncomputable def evA (a : Array Operand) (ρ : Tr Value) : Array Value := ⟨evL a.toList ρ⟩
theorem evA_eq (a : Array Operand) (ρ : Tr Value) : evA a ρ = a.map (ev (fget ρ)) := by
  apply Array.ext'
  rw [Array.toList_map]
  exact evL_eq ρ a.toList
noncomputable def catA (a b : Array Value) : Array Value := ⟨appR a.toList b.toList⟩
theorem catA_eq (a b : Array Value) : catA a b = a ++ b := by
  apply Array.ext'
  rw [Array.toList_append]
  exact appR_eq _ _
noncomputable def partF (n : Option Nat) (off : Nat) (x : Value) (w : FW) : T (Value × FW) := match x with
  | .agg cs => match n with
    | none => match nthR cs.toList off with
      | some v => .ret (v, w)
      | none => .bad
    | some n => .ret (.agg ⟨takeR n (dropR off cs.toList)⟩, w)
  | _ => .bad
theorem part_tr {fw : FW} {w : World} (hs : SimW fw w) (n : Option Nat) (off : Nat) (x : Value) : TR (partF n off x fw) (partS n off x w) := by
  unfold partF
  split
  · rename_i cs
    split
    · split
      · rename_i v hv
        rw [nthR_eq, Array.getElem?_toList] at hv
        simp only [partS, hv]
        exact .ret hs
      · exact .bad _
    · rename_i n
      have : (⟨takeR n (dropR off cs.toList)⟩ : Array Value) = cs.extract off (off + n) := by
        apply Array.ext'
        rw [Array.toList_extract, takeR_eq, dropR_eq, List.extract_eq_take_drop]
        rw [Nat.add_sub_cancel_left]
      rw [this]
      exact .ret hs
  · exact .bad _
noncomputable def extrF (x : Value) (i : Nat) (w : FW) : T (Value × FW) := match x with
  | .tuple vs => match nthR vs.toList i with
    | some v => .ret (v, w)
    | none => .bad
  | _ => .bad
theorem extr_tr {fw : FW} {w : World} (hs : SimW fw w) (x : Value) (i : Nat) : TR (extrF x i fw) (extractS x i w) := by
  unfold extrF
  split
  · rename_i vs
    split
    · rename_i v hv
      rw [nthR_eq, Array.getElem?_toList] at hv
      simp only [extractS, hv]
      exact .ret hs
    · exact .bad _
  · exact .bad _
noncomputable def fill2F (ps : Array (Nat × Nat)) (z : Array Value) (parts : List (Nat × Value)) (w : FW) : T (Value × FW) := match fillR (nthR ps.toList) parts z.toList with
  | some l => .ret (.agg ⟨l⟩, w)
  | none => .bad
theorem fill2_tr {fw : FW} {w : World} (hs : SimW fw w) (ps : Array (Nat × Nat)) (z : Array Value) (parts : List (Nat × Value)) : TR (fill2F ps z parts fw) (fillS ps z parts w) := by
  unfold fill2F
  split
  · rename_i l h
    have hp : nthR ps.toList = fun i => ps[i]? := funext fun i => by rw [nthR_eq, Array.getElem?_toList]
    rw [hp] at h
    obtain ⟨c', h1, rfl⟩ := fillR_eq _ parts z l h
    simp only [fillS, h1]
    exact .ret hs
  · exact .bad _
noncomputable def row2F (e : TypeId) (size len : Nat) (z : Array Value) (parts : List (Nat × Value)) (w : FW) : T (Value × FW) := match fillR (fun i => some (Nat.mul i size, size)) parts z.toList with
  | some l => .ret (.slice (some ⟨w.n, 0, none⟩) len len, w.cells l e)
  | none => .bad
theorem row2_tr {fw : FW} {w : World} (hs : SimW fw w) (e : TypeId) (size len : Nat) (z : Array Value) (parts : List (Nat × Value)) : TR (row2F e size len z parts fw) (rowS e size len z parts w) := by
  unfold row2F
  split
  · rename_i l h
    obtain ⟨c', h1, rfl⟩ := fillR_eq _ parts z l h
    have h1' : Instr.fill (fun i => some (i * size, size)) z parts = some c' := h1
    simp only [rowS, h1']
    rw [hs.size]
    exact .ret (hs.cellsN c' e)
  · exact .bad _
noncomputable def partsO (l : List (Nat × Operand)) : Tr Value → List (Nat × Value) := List.rec (motive := fun _ => Tr Value → List (Nat × Value)) (fun _ => []) (fun p _ h ρ => (p.1, evO p.2 ρ) :: h ρ) l
theorem partsO_eq (ρ : Tr Value) : ∀ l, partsO l ρ = partsOf (ev (fget ρ)) l
  | [] => rfl
  | p :: l => by
    have : partsO (p :: l) ρ = (p.1, evO p.2 ρ) :: partsO l ρ := rfl
    rw [this, partsO_eq ρ l, evO_eq]; rfl
noncomputable def nonnilF (v : Value) (w : FW) : T (Value × FW) := match v with
  | .pointer (some a) => .ret (.pointer (some a), w)
  | .iface t v => .ret (.iface t v, w)
  | _ => .bad
noncomputable def unF (op : UnOp) (v : Value) (w : FW) : T (Value × FW) := match op, v with
  | .not, .bool b => .ret (.bool !b, w)
  | .neg, .int k n => .ret (.int k (k.wrap (0 - n)), w)
  | _, _ => .bad
noncomputable def faddrF (off : Nat) (x : Value) (w : FW) : T (Value × FW) := match x with
  | .pointer (some ⟨b, o, none⟩) => .ret (.pointer (some ⟨b, Nat.add o off, none⟩), w)
  | _ => .bad
noncomputable def iaddrF (size : Nat) (x ix : Value) (w : FW) : T (Value × FW) := match x, ix with
  | .slice (some ⟨b, o, none⟩) len _, .int _ (.ofNat i) => match Nat.ble (Nat.succ i) len with
    | true => .ret (.pointer (some ⟨b, Nat.add o (Nat.mul i size), none⟩), w)
    | false => .bad
  | _, _ => .bad
noncomputable def lenF (x : Value) (w : FW) : T (Value × FW) := match x with
  | .slice _ n _ => .ret (.int .i64 (.ofNat n), w)
  | _ => .bad
noncomputable def pickF (c a b : Value) (w : FW) : T (Value × FW) := match c with
  | .bool true => .ret (a, w)
  | .bool false => .ret (b, w)
  | _ => .bad
noncomputable def convF (k : IntKind) (x : Value) (w : FW) : T (Value × FW) := match x with
  | .int _ n => .ret (.int k (wrapF k n), w)
  | _ => .bad
noncomputable def imaxF (x y : Value) (w : FW) : T (Value × FW) := match x, y with
  | .int k a, .int j b => if k = j then .ret (.int k (if b > a then b else a), w) else .bad
  | _, _ => .bad
noncomputable def moveC (x : Operand) (ρ : Tr Value) (w : FW) : T (Value × FW) := .ret (evO x ρ, w)
noncomputable def boxC (e : TypeId) (x : Operand) (ρ : Tr Value) (w : FW) : T (Value × FW) := .ret (.pointer (some ⟨w.n, 0, none⟩), w.cells (evO x ρ).cells.toList e)
noncomputable def zeroC (e : TypeId) (z : Array Value) (_ρ : Tr Value) (w : FW) : T (Value × FW) := .ret (.pointer (some ⟨w.n, 0, none⟩), w.cells z.toList e)
noncomputable def buildC (ps : Array (Nat × Nat)) (z : Array Value) (parts : List (Nat × Operand)) (ρ : Tr Value) (w : FW) : T (Value × FW) := fill2F ps z (partsO parts ρ) w
noncomputable def rowC (e : TypeId) (size len : Nat) (z : Array Value) (parts : List (Nat × Operand)) (ρ : Tr Value) (w : FW) : T (Value × FW) := row2F e size len z (partsO parts ρ) w
noncomputable def loadC (n : Option Nat) (a : Operand) (ρ : Tr Value) (w : FW) : T (Value × FW) := loadF n (evO a ρ) w
noncomputable def storeC (n : Nat) (a x : Operand) (ρ : Tr Value) (w : FW) : T (Value × FW) := storeF n (evO a ρ) (evO x ρ) w
noncomputable def nonnilC (x : Operand) (ρ : Tr Value) (w : FW) : T (Value × FW) := nonnilF (evO x ρ) w
noncomputable def binC (P : Program) (op : BinOp) (t : TypeId) (x y : Operand) (ρ : Tr Value) (w : FW) : T (Value × FW) := bin2F P op t x y (evO x ρ) (evO y ρ) w
noncomputable def unC (op : UnOp) (x : Operand) (ρ : Tr Value) (w : FW) : T (Value × FW) := unF op (evO x ρ) w
noncomputable def faddrC (off : Nat) (x : Operand) (ρ : Tr Value) (w : FW) : T (Value × FW) := faddrF off (evO x ρ) w
noncomputable def partC (n : Option Nat) (off : Nat) (x : Operand) (ρ : Tr Value) (w : FW) : T (Value × FW) := partF n off (evO x ρ) w
noncomputable def iaddrC (size : Nat) (x ix : Operand) (ρ : Tr Value) (w : FW) : T (Value × FW) := iaddrF size (evO x ρ) (evO ix ρ) w
noncomputable def extractC (x : Operand) (i : Nat) (ρ : Tr Value) (w : FW) : T (Value × FW) := extrF (evO x ρ) i w
noncomputable def lenC (x : Operand) (ρ : Tr Value) (w : FW) : T (Value × FW) := lenF (evO x ρ) w
noncomputable def lenMapC (x : Operand) (ρ : Tr Value) (w : FW) : T (Value × FW) := lenMapF (evO x ρ) w
noncomputable def sliceC (e : TypeId) (size : Nat) (x : Operand) (lo hi mx : Option Operand) (ρ : Tr Value) (w : FW) : T (Value × FW) := sliceF e size (evO x ρ) (lo.map fun x => evO x ρ) (hi.map fun x => evO x ρ) (mx.map fun x => evO x ρ) w
noncomputable def appendC (e : TypeId) (size bytes : Nat) (s x : Operand) (ρ : Tr Value) (w : FW) : T (Value × FW) := appendF e size bytes (evO s ρ) (evO x ρ) w
noncomputable def lookupC (k : IntKind) (z : Value) (x ix : Operand) (ok : Bool) (ρ : Tr Value) (w : FW) : T (Value × FW) := lookupF k z (evO x ρ) (evO ix ρ) ok w
noncomputable def updateC (k : IntKind) (m ix v : Operand) (ρ : Tr Value) (w : FW) : T (Value × FW) := updateF k (evO m ρ) (evO ix ρ) (evO v ρ) w
noncomputable def deleteC (k : IntKind) (m ix : Operand) (ρ : Tr Value) (w : FW) : T (Value × FW) := deleteF k (evO m ρ) (evO ix ρ) w
noncomputable def makeMapC  (_ρ : Tr Value) (w : FW) : T (Value × FW) := .ret (.map (some w.n), w.push (.other (.map #[] 0)))
noncomputable def pickC (c a b : Operand) (ρ : Tr Value) (w : FW) : T (Value × FW) := pickF (evO c ρ) (evO a ρ) (evO b ρ) w
noncomputable def convC (k : IntKind) (x : Operand) (ρ : Tr Value) (w : FW) : T (Value × FW) := convF k (evO x ρ) w
noncomputable def imaxC (x y : Operand) (ρ : Tr Value) (w : FW) : T (Value × FW) := imaxF (evO x ρ) (evO y ρ) w
noncomputable def fnC (f : FuncId) (cap : Array Operand) (ρ : Tr Value) (w : FW) : T (Value × FW) := .ret (.func (.func f) #[] (evA cap ρ), w)
noncomputable def badC2 {α β : Type} (_ : α) (_ : β) (_ : Tr Value) (_ : FW) : T (Value × FW) := .bad
noncomputable def rawC (P : Program) (op : Op) (_ : TypeId) (ρ : Tr Value) (w : FW) : T (Value × FW) := rawF P op (fun x => evO x ρ) w
noncomputable def foneC (P : Program) (op : SOp) : Tr Value → FW → T (Value × FW) :=
  SOp.rec (motive := fun _ => Tr Value → FW → T (Value × FW)) moveC boxC zeroC buildC rowC loadC storeC nonnilC (binC P) unC faddrC partC iaddrC extractC lenC lenMapC sliceC appendC lookupC updateC deleteC makeMapC pickC convC imaxC fnC badC2 badC2 (rawC P) op
theorem foneC_tr {fw : FW} {w : World} (hs : SimW fw w) (P : Program) (K : Kont) (ρ : Tr Value) (op : SOp) : TR (foneC P op ρ fw) (sone P K (ev (fget ρ)) w op) := by
  have h0 := fone_tr hs P K (ev (fget ρ)) op
  have hm : (fun x => evO x ρ) = ev (fget ρ) := funext fun x => evO_eq x ρ
  cases op with
  | faddr off x =>
    show TR (faddrF off (evO x ρ) fw) (faddrS off (ev (fget ρ) x) w)
    rw [evO_eq]
    unfold faddrF
    split
    · rename_i h; rw [h]; exact .ret hs
    · exact .bad _
  | iaddr size x ix =>
    show TR (iaddrF size (evO x ρ) (evO ix ρ) fw) (iaddrS size (ev (fget ρ) x) (ev (fget ρ) ix) w)
    rw [evO_eq, evO_eq]
    unfold iaddrF
    split
    · rename_i h1 h2
      rw [h1, h2]
      split
      · rename_i hl
        have hl' := Nat.le_of_ble_eq_true hl
        simp only [iaddrS]
        rw [if_pos ⟨Int.natCast_nonneg _, Int.ofNat_lt.2 hl'⟩]
        exact .ret hs
      · exact .bad _
    · exact .bad _
  | len x =>
    show TR (lenF (evO x ρ) fw) (lenS (ev (fget ρ) x) w)
    rw [evO_eq]
    unfold lenF
    split
    · rename_i h; rw [h]; exact .ret hs
    · exact .bad _
  | pick c a b =>
    show TR (pickF (evO c ρ) (evO a ρ) (evO b ρ) fw) _
    rw [evO_eq, evO_eq, evO_eq]
    unfold pickF
    simp only [sone]
    split
    · rename_i h; simp only [h]; exact .ret hs
    · rename_i h; simp only [h]; exact .ret hs
    · exact .bad _
  | nonnil x =>
    show TR (nonnilF (evO x ρ) fw) _
    rw [evO_eq]; exact h0
  | un op x =>
    show TR (unF op (evO x ρ) fw) _
    rw [evO_eq]; exact h0
  | conv k x =>
    show TR (convF k (evO x ρ) fw) _
    rw [evO_eq]
    unfold convF
    simp only [sone]
    split
    · rename_i h; simp only [h, wrapF_eq]; exact .ret hs
    · exact .bad _
  | imax x y =>
    show TR (imaxF (evO x ρ) (evO y ρ) fw) _
    rw [evO_eq, evO_eq]; exact h0
  | move x =>
    show TR (.ret (evO x ρ, fw)) _
    rw [evO_eq]; exact h0
  | box e x =>
    show TR (.ret (.pointer (some ⟨fw.n, 0, none⟩), fw.cells (evO x ρ).cells.toList e)) _
    rw [evO_eq]; exact h0
  | zero e z => exact h0
  | build ps z parts =>
    show TR (fill2F ps z (partsO parts ρ) fw) _
    rw [partsO_eq]; exact fill2_tr hs ps z _
  | row e size len z parts =>
    show TR (row2F e size len z (partsO parts ρ) fw) _
    rw [partsO_eq]; exact row2_tr hs e size len z _
  | load n a =>
    show TR (loadF n (evO a ρ) fw) _
    rw [evO_eq]; exact h0
  | store n a x =>
    show TR (storeF n (evO a ρ) (evO x ρ) fw) _
    rw [evO_eq, evO_eq]; exact h0
  | bin op t x y =>
    show TR (bin2F P op t x y (evO x ρ) (evO y ρ) fw) _
    rw [evO_eq, evO_eq]; exact bin2_tr hs P op t x y _ _
  | part n off x =>
    show TR (partF n off (evO x ρ) fw) _
    rw [evO_eq]; exact part_tr hs n off _
  | extract x i =>
    show TR (extrF (evO x ρ) i fw) _
    rw [evO_eq]; exact extr_tr hs _ i
  | lenMap x =>
    show TR (lenMapF (evO x ρ) fw) _
    rw [evO_eq]; exact h0
  | slice e size x lo hi mx =>
    show TR (sliceF e size (evO x ρ) (lo.map fun x => evO x ρ) (hi.map fun x => evO x ρ) (mx.map fun x => evO x ρ) fw) _
    rw [evO_eq, hm]; exact h0
  | append e size bytes s x =>
    show TR (appendF e size bytes (evO s ρ) (evO x ρ) fw) _
    rw [evO_eq, evO_eq]; exact h0
  | lookup k z x ix ok =>
    show TR (lookupF k z (evO x ρ) (evO ix ρ) ok fw) _
    rw [evO_eq, evO_eq]; exact h0
  | update k m ix v =>
    show TR (updateF k (evO m ρ) (evO ix ρ) (evO v ρ) fw) _
    rw [evO_eq, evO_eq, evO_eq]; exact h0
  | delete k m ix =>
    show TR (deleteF k (evO m ρ) (evO ix ρ) fw) _
    rw [evO_eq, evO_eq]; exact h0
  | makeMap => exact h0
  | fn f cap =>
    show TR (.ret (.func (.func f) #[] (evA cap ρ), fw)) _
    rw [evA_eq]; exact h0
  | call f args => exact .bad _
  | callv x args => exact .bad _
  | raw op t =>
    show TR (rawF P op (fun x => evO x ρ) fw) _
    rw [hm]; exact raw_tr hs P K _ op t
structure FKont where
  enter : FuncId → Array Value → FW → T (Value × FW)
  round : Nat → FuncId → Nat → Tr Value → Code → Code → FW → T (Value × FW)
structure KOk (FK : FKont) (K : Kont) : Prop where
  enter : ∀ (f : FuncId) (args : Array Value) (fw : FW) (w : World) (Q : Value × World → Prop), SimW fw w → (FK.enter f args fw).all (Up Q) → (K.enter f args w).all Q
  round : ∀ (l : Nat) (fn : FuncId) (n : Nat) (ρ : Tr Value) (A B : Code) (fw : FW) (w : World) (Q : Value × World → Prop), SimW fw w → (FK.round l fn n ρ A B fw).all (Up Q) → (K.round l fn (arr n (fget ρ)) A B w).all Q
theorem arr_set (n : Nat) (ρ : Tr Value) (t : Nat) (v : Value) : (arr n (fget ρ)).setIfInBounds t v = arr n (fget (ρ.set t v)) := by
  have hg : ∀ i, fget (ρ.set t v) i = if i = t then v else fget ρ i := fun i => by rw [fget_set]; rfl
  apply Array.ext_getElem?
  intro i
  rw [Array.getElem?_setIfInBounds]
  simp only [arr, Array.getElem?_ofFn, Array.size_ofFn]
  by_cases e : t = i
  · subst e
    rw [if_pos rfl]
    by_cases h : t < n
    · rw [if_pos h, dif_pos h]; simp only [hg, if_true]
    · rw [if_neg h, dif_neg h]
  · rw [if_neg e]
    by_cases h : i < n
    · rw [dif_pos h, dif_pos h]; simp only [hg]; rw [if_neg (fun h => e h.symm)]
    · rw [dif_neg h, dif_neg h]
noncomputable def putAll (l : List (Nat × Value)) (ρ : Tr Value) : Tr Value := List.rec (motive := fun _ => Tr Value → Tr Value) (fun ρ => ρ) (fun p _ h ρ => h (ρ.set p.1 p.2)) l ρ
theorem arr_putAll (n : Nat) : ∀ (l : List (Nat × Value)) (ρ : Tr Value), l.foldl (fun tmps (t, a) => tmps.setIfInBounds t a) (arr n (fget ρ)) = arr n (fget (putAll l ρ))
  | [], _ => rfl
  | (t, v) :: l, ρ => by
    rw [List.foldl_cons]
    show List.foldl _ ((arr n (fget ρ)).setIfInBounds t v) l = _
    rw [arr_set, arr_putAll n l]; rfl
section
variable (P : Program) (FK : FKont)
noncomputable def hasBody (g : FuncId) : Bool := (P.funcs[g]?).any (fun fn => fn.body.isSome && fn.name != "runtime.NumGoroutine")
noncomputable def callF (x : Value) (args : Array Value) (w : FW) : T (Value × FW) :=
  match x with
  | .func (.func g) first cap => match hasBody P g with
    | true => match first.toList with
      | [] => FK.enter g (catA args cap) w
      | _ => FK.enter g (catA (catA first args) cap) w
    | false => .bad
  | .func (.yield l) first _ => match first.toList, w.h.get l with
    | [], some (.loop _ _ fn n ρ ps A B _) => match Nat.beq args.size ps.size with
      | true => FK.round l fn n (putAll (ps.zip args).toList ρ) A B w
      | false => .bad
    | _, _ => .bad
  | _ => .bad
noncomputable def invF (x : Value) (name : String) (args : Array Value) (w : FW) : T (Value × FW) :=
  match x with
  | .iface t v => match methodOf P t name with
    | some f => FK.enter f ⟨v :: args.toList⟩ w
    | none => .bad
  | _ => .bad
noncomputable def rawK (op : Op) (ty : TypeId) (ρ : Tr Value) (w : FW) : T (Value × FW) :=
  match op with
  | .call { callee := .invoke x name, args, argTypes } => match (Op.call { callee := .invoke x name, args, argTypes }).operands.all constFit with
    | true => invF P FK (evO x ρ) name (evA args ρ) w
    | false => .bad
  | op => rawC P op ty ρ w
noncomputable def callC (f : FuncId) (args : Array Operand) (ρ : Tr Value) (w : FW) : T (Value × FW) := FK.enter f (evA args ρ) w
noncomputable def callvC (x : Operand) (args : Array Operand) (ρ : Tr Value) (w : FW) : T (Value × FW) := callF P FK (evO x ρ) (evA args ρ) w
noncomputable def fop (op : SOp) : Tr Value → FW → T (Value × FW) :=
  SOp.rec (motive := fun _ => Tr Value → FW → T (Value × FW)) moveC boxC zeroC buildC rowC loadC storeC nonnilC (binC P) unC faddrC partC iaddrC extractC lenC lenMapC sliceC appendC lookupC updateC deleteC makeMapC pickC convC imaxC fnC (callC FK) (callvC P FK) (rawK P FK) op
noncomputable def fre (l : List SR) : Tr Value → FW → Bool :=
  List.rec (motive := fun _ => Tr Value → FW → Bool) (fun _ _ => true) (fun r _ h ρ w => match wantS (fget ρ) r.g with
    | false => h ρ w
    | true => match foneC P r.o ρ w, r.d with
      | .ret (v, _), some d => Bool.rec false (h ρ w) (veq 4 v (fget ρ d))
      | _, _ => false) l
noncomputable def kU (o : SG) (h : Tr Value → FW → T (Tr Value × FW)) (ρ : Tr Value) (r : Value × FW) : T (Tr Value × FW) :=
  Bool.rec (motive := fun _ => T (Tr Value × FW)) .bad (h (fput ρ o.d r.1) r.2) (fre P o.re (fput ρ o.d r.1) r.2)
noncomputable def consU (o : SG) (_ : List SG) (h : Tr Value → FW → T (Tr Value × FW)) (ρ : Tr Value) (w : FW) : T (Tr Value × FW) := (fop P FK o.o ρ w).tb (kU P o h ρ)
noncomputable def retU (ρ : Tr Value) (w : FW) : T (Tr Value × FW) := .ret (ρ, w)
noncomputable def fU (l : List SG) : Tr Value → FW → T (Tr Value × FW) :=
  List.rec (motive := fun _ => Tr Value → FW → T (Tr Value × FW)) retU (consU P FK) l
noncomputable def fskip (l : List SG) : Tr Value → Tr Value := List.rec (motive := fun _ => Tr Value → Tr Value) (fun ρ => ρ) (fun o _ h ρ => h (fput ρ o.d undef)) l
noncomputable def oneI (o : SG) (ρ : Tr Value) (w : FW) : T (Tr Value × FW) :=
  Bool.rec (motive := fun _ => T (Tr Value × FW)) (Bool.rec (motive := fun _ => T (Tr Value × FW)) .bad (.ret (fput ρ o.d undef, w)) (fre P o.re (fput ρ o.d undef) w))
    ((fop P FK o.o ρ w).tb (kU P o retU ρ)) (wantS (fget ρ) o.g)
noncomputable def guI (d : Nat) (b : Bool) (l : List SG) (ρ : Tr Value) (w : FW) : T (Tr Value × FW) :=
  match fget ρ d, b with
  | .bool true, true => fU P FK l (ρ.set d (.bool true)) w
  | .bool false, false => fU P FK l (ρ.set d (.bool false)) w
  | .bool true, false => .ret (fskip l (ρ.set d (.bool true)), w)
  | .bool false, true => .ret (fskip l (ρ.set d (.bool false)), w)
  | _, _ => .ret (fskip l ρ, w)
noncomputable def grpI (g : PG) (l : List SG) : Tr Value → FW → T (Tr Value × FW) :=
  match g with
  | none => fU P FK l
  | some (none, _) => fun ρ w => .ret (fskip l ρ, w)
  | some (some d, b) => guI P FK d b l
noncomputable def fI (i : GI) : Tr Value → FW → T (Tr Value × FW) :=
  GI.rec (motive := fun _ => Tr Value → FW → T (Tr Value × FW)) (grpI P FK) (oneI P FK) i
noncomputable def kG (h : Tr Value → FW → T (Tr Value × FW)) (r : Tr Value × FW) : T (Tr Value × FW) := h r.1 r.2
noncomputable def consG (i : GI) (_ : List GI) (h : Tr Value → FW → T (Tr Value × FW)) (ρ : Tr Value) (w : FW) : T (Tr Value × FW) := (fI P FK i ρ w).tb (kG h)
noncomputable def fGs (l : List GI) : Tr Value → FW → T (Tr Value × FW) :=
  List.rec (motive := fun _ => Tr Value → FW → T (Tr Value × FW)) retU (consG P FK) l
abbrev FRes := Exit × Tr Value × List Nat × FW
abbrev FS := Tr Value → List Nat → FW → T FRes
noncomputable def kSeq (h : FS) (r : FRes) : T FRes := match r.1 with
  | .normal => h r.2.1 r.2.2.1 r.2.2.2
  | e => .ret (e, r.2)
noncomputable def stepL (body : FS) (_ : Nat) (h : FS) (ρ : Tr Value) (ds : List Nat) (w : FW) : T FRes := (body ρ ds w).tb (kSeq h)
noncomputable def badFS : FS := fun _ _ _ => .bad
noncomputable def floop (body : FS) (fuel : Nat) : FS := Nat.rec (motive := fun _ => FS) badFS (stepL body) fuel
noncomputable def skipG : FS := fun ρ ds w => .ret (.normal, ρ, ds, w)
noncomputable def retG : FS := fun ρ ds w => .ret (.ret, ρ, ds, w)
noncomputable def exitG (id : Nat) : FS := fun ρ ds w => .ret (.exit id, ρ, ds, w)
noncomputable def kOps (ds : List Nat) (r : Tr Value × FW) : T FRes := .ret (.normal, r.1, ds, r.2)
noncomputable def opsG (l : List GI) : FS := fun ρ ds w => (fGs P FK l ρ w).tb (kOps ds)
noncomputable def seqG (_ _ : GC) (hx hy : FS) : FS := fun ρ ds w => (hx ρ ds w).tb (kSeq hy)
noncomputable def condG (c : Operand) (_ _ : GC) (hx hy : FS) : FS := fun ρ ds w => match evO c ρ with
  | .bool true => hx ρ ds w
  | .bool false => hy ρ ds w
  | _ => .bad
noncomputable def kBlk (id : Nat) (r : FRes) : T FRes := match r.1 with
  | .exit id' => match Nat.beq id' id with
    | true => .ret (.normal, r.2)
    | false => .ret (.exit id', r.2)
  | e => .ret (e, r.2)
noncomputable def blockG (id : Nat) (_ : GC) (h : FS) : FS := fun ρ ds w => (h ρ ds w).tb (kBlk id)
noncomputable def loopG (fuel : Nat) (_ : GC) (h : FS) : FS := floop h fuel
noncomputable def isBusy (s : LoopState) : Bool := s == .busy
noncomputable def kRange (l : Nat) (ρ : Tr Value) (ds : List Nat) (r : Value × FW) : T FRes := match r.2.h.get (Nat.succ l) with
  | some (.loop st pe fn n ρ' ps A B df) => match isBusy st, pe with
    | false, none => .ret (.normal, ρ, l :: ds, r.2.set (Nat.succ l) (.loop .exhausted pe fn n ρ' ps A B df))
    | false, some .ret => .ret (.ret, ρ, l :: ds, r.2.set (Nat.succ l) (.loop .exhausted pe fn n ρ' ps A B df))
    | false, some (.exit id) => .ret (.exit id, ρ, l :: ds, r.2.set (Nat.succ l) (.loop .exhausted pe fn n ρ' ps A B df))
    | _, _ => .bad
  | _ => .bad
noncomputable def cutR (n : Nat) (ρ : Tr Value) : Tr Value := Tr.put (ρ.seg undef n 0) .lf 0
noncomputable def rangeG (top : Bool) (fn : FuncId) (n : Nat) (g : Operand) (ps : Array Tmp) (A B : Code) : FS := fun ρ ds w => match top, g with
  | true, .tmp t => match Nat.ble (Nat.succ t) n, fget ρ t with
    | true, .func (.func f) first cap => match first.toList, hasBody P f with
      | [], true => (FK.enter f (catA #[.func (.yield (w.n + 1)) #[] #[]] cap) ((w.push (.other (.deferred (some [])))).push (.loop .ready none fn n ρ ps A B w.n))).tb (kRange w.n (cutR n ρ) ds)
      | _, _ => .bad
    | _, _ => .bad
  | _, _ => .bad
noncomputable def fgc (fuel : Nat) (top : Bool) (fn : FuncId) (n : Nat) (c : GC) : FS :=
  GC.rec (motive := fun _ => FS) skipG retG badFS exitG (opsG P FK) seqG condG blockG (loopG fuel) (rangeG P FK top fn n) c
noncomputable def ffin (ds : List Nat) : FW → Option FW := List.rec (motive := fun _ => FW → Option FW) (fun w => some w) (fun d _ h w => match w.h.get d with
  | some (.other (.deferred (some []))) => h (w.set d (.other (.deferred none)))
  | _ => none) ds
noncomputable def fres (l : List RS) (ρ : Tr Value) (w : FW) : Option (List Value) :=
  List.rec (motive := fun _ => Option (List Value)) (some []) (fun r _ h => match r with
    | ⟨t, none⟩ => h.map (fget ρ t :: ·)
    | ⟨a, some n⟩ => match loadF n (fget ρ a) w with
      | .ret (v, _) => h.map (v :: ·)
      | _ => none) l
noncomputable def kFn (gf : GFn) (r : FRes) : T (Value × FW) := match r.1 with
  | .normal | .ret => match ffin r.2.2.1 r.2.2.2 with
    | some w => match fres gf.res r.2.1 w with
      | some vs => .ret (oneOf vs, w)
      | none => .bad
    | none => .bad
  | _ => .bad
noncomputable def ffn (fuel : Nat) (f : FuncId) (gf : GFn) (args : Array Value) (w : FW) : T (Value × FW) :=
  match Nat.ble args.size gf.n with
  | true => (fgc P FK fuel true f gf.n gf.body (Tr.put args.toList .lf 0) [] w).tb (kFn gf)
  | false => .bad
noncomputable def kEnd (l : Nat) (r : FRes) : T (Value × FW) := match r.2.2.2.h.get l with
  | some (.loop _ _ fn n ρ ps A B df) => match r.1 with
    | .normal => .ret (.bool true, r.2.2.2.set l (.loop .ready none fn n ρ ps A B df))
    | .ret => .ret (.bool false, r.2.2.2.set l (.loop .done (some .ret) fn n ρ ps A B df))
    | .exit id => .ret (.bool false, r.2.2.2.set l (.loop .done (some (.exit id)) fn n ρ ps A B df))
    | _ => .bad
  | _ => .bad
noncomputable def isReady (s : LoopState) : Bool := s == .ready
noncomputable def kBegin (fuel : Nat) (l : Nat) (f : FuncId) (n : Nat) (B : Code) (r : FRes) : T (Value × FW) := match r.1 with
  | .normal => match r.2.2.2.h.get l with
    | some (.loop st pe fn' n' ρ' ps' A' B' df) => match isReady st with
      | true => (fgc P FK fuel false f n (grpC (lowC P n (pcOf B))) r.2.1 r.2.2.1 (r.2.2.2.set l (.loop .busy pe fn' n' ρ' ps' A' B' df))).tb (kEnd l)
      | false => .bad
    | _ => .bad
  | _ => .bad
noncomputable def frnd (fuel : Nat) (l : Nat) (f : FuncId) (n : Nat) (ρ : Tr Value) (A B : Code) (w : FW) : T (Value × FW) :=
  (fgc P FK fuel false f n (grpC (lowC P n (pcOf A))) (cutR n ρ) [] w).tb (kBegin P FK fuel l f n B)
end
abbrev FAns := FuncId → Array Value → FW → Option (T (Value × FW))
abbrev GTab := FuncId → Option GFn
def GOk (P : Program) (G : GTab) : Prop := ∀ f g, G f = some g → lowG P f = some g
noncomputable def fnext (P : Program) (G : GTab) (FH : FAns) (m : Nat) (K : FKont) : FKont :=
  ⟨fun f args w => match FH f args w with
    | some t => t
    | none => match G f with
      | some gf => ffn P K (Nat.succ m) f gf args w
      | none => .bad, frnd P K (Nat.succ m)⟩
noncomputable def frun (P : Program) (G : GTab) (FH : FAns) (n : Nat) : FKont :=
  Nat.rec (motive := fun _ => FKont) ⟨fun _ _ _ => .bad, fun _ _ _ _ _ _ _ => .bad⟩ (fun m K => fnext P G FH m K) n
section
variable {P : Program} {FK : FKont} {K : Kont}
theorem fop_ok (hK : KOk FK K) {fw : FW} {w : World} (hs : SimW fw w) {ρ : Tr Value} {op : SOp} {Q : Value × World → Prop} (h : (fop P FK op ρ fw).all (Up Q)) : (sone P K (ev (fget ρ)) w op).all Q := by
  have hm : (fun x => evO x ρ) = ev (fget ρ) := funext fun x => evO_eq x ρ
  by_cases hc : ∃ f args, op = .call f args
  · obtain ⟨f, args, rfl⟩ := hc
    have h1 : (FK.enter f (evA args ρ) fw).all (Up Q) := h
    rw [evA_eq] at h1
    exact hK.enter _ _ fw w Q hs h1
  · by_cases hv : ∃ x args, op = .callv x args
    · obtain ⟨x, args, rfl⟩ := hv
      have h1 : (callF P FK (evO x ρ) (evA args ρ) fw).all (Up Q) := h
      rw [evA_eq, evO_eq] at h1
      unfold callF at h1
      split at h1
      · rename_i g first cap hx
        split at h1
        · rename_i hb
          unfold hasBody at hb
          split at h1
          · rename_i hf
            have hsz : first.size = 0 := by rw [← Array.length_toList, hf]; rfl
            simp only [sone, callV, hx]
            rw [if_pos ⟨hsz, hb⟩]
            rw [catA_eq] at h1
            exact hK.enter _ _ fw w Q hs h1
          · rename_i hf
            have hsz : ¬ first.size = 0 := fun e => by
              have := Array.eq_empty_of_size_eq_zero e
              subst this
              exact hf rfl
            simp only [sone, callV, hx]
            rw [if_neg (fun h => hsz h.1), if_pos hb]
            rw [catA_eq, catA_eq] at h1
            exact hK.enter _ _ fw w Q hs h1
        · exact h1.elim
      · rename_i l first cap hx
        split at h1
        · rename_i st pe fn n ρ' ps A B df hf hl
          split at h1
          · rename_i hz
            have hz' := Nat.eq_of_beq_eq_true hz
            have hsz : first.size = 0 := by rw [← Array.length_toList, hf]; rfl
            obtain ⟨o, ho, hso⟩ := hs.get hl
            have hso' : o = .loop { state := st, pending := pe, fn := fn, tmps := arr n (fget ρ'), params := ps, assign := A, body := B, defers := df } := hso
            subst hso'
            simp only [sone, callV, hx, ho]
            rw [if_pos ⟨hsz, hz'⟩]
            have := arr_putAll n (ps.zip (args.map (ev (fget ρ)))).toList ρ'
            rw [← Array.foldl_toList, this]
            exact hK.round _ _ _ _ _ _ fw w Q hs h1
          · exact h1.elim
        · exact h1.elim
      · exact h1.elim
    · by_cases hr : ∃ x name args at_ ty, op = .raw (.call { callee := .invoke x name, args := args, argTypes := at_ }) ty
      · obtain ⟨x, name, args, at_, ty, rfl⟩ := hr
        have h1 : (rawK P FK (.call { callee := .invoke x name, args := args, argTypes := at_ }) ty ρ fw).all (Up Q) := h
        unfold rawK at h1
        simp only at h1
        split at h1
        · rename_i hcc
          unfold invF at h1
          rw [evO_eq, evA_eq] at h1
          split at h1
          · rename_i t v hx
            split at h1
            · rename_i f hf
              have hfit : invokeFit P t name = true := by unfold invokeFit; rw [hf]; rfl
              have : sone P K (ev (fget ρ)) w (.raw (.call { callee := .invoke x name, args := args, argTypes := at_ }) ty) = K.enter f (#[v] ++ args.map (ev (fget ρ))) w := by
                simp only [sone, pstep, istep, hcc, if_true, hx, hfit, execOp, resolve, Sem.run_bind, Sem.run_pure, Result.andThen, run_invoke hf, ofRun, T.bind, enters, pval]
              rw [this]
              have ha : (⟨v :: (args.map (ev (fget ρ))).toList⟩ : Array Value) = #[v] ++ args.map (ev (fget ρ)) := by apply Array.ext'; simp
              rw [ha] at h1
              exact hK.enter _ _ fw w Q hs h1
            · exact h1.elim
          · exact h1.elim
        · exact h1.elim
      · have he : fop P FK op ρ fw = foneC P op ρ fw := by
          cases op with
          | call f args => exact absurd ⟨_, _, rfl⟩ hc
          | callv x args => exact absurd ⟨_, _, rfl⟩ hv
          | raw op ty =>
            show rawK P FK op ty ρ fw = rawC P op ty ρ fw
            unfold rawK
            split
            · exact absurd ⟨_, _, _, _, _, rfl⟩ hr
            · rfl
          | _ => rfl
        rw [he] at h
        exact (foneC_tr hs P K ρ op).all h
theorem fre_ok {fw : FW} {w : World} (hs : SimW fw w) {ρ : Tr Value} : ∀ {l : List SR}, fre P l ρ fw = true → sagain P K (fget ρ) w l = true
  | [], _ => rfl
  | r :: l, h => by
    have e : fre P (r :: l) ρ fw = (match wantS (fget ρ) r.g with
      | false => fre P l ρ fw
      | true => match foneC P r.o ρ fw, r.d with
        | .ret (v, _), some d => Bool.rec (motive := fun _ => Bool) false (fre P l ρ fw) (veq 4 v (fget ρ d))
        | _, _ => false) := rfl
    rw [e] at h
    have e2 : sagain P K (fget ρ) w (r :: l) = ((!wantS (fget ρ) r.g || match sone P K (ev (fget ρ)) w r.o with
      | .ret (v, _) => (match r.d with
        | some d => veq 4 v (fget ρ d)
        | none => false)
      | _ => false) && sagain P K (fget ρ) w l) := rfl
    rw [e2]
    split at h
    · rename_i hw
      rw [hw, fre_ok hs h]; rfl
    · rename_i hw
      split at h
      · rename_i v fw' d hf hd
        have ht := foneC_tr hs P K ρ r.o
        rw [hf] at ht
        cases hv : veq 4 v (fget ρ d) with
        | false => rw [hv] at h; cases h
        | true =>
          rw [hv] at h
          have h' : fre P l ρ fw = true := h
          cases hso : sone P K (ev (fget ρ)) w r.o with
          | ret x =>
            rw [hso] at ht
            cases ht
            simp only [hd, hv, fre_ok hs h', Bool.or_true, Bool.and_true]
          | bad => rw [hso] at ht; cases ht
          | pick n k => rw [hso] at ht; cases ht
      · cases h
def Up2 (Q : Env → World → Prop) : Tr Value × FW → Prop := fun r => ∀ w, SimW r.2 w → Q (fget r.1) w
theorem fU_ok (hK : KOk FK K) : ∀ {l : List SG} {ρ : Tr Value} {fw : FW} {w : World} {Q : Env → World → Prop}, SimW fw w → (fU P FK l ρ fw).all (Up2 Q) → wpU P K l (fget ρ) w Q
  | [], ρ, fw, w, Q, hs, h => h w hs
  | o :: l, ρ, fw, w, Q, hs, h => by
    have h1 : ((fop P FK o.o ρ fw).tb (kU P o (fU P FK l) ρ)).all (Up2 Q) := h
    rw [T.tb_all] at h1
    refine fop_ok hK hs (T.all_mono (fun r hr => ?_) h1)
    intro w' hs'
    unfold kU at hr
    cases hf : fre P o.re (fput ρ o.d r.1) r.2 with
    | true =>
      rw [hf] at hr
      have := fre_ok (K := K) hs' hf
      rw [fget_put] at this
      refine ⟨this, ?_⟩
      have := fU_ok hK hs' hr
      rw [fget_put] at this
      exact this
    | false => rw [hf] at hr; exact hr.elim
theorem fskip_eq : ∀ (l : List SG) (ρ : Tr Value), fget (fskip l ρ) = skipU l (fget ρ)
  | [], _ => rfl
  | o :: l, ρ => by
    have : fskip (o :: l) ρ = fskip l (fput ρ o.d undef) := rfl
    rw [this, fskip_eq l, fget_put]; rfl
theorem fI_ok (hK : KOk FK K) {i : GI} {ρ : Tr Value} {fw : FW} {w : World} {Q : Env → World → Prop} (hs : SimW fw w) (h : (fI P FK i ρ fw).all (Up2 Q)) : wpI P K i (fget ρ) w Q := by
  cases i with
  | one o =>
    have h0 : (oneI P FK o ρ fw).all (Up2 Q) := h
    unfold oneI at h0
    cases hw : wantS (fget ρ) o.g with
    | true =>
      rw [hw] at h0
      have h1 : ((fop P FK o.o ρ fw).tb (kU P o retU ρ)).all (Up2 Q) := h0
      rw [T.tb_all] at h1
      refine ⟨fun _ => ?_, fun hn => by rw [hw] at hn; cases hn⟩
      refine fop_ok hK hs (T.all_mono (fun r hr => ?_) h1)
      intro w' hs'
      unfold kU at hr
      cases hf : fre P o.re (fput ρ o.d r.1) r.2 with
      | true =>
        rw [hf] at hr
        have h1 := fre_ok (K := K) hs' hf
        rw [fget_put] at h1
        have h2 := hr w' hs'
        rw [fget_put] at h2
        exact ⟨h1, h2⟩
      | false => rw [hf] at hr; exact hr.elim
    | false =>
      rw [hw] at h0
      refine ⟨fun hy => (by rw [hw] at hy; cases hy), fun _ => ?_⟩
      cases hf : fre P o.re (fput ρ o.d undef) fw with
      | true =>
        rw [hf] at h0
        have h1 := fre_ok (K := K) hs hf
        rw [fget_put] at h1
        have h2 := h0 w hs
        rw [fget_put] at h2
        exact ⟨h1, h2⟩
      | false => rw [hf] at h0; exact h0.elim
  | grp g l =>
    have h0 : (grpI P FK g l ρ fw).all (Up2 Q) := h
    match g with
    | none => exact fU_ok hK hs h0
    | some (none, x) =>
      have := h0 w hs
      rw [fskip_eq] at this
      exact this
    | some (some d, b) =>
      have h1 : (guI P FK d b l ρ fw).all (Up2 Q) := h0
      unfold guI at h1
      simp only [wpI]
      cases hv : fget ρ d with
      | bool c =>
        rw [hv] at h1
        cases c <;> cases b
        · refine ⟨fun _ => ?_, fun e => by cases e⟩
          have := fU_ok hK hs h1
          rw [fget_set] at this; exact this
        · refine ⟨fun e => (by cases e), fun _ => ?_⟩
          have := h1 w hs
          rw [fskip_eq, fget_set] at this; exact this
        · refine ⟨fun e => (by cases e), fun _ => ?_⟩
          have := h1 w hs
          rw [fskip_eq, fget_set] at this; exact this
        · refine ⟨fun _ => ?_, fun e => by cases e⟩
          have := fU_ok hK hs h1
          rw [fget_set] at this; exact this
      | _ =>
        rw [hv] at h1
        cases b <;> (have h2 := h1 w hs; rw [fskip_eq] at h2; exact h2)
theorem fGs_ok (hK : KOk FK K) : ∀ {l : List GI} {ρ : Tr Value} {fw : FW} {w : World} {Q : Env → World → Prop}, SimW fw w → (fGs P FK l ρ fw).all (Up2 Q) → wpGs P K l (fget ρ) w Q
  | [], ρ, fw, w, Q, hs, h => h w hs
  | i :: l, ρ, fw, w, Q, hs, h => by
    have h1 : ((fI P FK i ρ fw).tb (kG (fGs P FK l))).all (Up2 Q) := h
    rw [T.tb_all] at h1
    exact fI_ok hK hs (T.all_mono (fun r hr w' hs' => fGs_ok hK hs' hr) h1)
def dsOf (l : List Nat) : List Deferred := l.map fun d => { target := .collected d, args := #[] }
def UpS (Q : SPost) : FRes → Prop := fun r => ∀ w, SimW r.2.2.2 w → Q r.1 (fget r.2.1) (dsOf r.2.2.1) w
theorem floop_ok {body : FS} {wp : Env → List Deferred → World → SPost → Prop} (hb : ∀ {ρ : Tr Value} {ds : List Nat} {fw : FW} {w : World} {Q : SPost}, SimW fw w → (body ρ ds fw).all (UpS Q) → wp (fget ρ) (dsOf ds) w Q) :
    ∀ {n : Nat} {ρ : Tr Value} {ds : List Nat} {fw : FW} {w : World} {Q : SPost}, SimW fw w → (floop body n ρ ds fw).all (UpS Q) → wpLoop wp n (fget ρ) (dsOf ds) w Q
  | 0, _, _, _, _, _, _, h => h.elim
  | n + 1, ρ, ds, fw, w, Q, hs, h => by
    have h1 : ((body ρ ds fw).tb (kSeq (floop body n))).all (UpS Q) := h
    rw [T.tb_all] at h1
    refine hb hs (T.all_mono (fun r hr w' hs' => ?_) h1)
    obtain ⟨e, ρ', ds', fw'⟩ := r
    cases e with
    | normal => exact floop_ok hb hs' hr
    | _ => exact hr w' hs'
theorem seg_arr (ρ : Tr Value) : ∀ (n o : Nat), ρ.seg undef n o = (List.range' o n).map (fget ρ)
  | 0, o => rfl
  | n + 1, o => by
    rw [Tr.seg_succ, seg_arr ρ n (o + 1), List.range'_succ, List.map_cons, fget_eq]
theorem arr_seg (n : Nat) (ρ : Tr Value) : (ρ.seg undef n 0).toArray = arr n (fget ρ) := by
  rw [seg_arr]
  apply Array.ext (by simp [arr])
  intro i h1 h2
  simp [arr]
theorem fget_cut (n : Nat) (ρ : Tr Value) : fget (cutR n ρ) = Env.of (arr n (fget ρ)) := by
  have := fget_of (ρ.seg undef n 0).toArray
  rw [arr_seg] at this
  rw [← this, ← arr_seg]
  rfl
theorem fgc_ok (hK : KOk FK K) {fuel : Nat} {fn : FuncId} {ro : Option Nat} {n : Nat} : ∀ {c : GC} {ρ : Tr Value} {ds : List Nat} {fw : FW} {w : World} {Q : SPost}, SimW fw w → (fgc P FK fuel ro.isNone fn n c ρ ds fw).all (UpS Q) → wpGC P K fuel fn ro n c (fget ρ) (dsOf ds) w Q
  | .skip, ρ, ds, fw, w, Q, hs, h => h w hs
  | .ret, ρ, ds, fw, w, Q, hs, h => h w hs
  | .bad, ρ, ds, fw, w, Q, hs, h => h.elim
  | .exit id, ρ, ds, fw, w, Q, hs, h => h w hs
  | .ops l, ρ, ds, fw, w, Q, hs, h => by
    have h1 : ((fGs P FK l ρ fw).tb (kOps ds)).all (UpS Q) := h
    rw [T.tb_all] at h1
    exact fGs_ok hK hs (T.all_mono (fun r hr w' hs' => hr w' hs') h1)
  | .seq x y, ρ, ds, fw, w, Q, hs, h => by
    have h1 : ((fgc P FK fuel ro.isNone fn n x ρ ds fw).tb (kSeq (fgc P FK fuel ro.isNone fn n y))).all (UpS Q) := h
    rw [T.tb_all] at h1
    refine fgc_ok hK (c := x) hs (T.all_mono (fun r hr w' hs' => ?_) h1)
    obtain ⟨e, ρ', ds', fw'⟩ := r
    cases e with
    | normal => exact fgc_ok hK (c := y) hs' hr
    | _ => exact hr w' hs'
  | .cond c x y, ρ, ds, fw, w, Q, hs, h => by
    have h1 : (match evO c ρ with
      | .bool true => fgc P FK fuel ro.isNone fn n x ρ ds fw
      | .bool false => fgc P FK fuel ro.isNone fn n y ρ ds fw
      | _ => .bad).all (UpS Q) := h
    rw [evO_eq] at h1
    simp only [wpGC]
    split at h1
    · rename_i hc
      rw [hc]
      exact ⟨fun _ => fgc_ok hK (c := x) hs h1, fun e => by cases e⟩
    · rename_i hc
      rw [hc]
      exact ⟨fun e => (by cases e), fun _ => fgc_ok hK (c := y) hs h1⟩
    · exact h1.elim
  | .block id c, ρ, ds, fw, w, Q, hs, h => by
    have h1 : ((fgc P FK fuel ro.isNone fn n c ρ ds fw).tb (kBlk id)).all (UpS Q) := h
    rw [T.tb_all] at h1
    refine fgc_ok hK (c := c) hs (T.all_mono (fun r hr w' hs' => ?_) h1)
    obtain ⟨e, ρ', ds', fw'⟩ := r
    cases e with
    | exit id' =>
      simp only [kBlk] at hr ⊢
      by_cases e : id' = id
      · subst e
        rw [Nat.beq_refl] at hr
        rw [if_pos rfl]
        exact hr w' hs'
      · have : Nat.beq id' id = false := by
          cases hb : Nat.beq id' id with
          | false => rfl
          | true => exact absurd (Nat.eq_of_beq_eq_true hb) e
        rw [this] at hr
        rw [if_neg e]
        exact hr w' hs'
    | _ => exact hr w' hs'
  | .loop c, ρ, ds, fw, w, Q, hs, h => floop_ok (fun hs' h' => fgc_ok hK (c := c) hs' h') hs h
  | .rangeFunc g ps A B, ρ, ds, fw, w, Q, hs, h => by
    have h0 : (rangeG P FK ro.isNone fn n g ps A B ρ ds fw).all (UpS Q) := h
    unfold rangeG at h0
    split at h0
    · rename_i t hro
      have hro' : ro = none := by cases ro with | none => rfl | some _ => cases hro
      subst hro'
      split at h0
      · rename_i f first cap ht hev
        have ht' : t < n := Nat.le_of_ble_eq_true ht
        split at h0
        · rename_i hf hb
          have hfi : first = #[] := by rw [← Array.toList_eq_nil_iff]; exact hf
          unfold hasBody at hb
          rw [T.tb_all] at h0
          have hs1 : SimW (fw.push (.other (.deferred (some [])))) (World.push w (.deferred (some []))) := hs.push ⟨rfl, fun _ _ _ h => by cases h⟩
          have hs2 := hs1.push (fo := .loop .ready none fn n ρ ps A B fw.n) (o := .loop { state := .ready, pending := none, fn := fn, tmps := arr n (fget ρ), params := ps, assign := A, body := B, defers := fw.n }) rfl
          refine gc_range ht' hev hfi hb ?_
          rw [hs.size]
          rw [catA_eq] at h0
          refine hK.enter _ _ _ _ _ hs2 (T.all_mono (fun r hr w' hs' => ?_) h0)
          unfold kRange at hr
          split at hr
          · rename_i st pe fn' n' ρ' ps' A' B' df hl
            obtain ⟨o, ho, hso⟩ := hs'.get hl
            have hso' : o = .loop { state := st, pending := pe, fn := fn', tmps := arr n' (fget ρ'), params := ps', assign := A', body := B', defers := df } := hso
            subst hso'
            refine ⟨_, ho, ?_⟩
            have hset := hs'.set hl (fo := .loop .exhausted pe fn' n' ρ' ps' A' B' df) (o := .loop { state := .exhausted, pending := pe, fn := fn', tmps := arr n' (fget ρ'), params := ps', assign := A', body := B', defers := df }) rfl
            rw [← fget_cut]
            split at hr
            · rename_i hbz
              refine ⟨fun e => (by simp only at e; subst e; exact absurd hbz (by decide)), ?_⟩
              exact hr _ hset
            · rename_i hbz
              refine ⟨fun e => (by simp only at e; subst e; exact absurd hbz (by decide)), ?_⟩
              exact hr _ hset
            · rename_i hbz
              refine ⟨fun e => (by simp only at e; subst e; exact absurd hbz (by decide)), ?_⟩
              exact hr _ hset
            · exact hr.elim
          · exact hr.elim
        · exact h0.elim
      · exact h0.elim
    · exact h0.elim
theorem fres_ok {fw : FW} {w : World} (hs : SimW fw w) {ρ : Tr Value} : ∀ {l : List RS} {vs : List Value}, fres l ρ fw = some vs → resL l (fget ρ) w = some vs
  | [], vs, h => h
  | ⟨t, none⟩ :: l, vs, h => by
    have h1 : (fres l ρ fw).map (fget ρ t :: ·) = some vs := h
    rw [Option.map_eq_some_iff] at h1
    obtain ⟨us, h2, h3⟩ := h1
    show (resL l (fget ρ) w).map (fget ρ t :: ·) = some vs
    rw [fres_ok hs h2, Option.map_some, h3]
  | ⟨a, some n⟩ :: l, vs, h => by
    have h1 : (match loadF n (fget ρ a) fw with
      | .ret (v, _) => (fres l ρ fw).map (v :: ·)
      | _ => none) = some vs := h
    show (match loadS n (fget ρ a) w with
      | .ret (v, _) => (resL l (fget ρ) w).map (v :: ·)
      | _ => none) = some vs
    split at h1
    · rename_i v fw' hl
      have ht := load_tr hs n (fget ρ a)
      rw [hl] at ht
      rw [Option.map_eq_some_iff] at h1
      obtain ⟨us, h2, h3⟩ := h1
      cases hso : loadS n (fget ρ a) w with
      | ret x =>
        rw [hso] at ht
        cases ht
        show (resL l (fget ρ) w).map (v :: ·) = some vs
        rw [fres_ok hs h2, Option.map_some, h3]
      | bad => rw [hso] at ht; cases ht
      | pick n k => rw [hso] at ht; cases ht
    · cases h1
theorem ffin_ok (P : Program) : ∀ {ds : List Nat} {fw fw' : FW} {w : World} {Q : World → Prop}, SimW fw w → ffin ds fw = some fw' → (∀ w', SimW fw' w' → Q w') → wpFin P (dsOf ds) w Q
  | [], fw, fw', w, Q, hs, h, hq => by
    have h' := Option.some.inj h
    subst h'
    exact hq w hs
  | d :: ds, fw, fw', w, Q, hs, h, hq => by
    have h1 : (match fw.h.get d with
      | some (.other (.deferred (some []))) => ffin ds (fw.set d (.other (.deferred none)))
      | _ => none) = some fw' := h
    split at h1
    · rename_i hd
      have ho := hs.other hd
      show (match (Instr.takeDeferred d).run P w with
        | .ok [] w' => wpFin P (dsOf ds) w' Q
        | _ => False)
      have : (Instr.takeDeferred d).run P w = .ok [] (World.set w d (.deferred none)) := by
        simp only [Instr.takeDeferred, Sem.run_bind, getObj, Sem.run, ho, Result.andThen, setObj]
        rfl
      rw [this]
      exact ffin_ok P (hs.set hd (fo := .other (.deferred none)) ⟨rfl, fun _ _ _ h => by cases h⟩) h1 hq
    · cases h1
theorem ffn_ok (hK : KOk FK K) {fuel : Nat} {f : FuncId} {gf : GFn} {args : Array Value} {fw : FW} {w : World} {Q : Value × World → Prop} (hs : SimW fw w) (h : (ffn P FK fuel f gf args fw).all (Up Q)) : wpGFn P K fuel f gf args w fun v w => Q (v, w) := by
  unfold ffn at h
  split at h
  · rename_i ha
    rw [T.tb_all] at h
    refine ⟨Nat.le_of_ble_eq_true ha, ?_⟩
    rw [← fget_of]
    refine fgc_ok hK (ro := none) (ds := []) hs (T.all_mono (fun r hr w' hs' => ?_) h)
    obtain ⟨e, ρ', ds', fw'⟩ := r
    have fin : (match ffin ds' fw' with
      | some w => match fres gf.res ρ' w with
        | some vs => .ret (oneOf vs, w)
        | none => .bad
      | none => .bad : T (Value × FW)).all (Up Q) → wpFin P (dsOf ds') w' fun w => wpRes gf.res (fget ρ') w fun v => Q (v, w) := fun h2 => by
      split at h2
      · rename_i fw2 hf
        split at h2
        · rename_i vs hv
          refine ffin_ok P hs' hf fun w2 hs2 => ?_
          simp only [wpRes, fres_ok hs2 hv]
          exact h2 w2 hs2
        · exact h2.elim
      · exact h2.elim
    cases e with
    | normal => exact ⟨.inl rfl, fin hr⟩
    | ret => exact ⟨.inr rfl, fin hr⟩
    | _ => exact hr.elim
  · exact h.elim
theorem frnd_ok (hK : KOk FK K) {fuel l : Nat} {f : FuncId} {n : Nat} {ρ : Tr Value} {A B : Code} {fw : FW} {w : World} {Q : Value × World → Prop} (hs : SimW fw w) (h : (frnd P FK fuel l f n ρ A B fw).all (Up Q)) :
    (iround P K fuel l f (arr n (fget ρ)) A B w).all Q := by
  unfold frnd at h
  rw [T.tb_all] at h
  refine round_rule rfl rfl (size_arr n _) ?_
  rw [← fget_cut]
  refine fgc_ok hK (ro := some l) (ds := []) hs (T.all_mono (fun r hr w' hs' => ?_) h)
  obtain ⟨e, ρ', ds', fw'⟩ := r
  unfold kBegin at hr
  cases e with
  | normal =>
    simp only at hr
    split at hr
    · rename_i st pe fn' n' ρ2 ps' A' B' df hl
      obtain ⟨o, ho, hso⟩ := hs'.get hl
      have hso' : o = .loop { state := st, pending := pe, fn := fn', tmps := arr n' (fget ρ2), params := ps', assign := A', body := B', defers := df } := hso
      subst hso'
      split at hr
      · rename_i hst
        have hst' : st = .ready := by cases st <;> first | rfl | exact absurd hst (by decide)
        refine ⟨rfl, _, ho, hst', ?_⟩
        rw [T.tb_all] at hr
        have hset := hs'.set hl (fo := .loop .busy pe fn' n' ρ2 ps' A' B' df) (o := .loop { state := .busy, pending := pe, fn := fn', tmps := arr n' (fget ρ2), params := ps', assign := A', body := B', defers := df }) rfl
        refine fgc_ok hK (ro := some l) (ds := ds') hset (T.all_mono (fun r2 hr2 w3 hs3 => ?_) hr)
        obtain ⟨e2, ρ3, ds3, fw3⟩ := r2
        unfold kEnd at hr2
        simp only at hr2
        split at hr2
        · rename_i st3 pe3 fn3 n3 ρ4 ps3 A3 B3 df3 hl3
          obtain ⟨o3, ho3, hso3⟩ := hs3.get hl3
          have hso3' : o3 = .loop { state := st3, pending := pe3, fn := fn3, tmps := arr n3 (fget ρ4), params := ps3, assign := A3, body := B3, defers := df3 } := hso3
          subst hso3'
          refine ⟨_, ho3, ?_⟩
          split at hr2
          · exact hr2 _ (hs3.set hl3 rfl)
          · exact hr2 _ (hs3.set hl3 rfl)
          · exact hr2 _ (hs3.set hl3 rfl)
          · exact hr2.elim
        · exact hr2.elim
      · exact hr.elim
    · exact hr.elim
  | _ => exact hr.elim
end
def FHOk (FH : FAns) (H : HeapAns) : Prop := ∀ (f : FuncId) (args : Array Value) (fw : FW) (w : World), SimW fw w → match FH f args fw with
  | some t => ∃ t', H f args w = some t' ∧ TR t t'
  | none => H f args w = none
theorem fnext_ok {P : Program} {G : GTab} (hG : GOk P G) {FH : FAns} {H : HeapAns} (hH : FHOk FH H) {n : Nat} {FK : FKont} (hK : KOk FK (runH P H n)) : KOk (fnext P G FH n FK) (runH P H (n + 1)) where
  enter f args fw w Q hs h := by
    have h1 : (match FH f args fw with
      | some t => t
      | none => match G f with
        | some gf => ffn P FK (n + 1) f gf args fw
        | none => .bad).all (Up Q) := h
    have hh := hH f args fw w hs
    split at h1
    · rename_i t ht
      rw [ht] at hh
      obtain ⟨t', h2, h3⟩ := hh
      have : (runH P H (n + 1)).enter f args w = t' := by simp only [runH, h2]
      rw [this]
      exact h3.all h1
    · rename_i ht
      rw [ht] at hh
      split at h1
      · rename_i gf hg
        exact enter_okH (hG _ _ hg) hh (ffn_ok hK hs h1)
      · exact h1.elim
  round l fn m ρ A B fw w Q hs h := frnd_ok hK hs h
theorem frun_ok {P : Program} {G : GTab} (hG : GOk P G) {FH : FAns} {H : HeapAns} (hH : FHOk FH H) : ∀ n, KOk (frun P G FH n) (runH P H n)
  | 0 => ⟨fun _ _ _ _ _ _ h => h.elim, fun _ _ _ _ _ _ _ _ _ _ h => h.elim⟩
  | n + 1 => fnext_ok hG hH (frun_ok hG hH n)
noncomputable def Tr.ofL {α : Type} (l : List (Nat × α)) : Tr α := List.rec (motive := fun _ => Tr α) .lf (fun p _ h => h.set p.1 p.2) l
theorem Tr.get_ofL {α : Type} : ∀ (l : List (Nat × α)) (i : Nat) (x : α), (Tr.ofL l).get i = some x → (i, x) ∈ l
  | [], i, x, h => by cases h
  | p :: l, i, x, h => by
    have e : Tr.ofL (p :: l) = (Tr.ofL l).set p.1 p.2 := rfl
    rw [e, Tr.get_set] at h
    by_cases hi : i = p.1
    · rw [if_pos hi] at h
      simp only [Option.some.injEq] at h
      subst hi; subst h
      exact List.mem_cons_self
    · rw [if_neg hi] at h
      exact List.mem_cons_of_mem _ (Tr.get_ofL l i x h)
def LowOk (P : Program) (l : List (Nat × GFn)) : Prop := ∀ p ∈ l, lowG P p.1 = some p.2
theorem LowOk.nil {P : Program} : LowOk P [] := fun p h => by cases h
theorem LowOk.cons {P : Program} {f : Nat} {g : GFn} {l : List (Nat × GFn)} (h : lowG P f = some g) (hl : LowOk P l) : LowOk P ((f, g) :: l) := fun p hp => by
  rcases List.mem_cons.1 hp with rfl | hp
  · exact h
  · exact hl p hp
theorem LowOk.app {P : Program} {l m : List (Nat × GFn)} (hl : LowOk P l) (hm : LowOk P m) : LowOk P (appR l m) := fun p hp => by
  rw [appR_eq] at hp
  rcases List.mem_append.1 hp with h | h
  · exact hl p h
  · exact hm p h
theorem GOk.of {P : Program} {l : List (Nat × GFn)} (h : LowOk P l) : GOk P (Tr.ofL l).get := fun f g hg => h _ (Tr.get_ofL l f g hg)
noncomputable def fw0 : FW := ⟨0, .lf⟩
theorem sim0 : SimW fw0 { (default : World) with heap := #[] } := ⟨rfl, fun b fo h => by cases h⟩
namespace W
abbrev n (k : Nat) : Value := .int .i64 (.ofNat k)
abbrev t (k : Nat) : Operand := .tmp k
abbrev i (k : Nat) : Operand := .const (.int .i64 (.ofNat k))
abbrev e (d : Nat) (o : SOp) : SG := ⟨some d, none, o, []⟩
abbrev e0 (o : SOp) : SG := ⟨none, none, o, []⟩
abbrev mv (d : Nat) (x : Operand) : SG := ⟨some d, none, .move x, []⟩
abbrev ld (d : Nat) (x : Operand) : SG := ⟨some d, none, .load none x, []⟩
abbrev fa (d k : Nat) (x : Operand) : SG := ⟨some d, none, .faddr k x, []⟩
abbrev nn (d : Nat) (x : Operand) : SG := ⟨some d, none, .nonnil x, []⟩
abbrev ex (d : Nat) (x : Operand) (k : Nat) : SG := ⟨some d, none, .extract x k, []⟩
abbrev gr (l : List SG) : GI := .grp none l
abbrev og (l : List SG) : GC := .ops [.grp none l]
abbrev sq (x y : GC) : GC := .seq x y
end W
end Go.Ideal
