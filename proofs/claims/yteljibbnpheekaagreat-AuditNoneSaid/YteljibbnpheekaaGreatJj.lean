/-
  Code in small words, and what must hold ahead of it that something holds behind it.
-/
import Derived.Test.YteljibbnpheekaaGreatJe
namespace Go.Ideal
open Go
structure SR where
  d : Option Tmp
  g : PG
  o : SOp
structure SG where
  d : Option Tmp
  g : PG
  o : SOp
  re : List SR
inductive WC where
  | skip | ret | bad
  | exit (id : Nat)
  | ops (l : List SG)
  | seq (x y : WC)
  | cond (c : Operand) (x y : WC)
  | block (id : Nat) (c : WC)
  | loop (c : WC)
  | rangeFunc (g : Operand) (ps : Array Tmp) (assign body : Code)
structure RS where
  t : Tmp
  c : Option (Option Nat)
structure SFn where
  n : Nat
  res : List RS
  body : WC
def below (n : Nat) (d : Option Tmp) : Bool := match d with
  | none => true
  | some d => decide (d < n)
def rereads : Op → Bool
  | .load .. | .lookup .. | .slice .. | .call { callee := .builtin .len, .. } => true
  | _ => false
def lowRe (P : Program) (n : Nat) (r : PR0) : Option SR :=
  if r.op.operands.all constFit && rereads r.op && below n r.dst then (lowOp P r.op).map fun s => { d := r.dst, g := r.gd, o := s } else none
def lowAny (P : Program) (op : Op) (ty : TypeId) : SOp :=
  if op.operands.all constFit then (match lowOp P op with | some s => s | none => .raw op ty) else .raw op ty
def lowPO (P : Program) (n : Nat) (o : PO) : Option SG :=
  if below n o.dst then (o.re.mapM (lowRe P n)).map fun re => { d := o.dst, g := o.gd, o := lowAny P o.op o.ty, re } else none
def lowC (P : Program) (n : Nat) : PC → WC
  | .skip => .skip
  | .ret => .ret
  | .bad => .bad
  | .exit id => .exit id
  | .ops l => match l.mapM (lowPO P n) with
    | some l => .ops l
    | none => .bad
  | .seq x y => .seq (lowC P n x) (lowC P n y)
  | .cond c x y => .cond c (lowC P n x) (lowC P n y)
  | .block id c => .block id (lowC P n c)
  | .loop c => .loop (lowC P n c)
  | .rangeFunc g ps assign body => .rangeFunc g ps assign body
def tmpsOf (P : Program) : List ResultVar → Option (List RS)
  | [] => some []
  | .tmp t :: l => (tmpsOf P l).map (⟨t, none⟩ :: ·)
  | .cell a t :: l => match aggOf P t with
    | some n => (tmpsOf P l).map (⟨a, some n⟩ :: ·)
    | none => none
def lowFn (P : Program) (f : FuncId) : Option SFn :=
  match P.funcs[f]? with
  | some fn => match fn.body, tmpsOf P fn.results.toList with
    | some c, some rs => some { n := fn.ntmps, res := rs, body := lowC P fn.ntmps (pcOf c) }
    | _, _ => none
  | none => none
def wantS (ρ : Env) : PG → Bool
  | none => true
  | some (none, _) => false
  | some (some d, b) => match ρ d with
    | .bool c => c == b
    | _ => false
def sagain (P : Program) (K : Kont) (ρ : Env) (w : World) (re : List SR) : Bool :=
  re.all fun r => !wantS ρ r.g ||
    match sone P K (ev ρ) w r.o with
    | .ret (v, _) => (match r.d with
      | some d => veq 4 v (ρ d)
      | none => false)
    | _ => false
def wpG (P : Program) (K : Kont) (o : SG) (ρ : Env) (w : World) (Q : Env → World → Prop) : Prop :=
  (wantS ρ o.g = true → (sone P K (ev ρ) w o.o).all fun r => Q (ρ.put o.d r.1) r.2) ∧ (wantS ρ o.g = false → Q (ρ.put o.d undef) w)
def wpOps (P : Program) (K : Kont) : List SG → Env → World → (Env → World → Prop) → Prop
  | [], ρ, w, Q => Q ρ w
  | o :: l, ρ, w, Q => wpG P K o ρ w fun ρ w => sagain P K ρ w o.re = true ∧ wpOps P K l ρ w Q
abbrev SPost := Exit → Env → List Deferred → World → Prop
def wpLoop (body : Env → List Deferred → World → SPost → Prop) : Nat → Env → List Deferred → World → SPost → Prop
  | 0, _, _, _, _ => False
  | n + 1, ρ, ds, w, Q => body ρ ds w fun e ρ ds w => match e with
    | .normal => wpLoop body n ρ ds w Q
    | e => Q e ρ ds w
def arr (n : Nat) (ρ : Env) : Array Value := Array.ofFn (n := n) fun i => ρ i
def wpC (P : Program) (K : Kont) (fuel : Nat) (fn : FuncId) (ro : Option Nat) (n : Nat) : WC → Env → List Deferred → World → SPost → Prop
  | .skip, ρ, ds, w, Q => Q .normal ρ ds w
  | .ret, ρ, ds, w, Q => Q .ret ρ ds w
  | .bad, _, _, _, _ => False
  | .exit id, ρ, ds, w, Q => Q (.exit id) ρ ds w
  | .ops l, ρ, ds, w, Q => wpOps P K l ρ w fun ρ w => Q .normal ρ ds w
  | .seq x y, ρ, ds, w, Q => wpC P K fuel fn ro n x ρ ds w fun e ρ ds w => match e with
    | .normal => wpC P K fuel fn ro n y ρ ds w Q
    | e => Q e ρ ds w
  | .cond c x y, ρ, ds, w, Q => match ev ρ c with
    | .bool b => (b = true → wpC P K fuel fn ro n x ρ ds w Q) ∧ (b = false → wpC P K fuel fn ro n y ρ ds w Q)
    | _ => False
  | .block id c, ρ, ds, w, Q => wpC P K fuel fn ro n c ρ ds w fun e ρ ds w => match e with
    | .exit id' => if id' = id then Q .normal ρ ds w else Q (.exit id') ρ ds w
    | e => Q e ρ ds w
  | .loop c, ρ, ds, w, Q => wpLoop (wpC P K fuel fn ro n c) fuel ρ ds w Q
  | .rangeFunc g ps assign body, ρ, ds, w, Q => (icode P K fuel fn ro (.rangeFunc g ps assign body) ⟨arr n ρ, ds⟩ w).all fun r => r.2.1.tmps.size = n ∧ Q r.1 (Env.of r.2.1.tmps) r.2.1.defers r.2.2
def resL : List RS → Env → World → Option (List Value)
  | [], _, _ => some []
  | ⟨t, none⟩ :: l, ρ, w => (resL l ρ w).map (ρ t :: ·)
  | ⟨a, some n⟩ :: l, ρ, w => match loadS n (ρ a) w with
    | .ret (v, _) => (resL l ρ w).map (v :: ·)
    | _ => none
def oneOf : List Value → Value
  | [v] => v
  | vs => .tuple vs.toArray
def wpRes (rs : List RS) (ρ : Env) (w : World) (Q : Value → Prop) : Prop :=
  match resL rs ρ w with
  | some vs => Q (oneOf vs)
  | none => False
def wpFin (P : Program) : List Deferred → World → (World → Prop) → Prop
  | [], w, Q => Q w
  | d :: ds, w, Q => match d.target with
    | .collected r => match (Instr.takeDeferred r).run P w with
      | .ok [] w' => wpFin P ds w' Q
      | _ => False
    | _ => False
def wpFn (P : Program) (K : Kont) (fuel : Nat) (f : FuncId) (sf : SFn) (args : Array Value) (w : World) (Q : Value → World → Prop) : Prop :=
  args.size ≤ sf.n ∧ wpC P K fuel f none sf.n sf.body (Env.of args) [] w fun e ρ ds w => (e = .normal ∨ e = .ret) ∧ wpFin P ds w fun w => wpRes sf.res ρ w fun v => Q v w
section
variable {P : Program} {K : Kont}
theorem wpG_mono {o : SG} {ρ : Env} {w : World} {Q Q' : Env → World → Prop} (h : ∀ ρ w, Q ρ w → Q' ρ w) (hw : wpG P K o ρ w Q) : wpG P K o ρ w Q' :=
  ⟨fun hy => T.all_mono (fun _ hr => h _ _ hr) (hw.1 hy), fun hn => h _ _ (hw.2 hn)⟩
theorem wpOps_mono : ∀ {l : List SG} {ρ : Env} {w : World} {Q Q' : Env → World → Prop}, (∀ ρ w, Q ρ w → Q' ρ w) → wpOps P K l ρ w Q → wpOps P K l ρ w Q'
  | [], _, _, _, _, h, hw => h _ _ hw
  | _ :: _, _, _, _, _, h, hw => wpG_mono (fun _ _ hr => ⟨hr.1, wpOps_mono h hr.2⟩) hw
theorem wpLoop_mono {body : Env → List Deferred → World → SPost → Prop} (hb : ∀ ρ ds w (Q Q' : SPost), (∀ e ρ ds w, Q e ρ ds w → Q' e ρ ds w) → body ρ ds w Q → body ρ ds w Q') :
    ∀ (k : Nat) {ρ : Env} {ds : List Deferred} {w : World} {Q Q' : SPost}, (∀ e ρ ds w, Q e ρ ds w → Q' e ρ ds w) → wpLoop body k ρ ds w Q → wpLoop body k ρ ds w Q'
  | 0, _, _, _, _, _, _, hw => hw
  | k + 1, _, _, _, _, _, h, hw => hb _ _ _ _ _ (fun e ρ ds w hr => by
      cases e with
      | normal => exact wpLoop_mono hb k h hr
      | _ => exact h _ _ _ _ hr) hw
theorem wpC_mono {fuel : Nat} {fn : FuncId} {ro : Option Nat} {n : Nat} : ∀ (c : WC) {ρ : Env} {ds : List Deferred} {w : World} {Q Q' : SPost}, (∀ e ρ ds w, Q e ρ ds w → Q' e ρ ds w) → wpC P K fuel fn ro n c ρ ds w Q → wpC P K fuel fn ro n c ρ ds w Q' := by
  intro c
  induction c with
  | skip => intro ρ ds w Q Q' h hw; exact h _ _ _ _ hw
  | ret => intro ρ ds w Q Q' h hw; exact h _ _ _ _ hw
  | bad => intro ρ ds w Q Q' h hw; exact hw
  | exit id => intro ρ ds w Q Q' h hw; exact h _ _ _ _ hw
  | ops l => intro ρ ds w Q Q' h hw; exact wpOps_mono (fun _ _ hr => h _ _ _ _ hr) hw
  | seq x y ihx ihy =>
    intro ρ ds w Q Q' h hw
    refine ihx (fun e ρ ds w hr => ?_) hw
    cases e with
    | normal => exact ihy h hr
    | _ => exact h _ _ _ _ hr
  | cond c x y ihx ihy =>
    intro ρ ds w Q Q' h hw
    unfold wpC at hw ⊢
    split
    · rename_i b hb
      rw [hb] at hw
      exact ⟨fun hh => ihx h (hw.1 hh), fun hh => ihy h (hw.2 hh)⟩
    · rename_i hb
      split at hw
      · rename_i b hb2; exact absurd hb2 (hb b)
      · exact hw
  | block id c ih =>
    intro ρ ds w Q Q' h hw
    refine ih (fun e ρ ds w hr => ?_) hw
    cases e with
    | exit id' =>
      simp only at hr ⊢
      split at hr
      · rename_i hi; rw [if_pos hi]; exact h _ _ _ _ hr
      · rename_i hi; rw [if_neg hi]; exact h _ _ _ _ hr
    | _ => exact h _ _ _ _ hr
  | loop c ih => intro ρ ds w Q Q' h hw; exact wpLoop_mono (body := wpC P K fuel fn ro n c) (fun _ _ _ _ _ h hw => ih h hw) fuel h hw
  | rangeFunc g ps assign body => intro ρ ds w Q Q' h hw; exact T.all_mono (fun _ hr => ⟨hr.1, h _ _ _ _ hr.2⟩) hw
theorem want_of (a : Act) (g : PG) : want a.tmps g = wantS (Env.of a.tmps) g := by
  unfold want wantS
  cases g with
  | none => rfl
  | some p =>
    obtain ⟨t, b⟩ := p
    cases t with
    | none => rfl
    | some d =>
      simp only [Option.bind_some, Env.of, Array.getD_eq_getD_getElem?]
      cases hd : a.tmps[d]? with
      | none => simp [undef]
      | some v => cases v <;> simp <;> (rename_i c; cases c <;> cases b <;> rfl)
theorem put_of {a : Act} {n : Nat} (hs : a.tmps.size = n) {d : Option Tmp} (hd : below n d = true) (v : Value) : (a.put d v).tmps.size = n ∧ Env.of (a.put d v).tmps = (Env.of a.tmps).put d v ∧ (a.put d v).defers = a.defers := by
  cases d with
  | none => exact ⟨hs, rfl, rfl⟩
  | some d =>
    have hlt : d < n := by simpa [below] using hd
    refine ⟨by simp [Act.put, hs], ?_, rfl⟩
    funext i
    simp only [Env.of, Env.put, Act.put, Array.getD_eq_getD_getElem?, Array.getElem?_setIfInBounds]
    by_cases hi : d = i
    · subst hi; simp [hs, hlt]
    · rw [if_neg hi, if_neg (fun h => hi h.symm)]
theorem eval_env (a : Act) : a.eval = ev (Env.of a.tmps) := by
  funext x; cases x <;> rfl
theorem lowAny_ok {op : Op} {ty : TypeId} {a : Act} {w : World} {Q : Value × World → Prop} (h : (sone P K (ev (Env.of a.tmps)) w (lowAny P op ty)).all Q) : (pval K (pstep P a.eval op ty w)).all Q := by
  rw [eval_env]
  unfold lowAny at h
  split at h
  · rename_i hc
    split at h
    · rename_i s hl
      exact lowOp_ok (fun g => rfl) hc hl h
    · exact h
  · exact h
end
end Go.Ideal
namespace Go.Ideal
open Go
section
variable {P : Program} {K : Kont}
theorem arr_of {a : Act} {n : Nat} (h : a.tmps.size = n) : arr n (Env.of a.tmps) = a.tmps := by
  subst h
  apply Array.ext (by simp [arr])
  intro i h1 h2
  simp [arr, Env.of, Array.getD_eq_getD_getElem?]
theorem lowOp_read {op : Op} {ty : TypeId} {s : SOp} {a : Act} {w w' : World} {v : Value} (hr : rereads op = true) (hc : op.operands.all constFit = true) (hl : lowOp P op = some s) (h : sone P K (ev (Env.of a.tmps)) w s = .ret (v, w')) :
    ∃ w2, pstep P a.eval op ty w = .ret (.value v, w2) := by
  rw [eval_env]
  generalize ev (Env.of a.tmps) = ρ at *
  cases op with
  | load t x =>
    simp only [lowOp, Option.map_eq_some_iff] at hl
    obtain ⟨n, ha, rfl⟩ := hl
    obtain ⟨r, hr, hq⟩ := ok_load (Q := fun r => r = (v, w')) ha (by show (sone P K ρ w (.load n x)).all _; rw [h]; exact rfl)
    simp only [Prod.mk.injEq] at hq
    refine ⟨w, ?_⟩
    simp only [pstep, istep, hc, if_true, execOp, Sem.run_bind, hr, Result.andThen, Sem.run_pure, ofRun, hq.1]
  | lookup t x k ok =>
    simp only [lowOp] at hl
    split at hl
    · rename_i kt et hu
      split at hl
      · rename_i kk i hk hi
        split at hl
        · rename_i z hz
          split at hl
          · rename_i hs
            simp only [Option.some.injEq] at hl; subst hl
            obtain ⟨r, hr, hq, hkf⟩ := ok_lookup (Q := fun r => r = (v, w')) hu hk hi hz (by show (sone P K ρ w (.lookup kk z x k ok)).all _; rw [h]; exact rfl)
            simp only [Prod.mk.injEq] at hq
            have h1 : elemOk P t = true := by unfold elemOk; rw [hu]; exact zeroOk_of hi hz hs
            have h2 : keyTy P t = true := by unfold keyTy isInt; rw [hu]; simp only [hk]
            have h3 : (keyFit (ρ k) && elemOk P t && keyTy P t) = true := by simp [hkf, h1, h2]
            refine ⟨w, ?_⟩
            simp only [pstep, istep, hc, if_true, execOp, h3, Sem.run_bind, hr, Result.andThen, Sem.run_pure, ofRun, hq.1]
          · cases hl
        · cases hl
      · cases hl
    · cases hl
  | slice t x lo hi mx =>
    simp only [lowOp] at hl
    split at hl
    · rename_i e hu
      simp only [Option.map_eq_some_iff] at hl
      obtain ⟨i, hi', rfl⟩ := hl
      have := ok_slice (P := P) (w := w) (Q := fun r => r = (v, w')) hu hi' (by show (sone P K ρ w (.slice e i.size x lo hi mx)).all _; rw [h]; exact rfl)
      rcases flat_islice P t (ρ x) (lo.map ρ) (hi.map ρ) (mx.map ρ) w with ⟨r, hr⟩ | hr
      · rw [hr] at this
        have hrv : r = (v, w') := this
        refine ⟨w', ?_⟩
        simp only [pstep, istep, hc, if_true, hr, hrv, T.bind]
      · rw [hr] at this; exact this.elim
    · cases hl
  | call c =>
    have hcal : c.callee = .builtin .len := by
      obtain ⟨callee, args, at_⟩ := c
      cases callee with
      | builtin b => cases b <;> first | rfl | cases hr
      | _ => cases hr
    have he := run_builtin (ty := ty) (ρ := ρ) hcal rfl rfl
    obtain ⟨callee, args, at_⟩ := c
    simp only at hcal; subst hcal
    simp only [lowOp] at hl
    split at hl
    · rename_i t x ht hx
      have h1 : (args.map ρ)[0]? = some (ρ x) := by rw [Array.getElem?_map, hx]; rfl
      split at hl
      · rename_i e hu
        simp only [Option.some.injEq] at hl; subst hl
        obtain ⟨r, hr, hq⟩ := ok_len (P := P) (ty := ty) (Q := fun r => r = (v, w')) ht h1 hu (by show (sone P K ρ w (.len x)).all _; rw [h]; exact rfl)
        simp only [Prod.mk.injEq] at hq
        refine ⟨w, ?_⟩
        simp only [pstep, istep, hc, if_true, he, builtin, Sem.run_bind, hr, Result.andThen, Sem.run_pure, ofRun, hq.1]
      · rename_i k e hu
        simp only [Option.some.injEq] at hl; subst hl
        obtain ⟨r, hr, hq⟩ := ok_lenMap (P := P) (ty := ty) (Q := fun r => r = (v, w')) ht h1 hu (by show (sone P K ρ w (.lenMap x)).all _; rw [h]; exact rfl)
        simp only [Prod.mk.injEq] at hq
        refine ⟨w, ?_⟩
        simp only [pstep, istep, hc, if_true, he, builtin, Sem.run_bind, hr, Result.andThen, Sem.run_pure, ofRun, hq.1]
      · cases hl
    · cases hl
  | _ => cases hr
theorem again_ok {n : Nat} {a : Act} {w : World} (hs : a.tmps.size = n) : ∀ (l : List PR0) (m : List SR), l.mapM (lowRe P n) = some m → sagain P K (Env.of a.tmps) w m = true → pagain P a w l = true
  | [], m, hl, _ => rfl
  | r :: l, m, hl, h => by
    simp only [List.mapM_cons, Option.bind_eq_bind, Option.bind_eq_some_iff, Option.pure_def, Option.some.injEq] at hl
    obtain ⟨s, hs1, m', hm', rfl⟩ := hl
    have hsplit : sagain P K (Env.of a.tmps) w (s :: m') = (((!wantS (Env.of a.tmps) s.g) || match sone P K (ev (Env.of a.tmps)) w s.o with | .ret (v, _) => (match s.d with | some d => veq 4 v (Env.of a.tmps d) | none => false) | _ => false) && sagain P K (Env.of a.tmps) w m') := rfl
    rw [hsplit, Bool.and_eq_true] at h
    have hrest := again_ok hs l m' hm' h.2
    have hcons : pagain P a w (r :: l) = (((!want a.tmps r.gd) || match pstep P a.eval r.op r.ty w with | .ret (.value v, _) => (match r.dst with | some d => (match a.tmps[d]? with | some u => veq 4 v u | none => false) | none => false) | _ => false) && pagain P a w l) := rfl
    rw [hcons, hrest, Bool.and_true]
    unfold lowRe at hs1
    split at hs1
    · rename_i hc
      simp only [Bool.and_eq_true] at hc
      simp only [Option.map_eq_some_iff] at hs1
      obtain ⟨so, hso, rfl⟩ := hs1
      have h1 := h.1
      simp only at h1
      rw [want_of]
      cases hw : wantS (Env.of a.tmps) r.gd with
      | false => rfl
      | true =>
        rw [hw] at h1
        simp only [Bool.not_true, Bool.false_or] at h1 ⊢
        split at h1
        · rename_i v w' hsone
          obtain ⟨w2, hp⟩ := lowOp_read (ty := r.ty) hc.1.2 hc.1.1 hso hsone
          rw [hp]
          simp only
          split at h1
          · rename_i d hd
            have hlt : d < n := by have := hc.2; rw [hd] at this; simpa [below] using this
            have hlt' : d < a.tmps.size := by rw [hs]; exact hlt
            simp only [Env.of, Array.getD_eq_getD_getElem?] at h1
            rw [Array.getElem?_eq_getElem hlt'] at h1 ⊢
            exact h1
          · cases h1
        · cases h1
    · cases hs1
theorem ops_ok {n : Nat} : ∀ (l : List PO) (m : List SG), l.mapM (lowPO P n) = some m → ∀ {a : Act} {w : World} {Q : Env → World → Prop}, a.tmps.size = n → wpOps P K m (Env.of a.tmps) w Q →
    (pops P K l a w).all fun r => r.1.tmps.size = n ∧ r.1.defers = a.defers ∧ Q (Env.of r.1.tmps) r.2
  | [], m, hl, a, w, Q, hs, h => by
    simp only [List.mapM_nil, Option.pure_def, Option.some.injEq] at hl; subst hl
    exact ⟨hs, rfl, h⟩
  | o :: l, m, hl, a, w, Q, hs, h => by
    simp only [List.mapM_cons, Option.bind_eq_bind, Option.bind_eq_some_iff, Option.pure_def, Option.some.injEq] at hl
    obtain ⟨s, hs1, m', hm', rfl⟩ := hl
    unfold lowPO at hs1
    split at hs1
    · rename_i hb
      simp only [Option.map_eq_some_iff] at hs1
      obtain ⟨re, hre, rfl⟩ := hs1
      obtain ⟨hy, hn⟩ := h
      have fin : ∀ (v : Value) (w' : World), (sagain P K ((Env.of a.tmps).put o.dst v) w' re = true ∧ wpOps P K m' ((Env.of a.tmps).put o.dst v) w' Q) →
          (if pagain P (a.put o.dst v) w' o.re then pops P K l (a.put o.dst v) w' else .bad).all fun r => r.1.tmps.size = n ∧ r.1.defers = a.defers ∧ Q (Env.of r.1.tmps) r.2 := by
        intro v w' hv
        obtain ⟨p1, p2, p3⟩ := put_of hs hb v
        rw [← p2] at hv
        rw [if_pos (again_ok p1 o.re re hre hv.1), ← p3]
        exact ops_ok l m' hm' p1 hv.2
      unfold pops pone
      rw [want_of]
      cases hw : wantS (Env.of a.tmps) o.gd with
      | true =>
        rw [if_pos rfl]
        refine T.all_bind.2 (T.all_bind.2 ?_)
        exact lowAny_ok (T.all_mono (fun r hr => fin r.1 r.2 hr) (hy hw))
      | false =>
        rw [if_neg (by simp)]
        exact fin undef w (hn hw)
    · cases hs1
theorem wpC_ok {fuel : Nat} {fn : FuncId} {ro : Option Nat} {n : Nat} : ∀ (c : PC) {a : Act} {w : World} {Q : SPost}, a.tmps.size = n → wpC P K fuel fn ro n (lowC P n c) (Env.of a.tmps) a.defers w Q →
    (pcode P K fuel fn ro c a w).all fun r => r.2.1.tmps.size = n ∧ Q r.1 (Env.of r.2.1.tmps) r.2.1.defers r.2.2 := by
  intro c
  induction c with
  | skip => intro a w Q hs h; exact ⟨hs, h⟩
  | ret => intro a w Q hs h; exact ⟨hs, h⟩
  | bad => intro a w Q hs h; exact h
  | exit id => intro a w Q hs h; exact ⟨hs, h⟩
  | ops l =>
    intro a w Q hs h
    unfold lowC at h
    split at h
    · rename_i m hm
      refine T.all_bind.2 (T.all_mono (fun r hr => ?_) (ops_ok l m hm hs h))
      obtain ⟨h1, h2, h3⟩ := hr
      exact ⟨h1, by rw [h2]; exact h3⟩
    · exact h.elim
  | seq x y ihx ihy =>
    intro a w Q hs h
    refine T.all_bind.2 (T.all_mono (fun r hr => ?_) (ihx hs h))
    obtain ⟨e, a', w'⟩ := r
    obtain ⟨h1, h2⟩ := hr
    cases e with
    | normal => exact ihy h1 h2
    | _ => exact ⟨h1, h2⟩
  | cond c x y ihx ihy =>
    intro a w Q hs h
    unfold pcode
    unfold lowC wpC at h
    rw [eval_env]
    split at h
    · rename_i b hb
      rw [hb]
      cases b with
      | true => exact ihx hs (h.1 rfl)
      | false => exact ihy hs (h.2 rfl)
    · exact h.elim
  | block id c ih =>
    intro a w Q hs h
    refine T.all_bind.2 (T.all_mono (fun r hr => ?_) (ih hs h))
    obtain ⟨e, a', w'⟩ := r
    obtain ⟨h1, h2⟩ := hr
    refine ⟨h1, ?_⟩
    cases e with
    | exit id' =>
      simp only at h2 ⊢
      split at h2
      · rename_i hi; rw [if_pos hi]; exact h2
      · rename_i hi; rw [if_neg hi]; exact h2
    | _ => exact h2
  | loop c ih =>
    intro a w Q hs h
    have key : ∀ (k : Nat) (a : Act) (w : World), a.tmps.size = n → wpLoop (wpC P K fuel fn ro n (lowC P n c)) k (Env.of a.tmps) a.defers w Q →
        (iloop (pcode P K fuel fn ro c) k a w).all fun r => r.2.1.tmps.size = n ∧ Q r.1 (Env.of r.2.1.tmps) r.2.1.defers r.2.2 := by
      intro k
      induction k with
      | zero => intro a w hs h; exact h
      | succ k ihk =>
        intro a w hs h
        refine T.all_bind.2 (T.all_mono (fun r hr => ?_) (ih hs h))
        obtain ⟨e, a', w'⟩ := r
        obtain ⟨h1, h2⟩ := hr
        cases e with
        | normal => exact ihk a' w' h1 h2
        | _ => exact ⟨h1, h2⟩
    exact key fuel a w hs h
  | rangeFunc g ps assign body =>
    intro a w Q hs h
    unfold lowC wpC at h
    rw [arr_of hs] at h
    exact h
theorem run_cell {t : TypeId} {n : Option Nat} (ha : aggOf P t = some n) {a v : Value} {w w' : World} (h : loadS n a w = .ret (v, w')) : (do loadVar t (← asAddr a) : Sem Value).run P w = .ok v w := by
  obtain ⟨r, hr, hq⟩ := ok_load (P := P) (Q := fun r => r.1 = v) ha (by rw [h]; exact rfl)
  simp only at hq
  subst hq
  cases a with
  | pointer p =>
    cases p with
    | none => simp [loadS] at h
    | some x => simpa [Instr.loadAt, Instr.sureAddr, asAddr] using hr
  | _ => simp [loadS] at h
theorem run_res {fn : Func} {rs : List RS} (h : tmpsOf P fn.results.toList = some rs) (tmps : Array Value) (w : World) {vs : List Value} (hv : resL rs (Env.of tmps) w = some vs) : (results fn tmps).run P w = .ok (oneOf vs) w := by
  have key : ∀ (f : ResultVar → Sem Value), (∀ t, f (.tmp t) = pure (tmps.getD t undef)) → (∀ a t, f (.cell a t) = do loadVar t (← asAddr (tmps.getD a undef))) → ∀ (l : List ResultVar) (rs : List RS) (vs : List Value), tmpsOf P l = some rs → resL rs (Env.of tmps) w = some vs → (l.mapM f).run P w = .ok vs w := by
    intro f hf hf2 l
    induction l with
    | nil => intro rs vs h hv; simp only [tmpsOf, Option.some.injEq] at h; subst h; simp only [resL, Option.some.injEq] at hv; subst hv; rfl
    | cons x l ih =>
      intro rs vs h hv
      cases x with
      | tmp t =>
        simp only [tmpsOf, Option.map_eq_some_iff] at h
        obtain ⟨rs', h', rfl⟩ := h
        simp only [resL, Option.map_eq_some_iff] at hv
        obtain ⟨vs', hv', rfl⟩ := hv
        simp only [List.mapM_cons, Sem.run_bind, Sem.run_pure, Result.andThen, ih rs' vs' h' hv', hf]
        rfl
      | cell a t =>
        simp only [tmpsOf] at h
        split at h
        · rename_i n hn
          simp only [Option.map_eq_some_iff] at h
          obtain ⟨rs', h', rfl⟩ := h
          simp only [resL] at hv
          split at hv
          · rename_i v w' hl
            simp only [Option.map_eq_some_iff] at hv
            obtain ⟨vs', hv', rfl⟩ := hv
            have hc := run_cell (P := P) hn hl
            simp only [Env.of] at hc
            simp only [List.mapM_cons, hf2, Sem.run_bind] at hc ⊢
            rw [hc]
            simp only [Result.andThen, ih rs' vs' h' hv', Sem.run_pure]
          · cases hv
        · cases h
  unfold results
  rw [Array.mapM_eq_mapM_toList, map_eq_pure_bind]
  simp only [bind_assoc, pure_bind, Sem.run_bind]
  rw [key _ (fun t => rfl) (fun a t => rfl) _ _ _ h hv]
  simp only [Result.andThen, Sem.run_pure]
  congr 1
  unfold oneOf
  match vs with
  | [] => rfl
  | [t] => rfl
  | t :: u :: l => simp
theorem wpFin_ok {fn : Func} {rs : List RS} (h : tmpsOf P fn.results.toList = some rs) (tmps : Array Value) {Q : Value × World → Prop} : ∀ (ds : List Deferred) (w : World), wpFin P ds w (fun w => wpRes rs (Env.of tmps) w fun v => Q (v, w)) → (ifin P fn tmps ds w).all Q
  | [], w, hw => by
    have hw' : wpRes rs (Env.of tmps) w fun v => Q (v, w) := hw
    unfold wpRes at hw'
    split at hw'
    · rename_i vs hvs
      unfold ifin; rw [run_res h tmps w hvs]; exact hw'
    · exact hw'.elim
  | d :: ds, w, hw => by
    unfold ifin
    unfold wpFin at hw
    split at hw
    · split at hw
      · rename_i hd _ _ hr
        simp only [hd, hr]
        exact wpFin_ok h tmps ds _ hw
      · exact hw.elim
    · exact hw.elim
theorem wpFn_ok {fuel : Nat} {f : FuncId} {sf : SFn} (hf : lowFn P f = some sf) {args : Array Value} {w : World} {Q : Value → World → Prop} (h : wpFn P K fuel f sf args w Q) : (icall P K fuel f args w).all fun r => Q r.1 r.2 := by
  unfold lowFn at hf
  split at hf
  · rename_i fn hfn
    split at hf
    · rename_i c rs hc hrs
      simp only [Option.some.injEq] at hf; subst hf
      obtain ⟨hsz, hw⟩ := h
      simp only at hsz hw
      unfold icall
      rw [hfn]; simp only [hc]
      have henv : Env.of (args ++ Array.replicate (fn.ntmps - args.size) undef) = Env.of args := by
        funext i
        simp only [Env.of, Array.getD_eq_getD_getElem?, Array.getElem?_append]
        by_cases hi : i < args.size
        · rw [if_pos hi]
        · rw [if_neg hi, Array.getElem?_replicate, Array.getElem?_eq_none (show args.size ≤ i by omega)]
          split <;> rfl
      rw [← henv] at hw
      have := icode_pc (Q := fun r : Exit × Act × World => r.2.1.tmps.size = fn.ntmps ∧ ((r.1 = .normal ∨ r.1 = .ret) ∧ wpFin P r.2.1.defers r.2.2 fun w => wpRes rs (Env.of r.2.1.tmps) w fun v => Q v w)) c
        (wpC_ok (a := { tmps := args ++ Array.replicate (fn.ntmps - args.size) undef, defers := [] }) (pcOf c) (by simp; omega) hw)
      refine T.all_bind.2 (T.all_mono (fun r hr => ?_) this)
      obtain ⟨e, a, w'⟩ := r
      obtain ⟨_, he, hfin⟩ := hr
      rcases he with rfl | rfl
      · exact wpFin_ok (Q := fun r => Q r.1 r.2) hrs a.tmps a.defers w' hfin
      · exact wpFin_ok (Q := fun r => Q r.1 r.2) hrs a.tmps a.defers w' hfin
    · cases hf
  · cases hf
end
end Go.Ideal
namespace Go.Ideal
open Go
inductive GI where
  | grp (g : PG) (l : List SG)
  | one (o : SG)
inductive GC where
  | skip | ret | bad
  | exit (id : Nat)
  | ops (l : List GI)
  | seq (x y : GC)
  | cond (c : Operand) (x y : GC)
  | block (id : Nat) (c : GC)
  | loop (c : GC)
  | rangeFunc (g : Operand) (ps : Array Tmp) (assign body : Code)
structure GFn where
  n : Nat
  res : List RS
  body : GC
def guardOf : PG → Option Tmp
  | some (some d, _) => some d
  | _ => none
def strip (g : PG) (o : SG) : SG := { o with g := none, re := o.re.map fun r => if r.g = g then { r with g := none } else r }
def keepG (o : SG) : Bool := match guardOf o.g, o.d with
  | some d, some e => d != e
  | _, _ => true
def fitG (o : SG) : Bool := keepG o && (o.g == none || (o.re.all fun r => r.g == o.g))
def grp : List SG → List GI
  | [] => []
  | o :: l =>
    if fitG o then
      match grp l with
      | .grp g m :: r => if o.g = g then .grp g (strip g o :: m) :: r else .grp o.g [strip o.g o] :: .grp g m :: r
      | r => .grp o.g [strip o.g o] :: r
    else .one o :: grp l
def grpC : WC → GC
  | .skip => .skip
  | .ret => .ret
  | .bad => .bad
  | .exit id => .exit id
  | .ops l => .ops (grp l)
  | .seq x y => .seq (grpC x) (grpC y)
  | .cond c x y => .cond c (grpC x) (grpC y)
  | .block id c => .block id (grpC c)
  | .loop c => .loop (grpC c)
  | .rangeFunc g ps assign body => .rangeFunc g ps assign body
def wpU (P : Program) (K : Kont) : List SG → Env → World → (Env → World → Prop) → Prop
  | [], ρ, w, Q => Q ρ w
  | o :: l, ρ, w, Q => (sone P K (ev ρ) w o.o).all fun r => sagain P K (ρ.put o.d r.1) r.2 o.re = true ∧ wpU P K l (ρ.put o.d r.1) r.2 Q
def skipU : List SG → Env → Env
  | [], ρ => ρ
  | o :: l, ρ => skipU l (ρ.put o.d undef)
def wpI (P : Program) (K : Kont) : GI → Env → World → (Env → World → Prop) → Prop
  | .one o, ρ, w, Q => wpG P K o ρ w fun ρ w => sagain P K ρ w o.re = true ∧ Q ρ w
  | .grp none l, ρ, w, Q => wpU P K l ρ w Q
  | .grp (some (none, _)) l, ρ, w, Q => Q (skipU l ρ) w
  | .grp (some (some d, b)) l, ρ, w, Q => match ρ d with
    | .bool c => (c = b → wpU P K l (ρ.put (some d) (.bool b)) w Q) ∧ (c = !b → Q (skipU l (ρ.put (some d) (.bool !b))) w)
    | _ => Q (skipU l ρ) w
def wpGs (P : Program) (K : Kont) : List GI → Env → World → (Env → World → Prop) → Prop
  | [], ρ, w, Q => Q ρ w
  | i :: l, ρ, w, Q => wpI P K i ρ w fun ρ w => wpGs P K l ρ w Q
def wpGC (P : Program) (K : Kont) (fuel : Nat) (fn : FuncId) (ro : Option Nat) (n : Nat) : GC → Env → List Deferred → World → SPost → Prop
  | .skip, ρ, ds, w, Q => Q .normal ρ ds w
  | .ret, ρ, ds, w, Q => Q .ret ρ ds w
  | .bad, _, _, _, _ => False
  | .exit id, ρ, ds, w, Q => Q (.exit id) ρ ds w
  | .ops l, ρ, ds, w, Q => wpGs P K l ρ w fun ρ w => Q .normal ρ ds w
  | .seq x y, ρ, ds, w, Q => wpGC P K fuel fn ro n x ρ ds w fun e ρ ds w => match e with
    | .normal => wpGC P K fuel fn ro n y ρ ds w Q
    | e => Q e ρ ds w
  | .cond c x y, ρ, ds, w, Q => match ev ρ c with
    | .bool b => (b = true → wpGC P K fuel fn ro n x ρ ds w Q) ∧ (b = false → wpGC P K fuel fn ro n y ρ ds w Q)
    | _ => False
  | .block id c, ρ, ds, w, Q => wpGC P K fuel fn ro n c ρ ds w fun e ρ ds w => match e with
    | .exit id' => if id' = id then Q .normal ρ ds w else Q (.exit id') ρ ds w
    | e => Q e ρ ds w
  | .loop c, ρ, ds, w, Q => wpLoop (wpGC P K fuel fn ro n c) fuel ρ ds w Q
  | .rangeFunc g ps assign body, ρ, ds, w, Q => wpC P K fuel fn ro n (.rangeFunc g ps assign body) ρ ds w Q
def wpGFn (P : Program) (K : Kont) (fuel : Nat) (f : FuncId) (gf : GFn) (args : Array Value) (w : World) (Q : Value → World → Prop) : Prop :=
  args.size ≤ gf.n ∧ wpGC P K fuel f none gf.n gf.body (Env.of args) [] w fun e ρ ds w => (e = .normal ∨ e = .ret) ∧ wpFin P ds w fun w => wpRes gf.res ρ w fun v => Q v w
def lowG (P : Program) (f : FuncId) : Option GFn := (lowFn P f).map fun s => { n := s.n, res := s.res, body := grpC s.body }
section
variable {P : Program} {K : Kont}
theorem sagain_strip {ρ : Env} {w : World} {g : PG} (hg : wantS ρ g = true) (l : List SR) : sagain P K ρ w (l.map fun r => if r.g = g then { r with g := none } else r) = sagain P K ρ w l := by
  unfold sagain
  rw [List.all_map]
  congr 1
  funext r
  simp only [Function.comp]
  by_cases h : r.g = g
  · rw [if_pos h]; simp only [h, hg]; rfl
  · rw [if_neg h]
theorem want_put {ρ : Env} {g : PG} {d : Option Tmp} {v : Value} (h : ∀ x y, guardOf g = some x → d = some y → x ≠ y) : wantS (ρ.put d v) g = wantS ρ g := by
  unfold wantS
  split
  · rfl
  · rfl
  · rename_i x b
    cases d with
    | none => rfl
    | some y =>
      have := h x y rfl rfl
      simp only [Env.put, if_neg this]
theorem keepG_spec {o : SG} (h : keepG o = true) : ∀ x y, guardOf o.g = some x → o.d = some y → x ≠ y := by
  intro x y hx hy
  unfold keepG at h
  rw [hx, hy] at h
  simpa using h
theorem put_self {ρ : Env} {d : Nat} {v : Value} (h : ρ d = v) : ρ.put (some d) v = ρ := by
  funext i
  simp only [Env.put]
  split
  · rename_i hi; subst hi; exact h.symm
  · rfl
theorem fitG_spec {o : SG} (h : fitG o = true) : keepG o = true ∧ (o.g = none ∨ ∀ r ∈ o.re, r.g = o.g) := by
  simp only [fitG, Bool.and_eq_true, Bool.or_eq_true, beq_iff_eq, List.all_eq_true] at h
  exact h
theorem sagain_none {ρ : Env} {w : World} {g : PG} (hg : wantS ρ g = false) {l : List SR} (h : ∀ r ∈ l, r.g = g) : sagain P K ρ w l = true := by
  unfold sagain
  rw [List.all_eq_true]
  intro r hr
  rw [h r hr, hg]; rfl
theorem skip_one {o : SG} {ρ : Env} {w : World} {Q : Env → World → Prop} (hf : fitG o = true) (hg : wantS ρ o.g = false) (hne : o.g ≠ none) (h : Q (ρ.put o.d undef) w) :
    wpG P K o ρ w fun ρ w => sagain P K ρ w o.re = true ∧ Q ρ w := by
  obtain ⟨hk, hr⟩ := fitG_spec hf
  refine ⟨(fun hy => by rw [hg] at hy; cases hy), fun _ => ⟨?_, h⟩⟩
  exact sagain_none (by rw [want_put (keepG_spec hk)]; exact hg) (hr.resolve_left hne)
theorem run_one {o : SG} {ρ : Env} {w : World} {Q : Env → World → Prop} (hf : fitG o = true) (hg : wantS ρ o.g = true) (h : (sone P K (ev ρ) w o.o).all fun r => sagain P K (ρ.put o.d r.1) r.2 (strip o.g o).re = true ∧ Q (ρ.put o.d r.1) r.2) :
    wpG P K o ρ w fun ρ w => sagain P K ρ w o.re = true ∧ Q ρ w := by
  obtain ⟨hk, hr⟩ := fitG_spec hf
  refine ⟨fun _ => T.all_mono (fun r hr => ?_) h, fun hn => by rw [hg] at hn; cases hn⟩
  have hw : wantS (ρ.put o.d r.1) o.g = true := by rw [want_put (keepG_spec hk)]; exact hg
  exact ⟨by rw [← sagain_strip hw o.re]; exact hr.1, hr.2⟩
theorem keep_get {o : SG} {d : Nat} {b : Bool} (hf : fitG o = true) (hg : o.g = some (some d, b)) (ρ : Env) (v : Value) : (ρ.put o.d v) d = ρ d := by
  have := keepG_spec (fitG_spec hf).1 d
  rw [hg] at this
  cases ho : o.d with
  | none => rfl
  | some e => simp only [Env.put, if_neg (this e rfl ho)]
theorem want_nb {ρ : Env} {d : Nat} {b : Bool} (h : ∀ c, ρ d = .bool c → False) : wantS ρ (some (some d, b)) = false := by
  unfold wantS
  split
  · rename_i hh; cases hh
  · rfl
  · rename_i hh
    simp only [Option.some.injEq, Prod.mk.injEq] at hh
    obtain ⟨rfl, rfl⟩ := hh
    split
    · rename_i c hc; exact (h c hc).elim
    · rfl
theorem empty_grp {g : PG} {ρ : Env} {w : World} {Q : Env → World → Prop} (h : wpI P K (.grp g []) ρ w Q) : Q ρ w := by
  cases g with
  | none => exact h
  | some p =>
    obtain ⟨t, b⟩ := p
    cases t with
    | none => exact h
    | some d =>
      simp only [wpI] at h
      split at h
      · rename_i c hc
        by_cases hcb : c = b
        · have := h.1 hcb
          rw [put_self (by rw [hc, hcb])] at this
          exact this
        · have hcn : c = !b := by cases c <;> cases b <;> simp_all
          have := h.2 hcn
          rw [put_self (by rw [hc, hcn])] at this
          exact this
      · exact h
theorem peel {o : SG} {m : List SG} {ρ : Env} {w : World} {Q : Env → World → Prop} (hf : fitG o = true) (h : wpI P K (.grp o.g (strip o.g o :: m)) ρ w Q) :
    wpG P K o ρ w fun ρ w => sagain P K ρ w o.re = true ∧ wpI P K (.grp o.g m) ρ w Q := by
  cases hg : o.g with
  | none =>
    rw [hg] at h
    refine run_one hf (by rw [hg]; rfl) ?_
    rw [hg]
    exact h
  | some p =>
    obtain ⟨t, b⟩ := p
    cases t with
    | none =>
      rw [hg] at h
      exact skip_one hf (by rw [hg]; rfl) (by rw [hg]; exact fun h => by cases h) h
    | some d =>
      rw [hg] at h
      simp only [wpI] at h
      split at h
      · rename_i c hc
        obtain ⟨h1, h2⟩ := h
        by_cases hcb : c = b
        · subst hcb
          have hrun := h1 rfl
          rw [put_self hc] at hrun
          refine run_one hf (by rw [hg]; simp [wantS, hc]) ?_
          rw [hg]
          refine T.all_mono (fun r hr => ⟨hr.1, ?_⟩) hrun
          simp only [wpI, keep_get hf hg, hc]
          refine ⟨fun _ => ?_, fun hn => by cases c <;> cases hn⟩
          rw [put_self (by rw [keep_get hf hg]; exact hc)]
          exact hr.2
        · have hcn : c = !b := by cases c <;> cases b <;> simp_all
          subst hcn
          have hsk := h2 rfl
          rw [put_self hc] at hsk
          refine skip_one hf (by rw [hg]; simp only [wantS, hc]; cases b <;> rfl) (by rw [hg]; exact fun h => by cases h) ?_
          simp only [wpI, keep_get hf hg, hc]
          refine ⟨fun hn => absurd hn hcb, fun _ => ?_⟩
          rw [put_self (by rw [keep_get hf hg]; exact hc)]
          exact hsk
      · rename_i hnb
        refine skip_one hf (by rw [hg]; exact want_nb hnb) (by rw [hg]; exact fun h => by cases h) ?_
        simp only [wpI, keep_get hf hg]
        exact h
theorem grp_ok : ∀ (l : List SG) {ρ : Env} {w : World} {Q : Env → World → Prop}, wpGs P K (grp l) ρ w Q → wpOps P K l ρ w Q
  | [], _, _, _, h => h
  | o :: l, ρ, w, Q, h => by
    unfold grp at h
    split at h
    · rename_i hf
      have alone : wpGs P K (.grp o.g [strip o.g o] :: grp l) ρ w Q → wpOps P K (o :: l) ρ w Q := by
        intro h
        have := peel hf h
        refine wpG_mono (fun ρ w hr => ⟨hr.1, grp_ok l ?_⟩) this
        exact empty_grp hr.2
      split at h
      · rename_i g m r hgr
        split at h
        · rename_i hg
          subst hg
          have := peel hf h
          refine wpG_mono (fun ρ w hr => ⟨hr.1, grp_ok l ?_⟩) this
          rw [hgr]
          exact hr.2
        · rw [hgr] at alone; exact alone h
      · exact alone h
    · have h' : wpG P K o ρ w fun ρ w => sagain P K ρ w o.re = true ∧ wpGs P K (grp l) ρ w Q := h
      exact wpG_mono (fun _ _ hr => ⟨hr.1, grp_ok l hr.2⟩) h'
theorem wpGC_ok {fuel : Nat} {fn : FuncId} {ro : Option Nat} {n : Nat} : ∀ (c : WC) {ρ : Env} {ds : List Deferred} {w : World} {Q : SPost}, wpGC P K fuel fn ro n (grpC c) ρ ds w Q → wpC P K fuel fn ro n c ρ ds w Q := by
  intro c
  induction c with
  | skip => intro ρ ds w Q h; exact h
  | ret => intro ρ ds w Q h; exact h
  | bad => intro ρ ds w Q h; exact h
  | exit id => intro ρ ds w Q h; exact h
  | ops l => intro ρ ds w Q h; exact grp_ok l h
  | seq x y ihx ihy =>
    intro ρ ds w Q h
    refine wpC_mono x (fun e ρ ds w hr => ?_) (ihx h)
    cases e with
    | normal => exact ihy hr
    | _ => exact hr
  | cond c x y ihx ihy =>
    intro ρ ds w Q h
    unfold grpC wpGC at h
    unfold wpC
    split
    · rename_i b hb
      rw [hb] at h
      exact ⟨fun hh => ihx (h.1 hh), fun hh => ihy (h.2 hh)⟩
    · rename_i hb
      split at h
      · rename_i b hb2; exact absurd hb2 (hb b)
      · exact h
  | block id c ih => intro ρ ds w Q h; exact ih h
  | loop c ih =>
    intro ρ ds w Q h
    have key : ∀ (k : Nat) (ρ : Env) (ds : List Deferred) (w : World) (Q : SPost), wpLoop (wpGC P K fuel fn ro n (grpC c)) k ρ ds w Q → wpLoop (wpC P K fuel fn ro n c) k ρ ds w Q := by
      intro k
      induction k with
      | zero => intro ρ ds w Q h; exact h
      | succ k ihk =>
        intro ρ ds w Q h
        refine wpC_mono c (fun e ρ ds w hr => ?_) (ih h)
        cases e with
        | normal => exact ihk _ _ _ _ hr
        | _ => exact hr
    exact key _ _ _ _ _ h
  | rangeFunc g ps assign body => intro ρ ds w Q h; exact h
theorem wpGFn_ok {fuel : Nat} {f : FuncId} {gf : GFn} (hf : lowG P f = some gf) {args : Array Value} {w : World} {Q : Value → World → Prop} (h : wpGFn P K fuel f gf args w Q) : (icall P K fuel f args w).all fun r => Q r.1 r.2 := by
  simp only [lowG, Option.map_eq_some_iff] at hf
  obtain ⟨s, hs, rfl⟩ := hf
  exact wpFn_ok hs ⟨h.1, wpGC_ok _ h.2⟩
end
end Go.Ideal
namespace Go.Ideal
open Go
@[simp] theorem put_at (ρ : Env) (d : Nat) (v : Value) (i : Nat) : (ρ.put (some d) v) i = if i = d then v else ρ i := rfl
@[simp] theorem put_no (ρ : Env) (v : Value) : ρ.put none v = ρ := rfl
@[simp] theorem ev_tmp (ρ : Env) (t : Nat) : ev ρ (.tmp t) = ρ t := rfl
@[simp] theorem ev_const (ρ : Env) (v : Value) : ev ρ (.const v) = v := rfl
@[simp] theorem ev_func (ρ : Env) (f : FuncId) : ev ρ (.func f) = .func (.func f) #[] #[] := rfl
@[simp] theorem of_at (a : Array Value) (i : Nat) : Env.of a i = a.getD i undef := rfl
@[simp] theorem all_ret {α : Type} {a : α} {Q : α → Prop} : (T.ret a).all Q ↔ Q a := Iff.rfl
@[simp] theorem all_bad {α : Type} {Q : α → Prop} : (T.bad : T α).all Q ↔ False := Iff.rfl
@[simp] theorem all_ite {α : Type} {c : Prop} [Decidable c] {x y : T α} {Q : α → Prop} : (if c then x else y).all Q ↔ (c → x.all Q) ∧ (¬ c → y.all Q) := by
  by_cases h : c <;> simp [h]
@[simp] theorem bind_ite {α β : Type} {c : Prop} [Decidable c] {x y : T α} {f : α → T β} : (if c then x else y).bind f = if c then x.bind f else y.bind f := by
  by_cases h : c <;> simp [h]
@[simp] theorem bind_ret {α β : Type} {a : α} {f : α → T β} : (T.ret a).bind f = f a := rfl
@[simp] theorem bind_bad {α β : Type} {f : α → T β} : (T.bad : T α).bind f = .bad := rfl
@[simp] theorem size_push (w : World) (o : Obj) : (World.push w o).heap.size = w.heap.size + 1 := by simp [World.push]
@[simp] theorem size_set (w : World) (b : Nat) (o : Obj) : (World.set w b o).heap.size = w.heap.size := by simp [World.set]
@[simp] theorem size_kill (w : World) (b : Nat) : (kill w b).heap.size = w.heap.size := by simp [kill]
theorem at_push (w : World) (o : Obj) (b : Nat) : (World.push w o).heap[b]? = if b = w.heap.size then some o else w.heap[b]? := by
  simp only [World.push, Array.getElem?_push]
theorem at_set (w : World) (b c : Nat) (o : Obj) : (World.set w b o).heap[c]? = if c = b ∧ b < w.heap.size then some o else w.heap[c]? := by
  simp only [World.set, Array.getElem?_setIfInBounds]
  by_cases h : b = c
  · subst h
    by_cases hb : b < w.heap.size
    · simp [hb]
    · simp [hb]
  · rw [if_neg h, if_neg (fun hh => h hh.1.symm)]
theorem at_kill (w : World) (b c : Nat) : (kill w b).heap[c]? = if c = b ∧ b < w.heap.size then some dead else w.heap[c]? := at_set w b c dead
@[simp] theorem cells_push (w : World) (c : Array Value) (e : TypeId) (fz : Nat × Nat) (b : Nat) : cellsOf? (World.push w (.cells c e fz)) b = if b = w.heap.size then some (c, e, fz) else cellsOf? w b := by
  unfold cellsOf?; rw [at_push]; by_cases h : b = w.heap.size
  · rw [if_pos h, if_pos h]
  · rw [if_neg h, if_neg h]
@[simp] theorem cells_push_map (w : World) (es : Array MapEntry) (n : Nat) (b : Nat) : cellsOf? (World.push w (.map es n)) b = if b = w.heap.size then none else cellsOf? w b := by
  unfold cellsOf?; rw [at_push]; by_cases h : b = w.heap.size
  · rw [if_pos h, if_pos h]
  · rw [if_neg h, if_neg h]
@[simp] theorem maps_push (w : World) (c : Array Value) (e : TypeId) (fz : Nat × Nat) (b : Nat) : mapOf? (World.push w (.cells c e fz)) b = if b = w.heap.size then none else mapOf? w b := by
  unfold mapOf?; rw [at_push]; by_cases h : b = w.heap.size
  · rw [if_pos h, if_pos h]
  · rw [if_neg h, if_neg h]
@[simp] theorem maps_push_map (w : World) (es : Array MapEntry) (n : Nat) (b : Nat) : mapOf? (World.push w (.map es n)) b = if b = w.heap.size then some (es, n) else mapOf? w b := by
  unfold mapOf?; rw [at_push]; by_cases h : b = w.heap.size
  · rw [if_pos h, if_pos h]
  · rw [if_neg h, if_neg h]
@[simp] theorem cells_set (w : World) (c : Array Value) (e : TypeId) (fz : Nat × Nat) (d b : Nat) : cellsOf? (World.set w d (.cells c e fz)) b = if b = d ∧ d < w.heap.size then some (c, e, fz) else cellsOf? w b := by
  unfold cellsOf?; rw [at_set]; by_cases h : b = d ∧ d < w.heap.size
  · rw [if_pos h, if_pos h]
  · rw [if_neg h, if_neg h]
@[simp] theorem cells_set_map (w : World) (es : Array MapEntry) (n : Nat) (d b : Nat) : cellsOf? (World.set w d (.map es n)) b = if b = d ∧ d < w.heap.size then none else cellsOf? w b := by
  unfold cellsOf?; rw [at_set]; by_cases h : b = d ∧ d < w.heap.size
  · rw [if_pos h, if_pos h]
  · rw [if_neg h, if_neg h]
@[simp] theorem maps_set (w : World) (c : Array Value) (e : TypeId) (fz : Nat × Nat) (d b : Nat) : mapOf? (World.set w d (.cells c e fz)) b = if b = d ∧ d < w.heap.size then none else mapOf? w b := by
  unfold mapOf?; rw [at_set]; by_cases h : b = d ∧ d < w.heap.size
  · rw [if_pos h, if_pos h]
  · rw [if_neg h, if_neg h]
@[simp] theorem maps_set_map (w : World) (es : Array MapEntry) (n : Nat) (d b : Nat) : mapOf? (World.set w d (.map es n)) b = if b = d ∧ d < w.heap.size then some (es, n) else mapOf? w b := by
  unfold mapOf?; rw [at_set]; by_cases h : b = d ∧ d < w.heap.size
  · rw [if_pos h, if_pos h]
  · rw [if_neg h, if_neg h]
theorem cells_lt {w : World} {b : Nat} {x : Array Value × TypeId × (Nat × Nat)} (h : cellsOf? w b = some x) : b < w.heap.size := by
  obtain ⟨c, e, fz⟩ := x
  exact (Array.getElem?_eq_some_iff.1 (cellsOf?_spec h)).1
theorem maps_lt {w : World} {b : Nat} {x : Array MapEntry × Nat} (h : mapOf? w b = some x) : b < w.heap.size := by
  obtain ⟨c, n⟩ := x
  exact (Array.getElem?_eq_some_iff.1 (mapOf?_spec h)).1
section
variable {P : Program} {K : Kont} {fuel : Nat} {fn : FuncId} {ro : Option Nat} {n : Nat}
@[simp] theorem wpU_nil {ρ : Env} {w : World} {Q : Env → World → Prop} : wpU P K [] ρ w Q = Q ρ w := rfl
@[simp] theorem wpU_cons {o : SG} {l : List SG} {ρ : Env} {w : World} {Q : Env → World → Prop} : wpU P K (o :: l) ρ w Q = (sone P K (ev ρ) w o.o).all fun r => sagain P K (ρ.put o.d r.1) r.2 o.re = true ∧ wpU P K l (ρ.put o.d r.1) r.2 Q := rfl
@[simp] theorem skipU_nil {ρ : Env} : skipU [] ρ = ρ := rfl
@[simp] theorem skipU_cons {o : SG} {l : List SG} {ρ : Env} : skipU (o :: l) ρ = skipU l (ρ.put o.d undef) := rfl
@[simp] theorem sagain_nil {ρ : Env} {w : World} : sagain P K ρ w [] = true := rfl
@[simp] theorem sagain_cons {ρ : Env} {w : World} {r : SR} {l : List SR} : sagain P K ρ w (r :: l) = (((!wantS ρ r.g) || match sone P K (ev ρ) w r.o with | .ret (v, _) => (match r.d with | some d => veq 4 v (ρ d) | none => false) | _ => false) && sagain P K ρ w l) := rfl
@[simp] theorem want_none {ρ : Env} : wantS ρ none = true := rfl
@[simp] theorem want_no {ρ : Env} {b : Bool} : wantS ρ (some (none, b)) = false := rfl
@[simp] theorem want_some {ρ : Env} {d : Nat} {b : Bool} : wantS ρ (some (some d, b)) = match ρ d with | .bool c => c == b | _ => false := rfl
@[simp] theorem wpI_one {o : SG} {ρ : Env} {w : World} {Q : Env → World → Prop} : wpI P K (.one o) ρ w Q = wpG P K o ρ w fun ρ w => sagain P K ρ w o.re = true ∧ Q ρ w := rfl
@[simp] theorem wpI_plain {l : List SG} {ρ : Env} {w : World} {Q : Env → World → Prop} : wpI P K (.grp none l) ρ w Q = wpU P K l ρ w Q := rfl
@[simp] theorem wpI_grp {d : Nat} {b : Bool} {l : List SG} {ρ : Env} {w : World} {Q : Env → World → Prop} : wpI P K (.grp (some (some d, b)) l) ρ w Q = match ρ d with
    | .bool c => (c = b → wpU P K l (ρ.put (some d) (.bool b)) w Q) ∧ (c = !b → Q (skipU l (ρ.put (some d) (.bool !b))) w)
    | _ => Q (skipU l ρ) w := rfl
@[simp] theorem wpGs_nil {ρ : Env} {w : World} {Q : Env → World → Prop} : wpGs P K [] ρ w Q = Q ρ w := rfl
@[simp] theorem wpGs_cons {i : GI} {l : List GI} {ρ : Env} {w : World} {Q : Env → World → Prop} : wpGs P K (i :: l) ρ w Q = wpI P K i ρ w fun ρ w => wpGs P K l ρ w Q := rfl
@[simp] theorem gc_skip {ρ : Env} {ds : List Deferred} {w : World} {Q : SPost} : wpGC P K fuel fn ro n .skip ρ ds w Q = Q .normal ρ ds w := rfl
@[simp] theorem gc_ret {ρ : Env} {ds : List Deferred} {w : World} {Q : SPost} : wpGC P K fuel fn ro n .ret ρ ds w Q = Q .ret ρ ds w := rfl
@[simp] theorem gc_exit {id : Nat} {ρ : Env} {ds : List Deferred} {w : World} {Q : SPost} : wpGC P K fuel fn ro n (.exit id) ρ ds w Q = Q (.exit id) ρ ds w := rfl
@[simp] theorem gc_ops {l : List GI} {ρ : Env} {ds : List Deferred} {w : World} {Q : SPost} : wpGC P K fuel fn ro n (.ops l) ρ ds w Q = wpGs P K l ρ w fun ρ w => Q .normal ρ ds w := rfl
@[simp] theorem gc_seq {x y : GC} {ρ : Env} {ds : List Deferred} {w : World} {Q : SPost} : wpGC P K fuel fn ro n (.seq x y) ρ ds w Q = wpGC P K fuel fn ro n x ρ ds w fun e ρ ds w => match e with
    | .normal => wpGC P K fuel fn ro n y ρ ds w Q
    | e => Q e ρ ds w := rfl
@[simp] theorem gc_cond {c : Operand} {x y : GC} {ρ : Env} {ds : List Deferred} {w : World} {Q : SPost} : wpGC P K fuel fn ro n (.cond c x y) ρ ds w Q = match ev ρ c with
    | .bool b => (b = true → wpGC P K fuel fn ro n x ρ ds w Q) ∧ (b = false → wpGC P K fuel fn ro n y ρ ds w Q)
    | _ => False := rfl
@[simp] theorem gc_block {id : Nat} {c : GC} {ρ : Env} {ds : List Deferred} {w : World} {Q : SPost} : wpGC P K fuel fn ro n (.block id c) ρ ds w Q = wpGC P K fuel fn ro n c ρ ds w fun e ρ ds w => match e with
    | .exit id' => if id' = id then Q .normal ρ ds w else Q (.exit id') ρ ds w
    | e => Q e ρ ds w := rfl
@[simp] theorem gc_loop {c : GC} {ρ : Env} {ds : List Deferred} {w : World} {Q : SPost} : wpGC P K fuel fn ro n (.loop c) ρ ds w Q = wpLoop (wpGC P K fuel fn ro n c) fuel ρ ds w Q := rfl
@[simp] theorem fin_nil {w : World} {Q : World → Prop} : wpFin P [] w Q = Q w := rfl
@[simp] theorem resL_nil {ρ : Env} {w : World} : resL [] ρ w = some [] := rfl
@[simp] theorem resL_tmp {t : Tmp} {l : List RS} {ρ : Env} {w : World} : resL (⟨t, none⟩ :: l) ρ w = (resL l ρ w).map (ρ t :: ·) := rfl
@[simp] theorem resL_cell {t : Tmp} {k : Option Nat} {l : List RS} {ρ : Env} {w : World} : resL (⟨t, some k⟩ :: l) ρ w = match loadS k (ρ t) w with | .ret (v, _) => (resL l ρ w).map (v :: ·) | _ => none := rfl
@[simp] theorem oneOf_one {v : Value} : oneOf [v] = v := rfl
@[simp] theorem oneOf_two {v u : Value} {l : List Value} : oneOf (v :: u :: l) = .tuple (v :: u :: l).toArray := rfl
@[simp] theorem wpRes_eq {rs : List RS} {ρ : Env} {w : World} {Q : Value → Prop} : wpRes rs ρ w Q = match resL rs ρ w with | some vs => Q (oneOf vs) | none => False := rfl
variable {ρ : Regs} {w : World}
@[simp] theorem so_move {x : Operand} : sone P K ρ w (.move x) = .ret (ρ x, w) := rfl
@[simp] theorem so_box {e : TypeId} {x : Operand} : sone P K ρ w (.box e x) = .ret (.pointer (some ⟨w.heap.size, 0, none⟩), World.push w (.cells (ρ x).cells e)) := rfl
@[simp] theorem so_zero {e : TypeId} {z : Array Value} : sone P K ρ w (.zero e z) = .ret (.pointer (some ⟨w.heap.size, 0, none⟩), World.push w (.cells z e)) := rfl
@[simp] theorem so_build {ps : Array (Nat × Nat)} {z : Array Value} {parts : List (Nat × Operand)} : sone P K ρ w (.build ps z parts) = fillS ps z (partsOf ρ parts) w := rfl
@[simp] theorem so_row {e : TypeId} {size len : Nat} {z : Array Value} {parts : List (Nat × Operand)} : sone P K ρ w (.row e size len z parts) = rowS e size len z (partsOf ρ parts) w := rfl
@[simp] theorem so_load {k : Option Nat} {a : Operand} : sone P K ρ w (.load k a) = loadS k (ρ a) w := rfl
@[simp] theorem so_store {k : Nat} {a x : Operand} : sone P K ρ w (.store k a x) = storeS k (ρ a) (ρ x) w := rfl
@[simp] theorem so_nonnil {x : Operand} : sone P K ρ w (.nonnil x) = match ρ x with
    | .pointer (some a) => .ret (.pointer (some a), w)
    | .iface t v => .ret (.iface t v, w)
    | _ => .bad := rfl
@[simp] theorem so_bin {op : BinOp} {t : TypeId} {x y : Operand} : sone P K ρ w (.bin op t x y) = binS P op t x y (ρ x) (ρ y) w := rfl
@[simp] theorem so_not {x : Operand} : sone P K ρ w (.un .not x) = match ρ x with
    | .bool b => .ret (.bool !b, w)
    | _ => .bad := by simp only [sone]; split <;> simp_all
@[simp] theorem so_faddr {off : Nat} {x : Operand} : sone P K ρ w (.faddr off x) = faddrS off (ρ x) w := rfl
@[simp] theorem so_part {k : Option Nat} {off : Nat} {x : Operand} : sone P K ρ w (.part k off x) = partS k off (ρ x) w := rfl
@[simp] theorem so_iaddr {size : Nat} {x ix : Operand} : sone P K ρ w (.iaddr size x ix) = iaddrS size (ρ x) (ρ ix) w := rfl
@[simp] theorem so_extract {x : Operand} {i : Nat} : sone P K ρ w (.extract x i) = extractS (ρ x) i w := rfl
@[simp] theorem so_len {x : Operand} : sone P K ρ w (.len x) = lenS (ρ x) w := rfl
@[simp] theorem so_lenMap {x : Operand} : sone P K ρ w (.lenMap x) = lenMapS (ρ x) w := rfl
@[simp] theorem so_slice {e : TypeId} {size : Nat} {x : Operand} {lo hi mx : Option Operand} : sone P K ρ w (.slice e size x lo hi mx) = sliceS e size (ρ x) (lo.map ρ) (hi.map ρ) (mx.map ρ) w := rfl
@[simp] theorem so_append {e : TypeId} {size bytes : Nat} {s x : Operand} : sone P K ρ w (.append e size bytes s x) = appendS e size bytes (ρ s) (ρ x) w := rfl
@[simp] theorem so_lookup {k : IntKind} {z : Value} {x ix : Operand} {ok : Bool} : sone P K ρ w (.lookup k z x ix ok) = lookupS k z (ρ x) (ρ ix) ok w := rfl
@[simp] theorem so_update {k : IntKind} {m ix v : Operand} : sone P K ρ w (.update k m ix v) = updateS k (ρ m) (ρ ix) (ρ v) w := rfl
@[simp] theorem so_delete {k : IntKind} {m ix : Operand} : sone P K ρ w (.delete k m ix) = deleteS k (ρ m) (ρ ix) w := rfl
@[simp] theorem so_makeMap : sone P K ρ w .makeMap = .ret (.map (some w.heap.size), World.push w (.map #[] 0)) := rfl
@[simp] theorem so_pick {c a b : Operand} : sone P K ρ w (.pick c a b) = match ρ c with
    | .bool x => .ret (if x then ρ a else ρ b, w)
    | _ => .bad := rfl
@[simp] theorem so_conv {k : IntKind} {x : Operand} : sone P K ρ w (.conv k x) = match ρ x with
    | .int _ n => .ret (.int k (k.wrap n), w)
    | _ => .bad := rfl
@[simp] theorem so_imax {x y : Operand} : sone P K ρ w (.imax x y) = match ρ x, ρ y with
    | .int k a, .int j b => if k = j then .ret (.int k (if b > a then b else a), w) else .bad
    | _, _ => .bad := rfl
@[simp] theorem so_fn {f : FuncId} {cap : Array Operand} : sone P K ρ w (.fn f cap) = .ret (.func (.func f) #[] (cap.map ρ), w) := rfl
@[simp] theorem so_call {f : FuncId} {args : Array Operand} : sone P K ρ w (.call f args) = K.enter f (args.map ρ) w := rfl
@[simp] theorem so_callv {x : Operand} {args : Array Operand} : sone P K ρ w (.callv x args) = callV P K (ρ x) (args.map ρ) w := rfl
@[simp] theorem bin_int {op : BinOp} {t : TypeId} {o1 o2 : Operand} {k j : IntKind} {a b : Int} {w : World} : binS P op t o1 o2 (.int k a) (.int j b) w = if (op = .shl ∨ op = .shr) ∨ k = j then (arith op k a b).bind fun v => .ret (v, w) else .bad := rfl
@[simp] theorem ar_add {k : IntKind} {a b : Int} : arith .add k a b = .ret (.int k (k.wrap (a + b))) := rfl
@[simp] theorem ar_sub {k : IntKind} {a b : Int} : arith .sub k a b = .ret (.int k (k.wrap (a - b))) := rfl
@[simp] theorem ar_mul {k : IntKind} {a b : Int} : arith .mul k a b = .ret (.int k (k.wrap (a * b))) := rfl
@[simp] theorem ar_quo {k : IntKind} {a b : Int} : arith .quo k a b = if b = 0 then .bad else .ret (.int k (k.wrap (a.tdiv b))) := rfl
@[simp] theorem ar_rem {k : IntKind} {a b : Int} : arith .rem k a b = if b = 0 then .bad else .ret (.int k (a.tmod b)) := rfl
@[simp] theorem ar_eql {k : IntKind} {a b : Int} : arith .eql k a b = .ret (.bool (decide (a = b))) := rfl
@[simp] theorem ar_neq {k : IntKind} {a b : Int} : arith .neq k a b = .ret (.bool (!decide (a = b))) := rfl
@[simp] theorem ar_lss {k : IntKind} {a b : Int} : arith .lss k a b = .ret (.bool (decide (a < b))) := rfl
@[simp] theorem ar_leq {k : IntKind} {a b : Int} : arith .leq k a b = .ret (.bool (decide (a ≤ b))) := rfl
@[simp] theorem ar_gtr {k : IntKind} {a b : Int} : arith .gtr k a b = .ret (.bool (decide (b < a))) := rfl
@[simp] theorem ar_geq {k : IntKind} {a b : Int} : arith .geq k a b = .ret (.bool (decide (b ≤ a))) := rfl
@[simp] theorem ar_shl {a b : Int} : arith .shl .i64 a b = if b < 0 then .bad else .ret (.int .i64 (IntKind.i64.wrap (a * 2 ^ (min b.toNat 64)))) := rfl
@[simp] theorem ar_shr {a b : Int} : arith .shr .i64 a b = if b < 0 then .bad else .ret (.int .i64 (a.fdiv (2 ^ (min b.toNat 64)))) := rfl
def and64 (a b : Int) : Int := IntKind.i64.wrap (BitVec.ofInt 64 a &&& BitVec.ofInt 64 b).toNat
def andNot64 (a b : Int) : Int := IntKind.i64.wrap (BitVec.ofInt 64 a &&& ~~~ BitVec.ofInt 64 b).toNat
@[simp] theorem ar_and {a b : Int} : arith .and .i64 a b = .ret (.int .i64 (and64 a b)) := rfl
@[simp] theorem ar_andNot {a b : Int} : arith .andNot .i64 a b = .ret (.int .i64 (andNot64 a b)) := rfl
@[simp] theorem load_one {b o : Nat} {w : World} : loadS none (.pointer (some ⟨b, o, none⟩)) w = match cellsOf? w b with
    | some (c, _, _) => (match c[o]? with
      | some v => .ret (v, w)
      | none => .bad)
    | none => .bad := rfl
@[simp] theorem load_row {k b o : Nat} {w : World} : loadS (some k) (.pointer (some ⟨b, o, none⟩)) w = match cellsOf? w b with
    | some (c, _, _) => if o + k ≤ c.size then .ret (.agg (c.extract o (o + k)), w) else .bad
    | none => .bad := rfl
@[simp] theorem faddr_at {off b o : Nat} {w : World} : faddrS off (.pointer (some ⟨b, o, none⟩)) w = .ret (.pointer (some ⟨b, o + off, none⟩), w) := rfl
@[simp] theorem part_one {off : Nat} {cs : Array Value} {w : World} : partS none off (.agg cs) w = match cs[off]? with
    | some v => .ret (v, w)
    | none => .bad := rfl
@[simp] theorem part_row {k off : Nat} {cs : Array Value} {w : World} : partS (some k) off (.agg cs) w = .ret (.agg (cs.extract off (off + k)), w) := rfl
@[simp] theorem iaddr_at {size b o len cap : Nat} {k : IntKind} {i : Int} {w : World} : iaddrS size (.slice (some ⟨b, o, none⟩) len cap) (.int k i) w = if 0 ≤ i ∧ i < len then .ret (.pointer (some ⟨b, o + i.toNat * size, none⟩), w) else .bad := rfl
@[simp] theorem extract_at {vs : Array Value} {i : Nat} {w : World} : extractS (.tuple vs) i w = match vs[i]? with
    | some v => .ret (v, w)
    | none => .bad := rfl
@[simp] theorem len_at {b : Option Addr} {l c : Nat} {w : World} : lenS (.slice b l c) w = .ret (.int .i64 (l : Int), w) := rfl
@[simp] theorem veq_int {m : Nat} {j k : IntKind} {a b : Int} : veq m (.int j a) (.int k b) = (j == k && a == b) := by cases m <;> rfl
@[simp] theorem veq_bool {m : Nat} {a b : Bool} : veq m (.bool a) (.bool b) = (a == b) := by cases m <;> rfl
@[simp] theorem veq_slice {m : Nat} {a b : Option Addr} {l c l' c' : Nat} : veq m (.slice a l c) (.slice b l' c') = (a == b && l == l' && c == c') := by cases m <;> rfl
@[simp] theorem veq_ptr {m : Nat} {a b : Option Addr} : veq m (.pointer a) (.pointer b) = (a == b) := by cases m <;> rfl
@[simp] theorem veq_map {m : Nat} {a b : Option Nat} : veq m (.map a) (.map b) = (a == b) := by cases m <;> rfl
@[simp] theorem cells_int {k : IntKind} {n : Int} : (Value.int k n).cells = #[.int k n] := rfl
@[simp] theorem cells_bool {b : Bool} : (Value.bool b).cells = #[.bool b] := rfl
@[simp] theorem cells_slice {b : Option Addr} {l c : Nat} : (Value.slice b l c).cells = #[.slice b l c] := rfl
@[simp] theorem cells_ptr {b : Option Addr} : (Value.pointer b).cells = #[.pointer b] := rfl
@[simp] theorem cells_mapv {b : Option Nat} : (Value.map b).cells = #[.map b] := rfl
@[simp] theorem cells_agg {cs : Array Value} : (Value.agg cs).cells = cs := rfl
end
section
variable {P : Program} {K : Kont}
theorem wpGs_mono : ∀ {l : List GI} {ρ : Env} {w : World} {Q Q' : Env → World → Prop}, (∀ ρ w, Q ρ w → Q' ρ w) → wpGs P K l ρ w Q → wpGs P K l ρ w Q' := by
  have hU : ∀ {l : List SG} {ρ : Env} {w : World} {Q Q' : Env → World → Prop}, (∀ ρ w, Q ρ w → Q' ρ w) → wpU P K l ρ w Q → wpU P K l ρ w Q' := by
    intro l
    induction l with
    | nil => intro ρ w Q Q' h hw; exact h _ _ hw
    | cons o l ih => intro ρ w Q Q' h hw; exact T.all_mono (fun r hr => ⟨hr.1, ih h hr.2⟩) hw
  intro l
  induction l with
  | nil => intro ρ w Q Q' h hw; exact h _ _ hw
  | cons i l ih =>
    intro ρ w Q Q' h hw
    rw [wpGs_cons] at hw ⊢
    unfold wpI at hw ⊢
    split at hw
    · exact wpG_mono (fun _ _ hr => ⟨hr.1, ih h hr.2⟩) hw
    · exact hU (fun _ _ hr => ih h hr) hw
    · exact ih h hw
    · split at hw
      · rename_i c hc
        simp only
        exact ⟨fun hh => hU (fun _ _ hr => ih h hr) (hw.1 hh), fun hh => ih h (hw.2 hh)⟩
      · exact ih h hw
theorem wpGC_mono {fuel : Nat} {fn : FuncId} {ro : Option Nat} {n : Nat} : ∀ (c : GC) {ρ : Env} {ds : List Deferred} {w : World} {Q Q' : SPost}, (∀ e ρ ds w, Q e ρ ds w → Q' e ρ ds w) → wpGC P K fuel fn ro n c ρ ds w Q → wpGC P K fuel fn ro n c ρ ds w Q' := by
  intro c
  induction c with
  | skip => intro ρ ds w Q Q' h hw; exact h _ _ _ _ hw
  | ret => intro ρ ds w Q Q' h hw; exact h _ _ _ _ hw
  | bad => intro ρ ds w Q Q' h hw; exact hw
  | exit id => intro ρ ds w Q Q' h hw; exact h _ _ _ _ hw
  | ops l => intro ρ ds w Q Q' h hw; exact wpGs_mono (fun _ _ hr => h _ _ _ _ hr) hw
  | seq x y ihx ihy =>
    intro ρ ds w Q Q' h hw
    refine ihx (fun e ρ ds w hr => ?_) hw
    cases e with
    | normal => exact ihy h hr
    | _ => exact h _ _ _ _ hr
  | cond c x y ihx ihy =>
    intro ρ ds w Q Q' h hw
    unfold wpGC at hw ⊢
    split
    · rename_i b hb
      rw [hb] at hw
      exact ⟨fun hh => ihx h (hw.1 hh), fun hh => ihy h (hw.2 hh)⟩
    · rename_i hb
      split at hw
      · rename_i b hb2; exact absurd hb2 (hb b)
      · exact hw
  | block id c ih =>
    intro ρ ds w Q Q' h hw
    refine ih (fun e ρ ds w hr => ?_) hw
    cases e with
    | exit id' =>
      simp only at hr ⊢
      split at hr
      · rename_i hi; rw [if_pos hi]; exact h _ _ _ _ hr
      · rename_i hi; rw [if_neg hi]; exact h _ _ _ _ hr
    | _ => exact h _ _ _ _ hr
  | loop c ih => intro ρ ds w Q Q' h hw; exact wpLoop_mono (body := wpGC P K fuel fn ro n c) (fun _ _ _ _ _ h hw => ih h hw) fuel h hw
  | rangeFunc g ps assign body => intro ρ ds w Q Q' h hw; exact wpC_mono _ h hw
theorem loop_rule {fuel : Nat} {fn : FuncId} {ro : Option Nat} {n : Nat} {c : GC} {ds : List Deferred} {Q : SPost} (Inv : Nat → Env → World → Prop)
    (h : ∀ k ρ w, Inv k ρ w → wpGC P K fuel fn ro n c ρ ds w fun e ρ' ds' w' => match e with
      | .normal => ds' = ds ∧ ∃ k', k' < k ∧ Inv k' ρ' w'
      | e => Q e ρ' ds' w') : ∀ (m k : Nat) (ρ : Env) (w : World), Inv k ρ w → k < m → wpLoop (wpGC P K fuel fn ro n c) m ρ ds w Q
  | 0, k, ρ, w, _, hk => absurd hk (Nat.not_lt_zero _)
  | m + 1, k, ρ, w, hi, hk => by
    unfold wpLoop
    refine wpGC_mono c (fun e ρ' ds' w' hr => ?_) (h k ρ w hi)
    cases e with
    | normal =>
      obtain ⟨rfl, k', hk', hi'⟩ := hr
      exact loop_rule Inv h m k' ρ' w' hi' (by omega)
    | _ => exact hr
end
end Go.Ideal
namespace Go.Ideal
open Go
def findRange : Code → Option (Code × Code)
  | .seq x y => match findRange x with
    | some r => some r
    | none => findRange y
  | .cond _ x y => match findRange x with
    | some r => some r
    | none => findRange y
  | .block _ c | .loop c => findRange c
  | .rangeFunc _ _ a b => some (a, b)
  | _ => none
def rangeOf (P : Program) (f : FuncId) : Code × Code := (((P.funcs[f]?).bind fun fn => fn.body.bind findRange).getD (.skip, .skip))
@[simp] theorem of_arr (n : Nat) (ρ : Env) (i : Nat) : Env.of (arr n ρ) i = if i < n then ρ i else undef := by
  simp only [Env.of, arr, Array.getD_eq_getD_getElem?, Array.getElem?_ofFn]
  by_cases h : i < n <;> simp [h]
theorem size_arr (n : Nat) (ρ : Env) : (arr n ρ).size = n := by simp [arr]
section
variable {P : Program} {K : Kont} {fuel : Nat} {fn : FuncId} {n : Nat}
theorem gc_range {t : Tmp} {ps : Array Tmp} {A B : Code} {ρ : Env} {ds : List Deferred} {w : World} {Q : SPost} {f : FuncId} {first captured : Array Value} (ht : t < n) (hev : ρ t = .func (.func f) first captured)
    (hfi : first = #[]) (hb : (P.funcs[f]?).any (fun fn => fn.body.isSome && fn.name != "runtime.NumGoroutine") = true)
    (h : (K.enter f (#[.func (.yield (w.heap.size + 1)) #[] #[]] ++ captured)
      (World.push (World.push w (.deferred (some []))) (.loop { state := .ready, pending := none, fn := fn, tmps := arr n ρ, params := ps, assign := A, body := B, defers := w.heap.size }))).all fun r =>
        ∃ x, r.2.heap[w.heap.size + 1]? = some (.loop x) ∧ x.state ≠ .busy ∧
          match x.pending with
          | none => Q .normal (Env.of (arr n ρ)) ({ target := .collected w.heap.size, args := #[] } :: ds) (World.set r.2 (w.heap.size + 1) (.loop { x with state := .exhausted }))
          | some .ret => Q .ret (Env.of (arr n ρ)) ({ target := .collected w.heap.size, args := #[] } :: ds) (World.set r.2 (w.heap.size + 1) (.loop { x with state := .exhausted }))
          | some (.exit id) => Q (.exit id) (Env.of (arr n ρ)) ({ target := .collected w.heap.size, args := #[] } :: ds) (World.set r.2 (w.heap.size + 1) (.loop { x with state := .exhausted }))
          | _ => False) : wpGC P K fuel fn none n (.rangeFunc (.tmp t) ps A B) ρ ds w Q := by
  show (icode P K fuel fn none (.rangeFunc (.tmp t) ps A B) ⟨arr n ρ, ds⟩ w).all _
  have he : (Instr.enterLoop fn (arr n ρ) ps A B none).run P w = .ok (w.heap.size + 1, [{ target := .collected w.heap.size, args := #[] }])
      (World.push (World.push w (.deferred (some []))) (.loop { state := .ready, pending := none, fn := fn, tmps := arr n ρ, params := ps, assign := A, body := B, defers := w.heap.size })) := by
    simp [Instr.enterLoop, Sem.run_bind, Result.andThen, World.push]
    rfl
  have hev' : (⟨arr n ρ, ds⟩ : Act).eval (.tmp t) = .func (.func f) first captured := by
    rw [eval_env, ev_tmp, of_arr, if_pos ht]; exact hev
  unfold icode
  simp only [he, constFit, hev']
  rw [if_pos (by rw [hfi]; simpa using hb)]
  refine T.all_bind.2 (T.all_mono (fun r hr => ?_) h)
  obtain ⟨v, w3⟩ := r
  obtain ⟨x, hx, hbusy, hq⟩ := hr
  have hend : (Instr.endLoop (w.heap.size + 1)).run P w3 = .ok x.pending (World.set w3 (w.heap.size + 1) (.loop { x with state := .exhausted })) := by
    have hns : ¬ (x.state == LoopState.busy) = true := by
      intro hh; exact hbusy (by cases hs : x.state <;> simp_all)
    simp only [Instr.endLoop, Instr.getLoop, Sem.run_bind, getObj, Sem.run, hx, Result.andThen, Sem.run_pure, if_neg hns, setObj]
    rfl
  obtain ⟨st, pend, xf, xt, xp, xa, xb, xd⟩ := x
  simp only [hend]
  simp only at hq
  split at hq
  · exact ⟨size_arr n ρ, hq⟩
  · exact ⟨size_arr n ρ, hq⟩
  · exact ⟨size_arr n ρ, hq⟩
  · exact hq.elim
theorem round_rule {l : Nat} {f : FuncId} {tmps : Array Value} {A B : Code} {ga gb : GC} {w : World} {Q : Value × World → Prop} (hA : grpC (lowC P n (pcOf A)) = ga) (hB : grpC (lowC P n (pcOf B)) = gb) (hn : tmps.size = n)
    (h : wpGC P K fuel f (some l) n ga (Env.of tmps) [] w fun e ρ ds w1 => e = .normal ∧ ∃ r, w1.heap[l]? = some (.loop r) ∧ r.state = .ready ∧
      wpGC P K fuel f (some l) n gb ρ ds (World.set w1 l (.loop { r with state := .busy })) fun e _ _ w3 => ∃ x, w3.heap[l]? = some (.loop x) ∧
        match e with
        | .normal => Q (.bool true, World.set w3 l (.loop { x with state := .ready, pending := none }))
        | .ret => Q (.bool false, World.set w3 l (.loop { x with state := .done, pending := some .ret }))
        | .exit id => Q (.bool false, World.set w3 l (.loop { x with state := .done, pending := some (.exit id) }))
        | _ => False) : (iround P K fuel l f tmps A B w).all Q := by
  subst hA; subst hB
  unfold iround
  have h1 := icode_pc (P := P) (K := K) (fuel := fuel) (fn := f) (Q := fun r : Exit × Act × World => r.2.1.tmps.size = n ∧ (r.1 = .normal ∧ ∃ x, r.2.2.heap[l]? = some (.loop x) ∧ x.state = .ready ∧ wpGC P K fuel f (some l) n (grpC (lowC P n (pcOf B))) (Env.of r.2.1.tmps) r.2.1.defers (World.set r.2.2 l (.loop { x with state := .busy })) fun e _ _ w3 => ∃ x, w3.heap[l]? = some (.loop x) ∧
        match e with
        | .normal => Q (.bool true, World.set w3 l (.loop { x with state := .ready, pending := none }))
        | .ret => Q (.bool false, World.set w3 l (.loop { x with state := .done, pending := some .ret }))
        | .exit id => Q (.bool false, World.set w3 l (.loop { x with state := .done, pending := some (.exit id) }))
        | _ => False)) A (wpC_ok (a := { tmps := tmps, defers := [] }) (pcOf A) hn (wpGC_ok _ h))
  refine T.all_bind.2 (T.all_mono (fun p hp => ?_) h1)
  obtain ⟨e, a, w1⟩ := p
  obtain ⟨hs, rfl, x, hx, hready, hbody⟩ := hp
  simp only at hs hx hbody
  have hbegin : (Instr.beginRound l).run P w1 = .ok () (World.set w1 l (.loop { x with state := .busy })) := by
    simp only [Instr.beginRound, Instr.getLoop, Sem.run_bind, getObj, Sem.run, hx, Result.andThen, Sem.run_pure, setObj, hready]
    rfl
  simp only [hbegin]
  have h2 := icode_pc (P := P) (K := K) (fuel := fuel) (fn := f) B (wpC_ok (a := a) (pcOf B) hs (wpGC_ok _ hbody))
  refine T.all_bind.2 (T.all_mono (fun p hp => ?_) h2)
  obtain ⟨e, a3, w3⟩ := p
  obtain ⟨_, y, hy, hq⟩ := hp
  simp only at hy hq
  have hend : ∀ j : Option Code, (Instr.endRound l j).run P w3 = .ok (.bool j.isNone) (World.set w3 l (.loop { y with state := if j.isNone then .ready else .done, pending := j })) := by
    intro j
    simp only [Instr.endRound, Instr.getLoop, Sem.run_bind, getObj, Sem.run, hy, Result.andThen, Sem.run_pure, setObj]
    rfl
  cases e with
  | normal => simp only [hend, ofRun]; exact hq
  | ret => simp only [hend, ofRun]; exact hq
  | exit id => simp only [hend, ofRun]; exact hq
  | _ => exact hq.elim
def Keeps (w w' : World) (F : Nat → Prop) : Prop := w.heap.size ≤ w'.heap.size ∧ ∀ j, j < w.heap.size → ¬ F j → w'.heap[j]? = w.heap[j]?
theorem Keeps.refl (w : World) (F : Nat → Prop) : Keeps w w F := ⟨Nat.le_refl _, fun _ _ _ => rfl⟩
theorem Keeps.trans {a b c : World} {F G H : Nat → Prop} (h : Keeps a b F) (k : Keeps b c G) (hF : ∀ j, j < a.heap.size → F j → H j) (hG : ∀ j, j < a.heap.size → G j → H j) : Keeps a c H :=
  ⟨Nat.le_trans h.1 k.1, fun j hj hn => by
    rw [k.2 j (Nat.lt_of_lt_of_le hj h.1) (fun hg => hn (hG j hj hg)), h.2 j hj (fun hf => hn (hF j hj hf))]⟩
theorem Keeps.mono {a b : World} {F H : Nat → Prop} (h : Keeps a b F) (hF : ∀ j, j < a.heap.size → F j → H j) : Keeps a b H := ⟨h.1, fun j hj hn => h.2 j hj fun hf => hn (hF j hj hf)⟩
theorem Keeps.push (w : World) (o : Obj) (F : Nat → Prop) : Keeps w (World.push w o) F := ⟨by simp, fun j hj _ => by rw [at_push, if_neg (Nat.ne_of_lt hj)]⟩
theorem Keeps.set (w : World) (b : Nat) (o : Obj) {F : Nat → Prop} (h : b < w.heap.size → F b) : Keeps w (World.set w b o) F := ⟨by simp, fun j hj hn => by
  rw [at_set, if_neg]; rintro ⟨rfl, hb⟩; exact hn (h hb)⟩
theorem Keeps.kill (w : World) (b : Nat) {F : Nat → Prop} (h : b < w.heap.size → F b) : Keeps w (Ideal.kill w b) F := Keeps.set w b dead h
theorem Keeps.at {w w' : World} {F : Nat → Prop} (h : Keeps w w' F) {b : Nat} {o : Obj} (ho : w.heap[b]? = some o) (hn : ¬ F b) : w'.heap[b]? = some o := by
  rw [h.2 b (Array.getElem?_eq_some_iff.1 ho).1 hn]; exact ho
theorem Keeps.cells {w w' : World} {F : Nat → Prop} (h : Keeps w w' F) {b : Nat} {x : Array Value × TypeId × (Nat × Nat)} (ho : cellsOf? w b = some x) (hn : ¬ F b) : cellsOf? w' b = some x := by
  have := h.2 b (cells_lt ho) hn
  unfold cellsOf? at ho ⊢
  rw [this]; exact ho
theorem Keeps.maps {w w' : World} {F : Nat → Prop} (h : Keeps w w' F) {b : Nat} {x : Array MapEntry × Nat} (ho : mapOf? w b = some x) (hn : ¬ F b) : mapOf? w' b = some x := by
  have := h.2 b (maps_lt ho) hn
  unfold mapOf? at ho ⊢
  rw [this]; exact ho
end
end Go.Ideal
namespace Go.Ideal
open Go
inductive FI where
  | code (c : GC)
  | blk (id : Nat)
structure Cx where
  P : Program
  K : Kont
  fuel : Nat
  fn : FuncId
  ro : Option Nat
  n : Nat
  Q : SPost
def kont (X : Cx) : List FI → SPost
  | [] => X.Q
  | .code y :: k => fun e ρ ds w => match e with
    | .normal => wpGC X.P X.K X.fuel X.fn X.ro X.n y ρ ds w (kont X k)
    | e => kont X k e ρ ds w
  | .blk id :: k => fun e ρ ds w => match e with
    | .exit id' => if id' = id then kont X k .normal ρ ds w else kont X k (.exit id') ρ ds w
    | e => kont X k e ρ ds w
def goN (X : Cx) (k : List FI) (ρ : Env) (ds : List Deferred) (w : World) : Prop := kont X k .normal ρ ds w
def goR (X : Cx) (k : List FI) (ρ : Env) (ds : List Deferred) (w : World) : Prop := kont X k .ret ρ ds w
def goE (X : Cx) (id : Nat) (k : List FI) (ρ : Env) (ds : List Deferred) (w : World) : Prop := kont X k (.exit id) ρ ds w
def codeR (X : Cx) (c : GC) (k : List FI) (ρ : Env) (ds : List Deferred) (w : World) : Prop := wpGC X.P X.K X.fuel X.fn X.ro X.n c ρ ds w (kont X k)
def opsR (X : Cx) (l : List GI) (k : List FI) (ρ : Env) (ds : List Deferred) (w : World) : Prop := wpGs X.P X.K l ρ w fun ρ w => goN X k ρ ds w
def uR (X : Cx) (m : List SG) (l : List GI) (k : List FI) (ρ : Env) (ds : List Deferred) (w : World) : Prop := wpU X.P X.K m ρ w fun ρ w => opsR X l k ρ ds w
def againA (X : Cx) (re : List SR) (m : List SG) (l : List GI) (k : List FI) (ρ : Env) (ds : List Deferred) (w : World) : Prop := sagain X.P X.K ρ w re = true ∧ uR X m l k ρ ds w
def valA (X : Cx) (d : Option Nat) (re : List SR) (m : List SG) (l : List GI) (k : List FI) (t : T (Value × World)) (ρ : Env) (ds : List Deferred) : Prop := t.all fun r => againA X re m l k (ρ.put d r.1) ds r.2
def grpA (X : Cx) (v : Value) (d : Nat) (b : Bool) (m : List SG) (l : List GI) (k : List FI) (ρ : Env) (ds : List Deferred) (w : World) : Prop := match v with
  | .bool c => (c = b → uR X m l k (ρ.put (some d) (.bool b)) ds w) ∧ (c = !b → opsR X l k (skipU m (ρ.put (some d) (.bool !b))) ds w)
  | _ => opsR X l k (skipU m ρ) ds w
def condA (X : Cx) (v : Value) (x y : GC) (k : List FI) (ρ : Env) (ds : List Deferred) (w : World) : Prop := match v with
  | .bool b => (b = true → codeR X x k ρ ds w) ∧ (b = false → codeR X y k ρ ds w)
  | _ => False
def loopA (X : Cx) (c : GC) (k : List FI) (ρ : Env) (ds : List Deferred) (w : World) : Prop := wpLoop (wpGC X.P X.K X.fuel X.fn X.ro X.n c) X.fuel ρ ds w (kont X k)
def oneA (X : Cx) (o : SG) (l : List GI) (k : List FI) (ρ : Env) (ds : List Deferred) (w : World) : Prop := wpG X.P X.K o ρ w fun ρ w => sagain X.P X.K ρ w o.re = true ∧ opsR X l k ρ ds w
def finPost (P : Program) (res : List RS) (Q : Value → World → Prop) : SPost := fun e ρ ds w => (e = .normal ∨ e = .ret) ∧ wpFin P ds w fun w => wpRes res ρ w fun v => Q v w
section
variable {X : Cx} {ρ : Env} {ds : List Deferred} {w : World} {k : List FI} {l : List GI} {m : List SG}
theorem gfn_start {P : Program} {K : Kont} {fuel : Nat} {f : FuncId} {gf : GFn} {args : Array Value} {Q : Value → World → Prop} :
    wpGFn P K fuel f gf args w Q ↔ args.size ≤ gf.n ∧ codeR ⟨P, K, fuel, f, none, gf.n, finPost P gf.res Q⟩ gf.body [] (Env.of args) [] w := Iff.rfl
theorem code_start {P : Program} {K : Kont} {fuel : Nat} {fn : FuncId} {ro : Option Nat} {n : Nat} {c : GC} {Q : SPost} : wpGC P K fuel fn ro n c ρ ds w Q ↔ codeR ⟨P, K, fuel, fn, ro, n, Q⟩ c [] ρ ds w := Iff.rfl
@[simp] theorem kont_exit {id : Nat} : kont X k (.exit id) ρ ds w = goE X id k ρ ds w := rfl
@[simp] theorem kont_ret : kont X k .ret ρ ds w = goR X k ρ ds w := rfl
@[simp] theorem kont_normal : kont X k .normal ρ ds w = goN X k ρ ds w := rfl
@[simp] theorem goN_nil : goN X [] ρ ds w = X.Q .normal ρ ds w := rfl
@[simp] theorem goN_code {y : GC} : goN X (.code y :: k) ρ ds w = codeR X y k ρ ds w := rfl
@[simp] theorem goN_blk {id : Nat} : goN X (.blk id :: k) ρ ds w = goN X k ρ ds w := rfl
@[simp] theorem goR_nil : goR X [] ρ ds w = X.Q .ret ρ ds w := rfl
@[simp] theorem goR_code {y : GC} : goR X (.code y :: k) ρ ds w = goR X k ρ ds w := rfl
@[simp] theorem goR_blk {id : Nat} : goR X (.blk id :: k) ρ ds w = goR X k ρ ds w := rfl
@[simp] theorem goE_nil {id : Nat} : goE X id [] ρ ds w = X.Q (.exit id) ρ ds w := rfl
@[simp] theorem goE_code {id : Nat} {y : GC} : goE X id (.code y :: k) ρ ds w = goE X id k ρ ds w := rfl
@[simp] theorem goE_blk {id id' : Nat} : goE X id (.blk id' :: k) ρ ds w = if id = id' then goN X k ρ ds w else goE X id k ρ ds w := rfl
@[simp] theorem codeR_skip : codeR X .skip k ρ ds w = goN X k ρ ds w := rfl
@[simp] theorem codeR_ret : codeR X .ret k ρ ds w = goR X k ρ ds w := rfl
@[simp] theorem codeR_exit {id : Nat} : codeR X (.exit id) k ρ ds w = goE X id k ρ ds w := rfl
@[simp] theorem codeR_bad : codeR X .bad k ρ ds w = False := rfl
@[simp] theorem codeR_seq {x y : GC} : codeR X (.seq x y) k ρ ds w = codeR X x (.code y :: k) ρ ds w := rfl
@[simp] theorem codeR_block {id : Nat} {c : GC} : codeR X (.block id c) k ρ ds w = codeR X c (.blk id :: k) ρ ds w := rfl
@[simp] theorem codeR_ops {l : List GI} : codeR X (.ops l) k ρ ds w = opsR X l k ρ ds w := rfl
@[simp] theorem codeR_cond {c : Operand} {x y : GC} : codeR X (.cond c x y) k ρ ds w = condA X (ev ρ c) x y k ρ ds w := rfl
@[simp] theorem codeR_loop {c : GC} : codeR X (.loop c) k ρ ds w = loopA X c k ρ ds w := rfl
@[simp high] theorem condA_true {x y : GC} : condA X (.bool true) x y k ρ ds w = codeR X x k ρ ds w := by simp [condA]
@[simp high] theorem condA_false {x y : GC} : condA X (.bool false) x y k ρ ds w = codeR X y k ρ ds w := by simp [condA]
@[simp] theorem condA_decide {p : Prop} [Decidable p] {x y : GC} : condA X (.bool (decide p)) x y k ρ ds w = ((p → codeR X x k ρ ds w) ∧ (¬ p → codeR X y k ρ ds w)) := by simp [condA]
@[simp low] theorem condA_bool {b : Bool} {x y : GC} : condA X (.bool b) x y k ρ ds w = ((b = true → codeR X x k ρ ds w) ∧ (b = false → codeR X y k ρ ds w)) := rfl
@[simp] theorem opsR_nil : opsR X [] k ρ ds w = goN X k ρ ds w := rfl
@[simp] theorem opsR_plain : opsR X (.grp none m :: l) k ρ ds w = uR X m l k ρ ds w := rfl
@[simp] theorem opsR_no {b : Bool} : opsR X (.grp (some (none, b)) m :: l) k ρ ds w = opsR X l k (skipU m ρ) ds w := rfl
@[simp] theorem opsR_grp {d : Nat} {b : Bool} : opsR X (.grp (some (some d, b)) m :: l) k ρ ds w = grpA X (ρ d) d b m l k ρ ds w := rfl
@[simp] theorem opsR_one {o : SG} : opsR X (.one o :: l) k ρ ds w = oneA X o l k ρ ds w := rfl
@[simp] theorem uR_nil : uR X [] l k ρ ds w = opsR X l k ρ ds w := rfl
@[simp] theorem uR_cons {o : SG} : uR X (o :: m) l k ρ ds w = valA X o.d o.re m l k (sone X.P X.K (ev ρ) w o.o) ρ ds := rfl
@[simp] theorem valA_ret {d : Option Nat} {re : List SR} {v : Value} {w' : World} : valA X d re m l k (.ret (v, w')) ρ ds = againA X re m l k (ρ.put d v) ds w' := rfl
@[simp] theorem valA_bad {d : Option Nat} {re : List SR} : valA X d re m l k .bad ρ ds = False := rfl
@[simp] theorem valA_ite {d : Option Nat} {re : List SR} {c : Prop} [Decidable c] {x y : T (Value × World)} : valA X d re m l k (if c then x else y) ρ ds = ((c → valA X d re m l k x ρ ds) ∧ (¬ c → valA X d re m l k y ρ ds)) := by
  by_cases h : c <;> simp [h]
@[simp] theorem againA_nil : againA X [] m l k ρ ds w = uR X m l k ρ ds w := by simp [againA]
@[simp] theorem againA_cons {r : SR} {re : List SR} : againA X (r :: re) m l k ρ ds w = (sagain X.P X.K ρ w (r :: re) = true ∧ uR X m l k ρ ds w) := rfl
@[simp high] theorem grpA_tt {d : Nat} : grpA X (.bool true) d true m l k ρ ds w = uR X m l k (ρ.put (some d) (.bool true)) ds w := by simp [grpA]
@[simp high] theorem grpA_ff {d : Nat} : grpA X (.bool false) d false m l k ρ ds w = uR X m l k (ρ.put (some d) (.bool false)) ds w := by simp [grpA]
@[simp high] theorem grpA_tf {d : Nat} : grpA X (.bool true) d false m l k ρ ds w = opsR X l k (skipU m (ρ.put (some d) (.bool true))) ds w := by simp [grpA]
@[simp high] theorem grpA_ft {d : Nat} : grpA X (.bool false) d true m l k ρ ds w = opsR X l k (skipU m (ρ.put (some d) (.bool false))) ds w := by simp [grpA]
@[simp] theorem grpA_dt {d : Nat} {p : Prop} [Decidable p] : grpA X (.bool (decide p)) d true m l k ρ ds w = ((p → uR X m l k (ρ.put (some d) (.bool true)) ds w) ∧ (¬ p → opsR X l k (skipU m (ρ.put (some d) (.bool false))) ds w)) := by simp [grpA]
@[simp] theorem grpA_df {d : Nat} {p : Prop} [Decidable p] : grpA X (.bool (decide p)) d false m l k ρ ds w = ((¬ p → uR X m l k (ρ.put (some d) (.bool false)) ds w) ∧ (p → opsR X l k (skipU m (ρ.put (some d) (.bool true))) ds w)) := by simp [grpA]
@[simp low] theorem grpA_bool {d : Nat} {b c : Bool} : grpA X (.bool c) d b m l k ρ ds w = ((c = b → uR X m l k (ρ.put (some d) (.bool b)) ds w) ∧ (c = !b → opsR X l k (skipU m (ρ.put (some d) (.bool !b))) ds w)) := rfl
@[simp] theorem grpA_undef {d : Nat} {b : Bool} : grpA X undef d b m l k ρ ds w = opsR X l k (skipU m ρ) ds w := rfl
@[simp] theorem finPost_ret {P : Program} {res : List RS} {Q : Value → World → Prop} : finPost P res Q .ret ρ [] w = wpRes res ρ w fun v => Q v w := by simp [finPost]
@[simp] theorem finPost_normal {P : Program} {res : List RS} {Q : Value → World → Prop} : finPost P res Q .normal ρ [] w = wpRes res ρ w fun v => Q v w := by simp [finPost]
theorem valA_of {d : Option Nat} {re : List SR} {t : T (Value × World)} {R : Value × World → Prop} (h : t.all R) (hk : ∀ v w, R (v, w) → againA X re m l k (ρ.put d v) ds w) : valA X d re m l k t ρ ds := T.all_mono (fun r hr => hk r.1 r.2 hr) h
theorem loop_go {c : GC} (Inv : Nat → Env → World → Prop) (h : ∀ i ρ w, Inv i ρ w → codeR ⟨X.P, X.K, X.fuel, X.fn, X.ro, X.n, fun e ρ' ds' w' => match e with
      | .normal => ds' = ds ∧ ∃ i', i' < i ∧ Inv i' ρ' w'
      | e => kont X k e ρ' ds' w'⟩ c [] ρ ds w) {i : Nat} (hi : Inv i ρ w) (hlt : i < X.fuel) : loopA X c k ρ ds w := loop_rule Inv h X.fuel i ρ w hi hlt
end
end Go.Ideal
