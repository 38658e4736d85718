/-
  Operations under one guard together.
-/
import Derived.Test.YtplcocifndpplaaJk
namespace Go.Ideal
open Go

inductive GI where
  | grp (g : PG) (l : List SG)
  | one (o : SG)

inductive GC where
  | skip | ret | bad
  | exit (id : Nat)
  | ops (l : List GI)
  | seq (x y : GC)
  | cond (c : Operand) (x y : GC)
  | block (id : Nat) (c : GC)
  | loop (c : GC)
  | rangeFunc (g : Operand) (ps : Array Tmp) (assign body : Code)

structure GFn where
  n : Nat
  res : List RS
  body : GC

def guardOf : PG → Option Tmp
  | some (some d, _) => some d
  | _ => none

def strip (g : PG) (o : SG) : SG := { o with g := none, re := o.re.map fun r => if r.g = g then { r with g := none } else r }

/-- Does it leave the guard alone? -/
def keepG (o : SG) : Bool := match guardOf o.g, o.d with
  | some d, some e => d != e
  | _, _ => true
/-- May an operation stand in a group? -/
def fitG (o : SG) : Bool := keepG o && (o.g == none || (o.re.all fun r => r.g == o.g))

def grp : List SG → List GI
  | [] => []
  | o :: l =>
    if fitG o then
      match grp l with
      | .grp g m :: r => if o.g = g then .grp g (strip g o :: m) :: r else .grp o.g [strip o.g o] :: .grp g m :: r
      | r => .grp o.g [strip o.g o] :: r
    else .one o :: grp l

def grpC : WC → GC
  | .skip => .skip
  | .ret => .ret
  | .bad => .bad
  | .exit id => .exit id
  | .ops l => .ops (grp l)
  | .seq x y => .seq (grpC x) (grpC y)
  | .cond c x y => .cond c (grpC x) (grpC y)
  | .block id c => .block id (grpC c)
  | .loop c => .loop (grpC c)
  | .rangeFunc g ps assign body => .rangeFunc g ps assign body

def wpU (P : Program) (K : Kont) : List SG → Env → World → (Env → World → Prop) → Prop
  | [], ρ, w, Q => Q ρ w
  | o :: l, ρ, w, Q => (sone P K (ev ρ) w o.o).all fun r => sagain P K (ρ.put o.d r.1) r.2 o.re = true ∧ wpU P K l (ρ.put o.d r.1) r.2 Q

def skipU : List SG → Env → Env
  | [], ρ => ρ
  | o :: l, ρ => skipU l (ρ.put o.d undef)

def wpI (P : Program) (K : Kont) : GI → Env → World → (Env → World → Prop) → Prop
  | .one o, ρ, w, Q => wpG P K o ρ w fun ρ w => sagain P K ρ w o.re = true ∧ Q ρ w
  | .grp none l, ρ, w, Q => wpU P K l ρ w Q
  | .grp (some (none, _)) l, ρ, w, Q => Q (skipU l ρ) w
  | .grp (some (some d, b)) l, ρ, w, Q => match ρ d with
    | .bool c => (c = b → wpU P K l (ρ.put (some d) (.bool b)) w Q) ∧ (c = !b → Q (skipU l (ρ.put (some d) (.bool !b))) w)
    | _ => Q (skipU l ρ) w

def wpGs (P : Program) (K : Kont) : List GI → Env → World → (Env → World → Prop) → Prop
  | [], ρ, w, Q => Q ρ w
  | i :: l, ρ, w, Q => wpI P K i ρ w fun ρ w => wpGs P K l ρ w Q

def wpGC (P : Program) (K : Kont) (fuel : Nat) (fn : FuncId) (ro : Option Nat) (n : Nat) : GC → Env → List Deferred → World → SPost → Prop
  | .skip, ρ, ds, w, Q => Q .normal ρ ds w
  | .ret, ρ, ds, w, Q => Q .ret ρ ds w
  | .bad, _, _, _, _ => False
  | .exit id, ρ, ds, w, Q => Q (.exit id) ρ ds w
  | .ops l, ρ, ds, w, Q => wpGs P K l ρ w fun ρ w => Q .normal ρ ds w
  | .seq x y, ρ, ds, w, Q => wpGC P K fuel fn ro n x ρ ds w fun e ρ ds w => match e with
    | .normal => wpGC P K fuel fn ro n y ρ ds w Q
    | e => Q e ρ ds w
  | .cond c x y, ρ, ds, w, Q => match ev ρ c with
    | .bool b => (b = true → wpGC P K fuel fn ro n x ρ ds w Q) ∧ (b = false → wpGC P K fuel fn ro n y ρ ds w Q)
    | _ => False
  | .block id c, ρ, ds, w, Q => wpGC P K fuel fn ro n c ρ ds w fun e ρ ds w => match e with
    | .exit id' => if id' = id then Q .normal ρ ds w else Q (.exit id') ρ ds w
    | e => Q e ρ ds w
  | .loop c, ρ, ds, w, Q => wpLoop (wpGC P K fuel fn ro n c) fuel ρ ds w Q
  | .rangeFunc g ps assign body, ρ, ds, w, Q => wpC P K fuel fn ro n (.rangeFunc g ps assign body) ρ ds w Q

def wpGFn (P : Program) (K : Kont) (fuel : Nat) (f : FuncId) (gf : GFn) (args : Array Value) (w : World) (Q : Value → World → Prop) : Prop :=
  args.size ≤ gf.n ∧ wpGC P K fuel f none gf.n gf.body (Env.of args) [] w fun e ρ ds w => (e = .normal ∨ e = .ret) ∧ wpFin P ds w fun w => wpRes gf.res ρ w fun v => Q v w

def lowG (P : Program) (f : FuncId) : Option GFn := (lowFn P f).map fun s => { n := s.n, res := s.res, body := grpC s.body }

section
variable {P : Program} {K : Kont}

theorem sagain_strip {ρ : Env} {w : World} {g : PG} (hg : wantS ρ g = true) (l : List SR) : sagain P K ρ w (l.map fun r => if r.g = g then { r with g := none } else r) = sagain P K ρ w l := by
  unfold sagain
  rw [List.all_map]
  congr 1
  funext r
  simp only [Function.comp]
  by_cases h : r.g = g
  · rw [if_pos h]; simp only [h, hg]; rfl
  · rw [if_neg h]

theorem want_put {ρ : Env} {g : PG} {d : Option Tmp} {v : Value} (h : ∀ x y, guardOf g = some x → d = some y → x ≠ y) : wantS (ρ.put d v) g = wantS ρ g := by
  unfold wantS
  split
  · rfl
  · rfl
  · rename_i x b
    cases d with
    | none => rfl
    | some y =>
      have := h x y rfl rfl
      simp only [Env.put, if_neg this]

theorem keepG_spec {o : SG} (h : keepG o = true) : ∀ x y, guardOf o.g = some x → o.d = some y → x ≠ y := by
  intro x y hx hy
  unfold keepG at h
  rw [hx, hy] at h
  simpa using h

theorem put_self {ρ : Env} {d : Nat} {v : Value} (h : ρ d = v) : ρ.put (some d) v = ρ := by
  funext i
  simp only [Env.put]
  split
  · rename_i hi; subst hi; exact h.symm
  · rfl

theorem fitG_spec {o : SG} (h : fitG o = true) : keepG o = true ∧ (o.g = none ∨ ∀ r ∈ o.re, r.g = o.g) := by
  simp only [fitG, Bool.and_eq_true, Bool.or_eq_true, beq_iff_eq, List.all_eq_true] at h
  exact h

theorem sagain_none {ρ : Env} {w : World} {g : PG} (hg : wantS ρ g = false) {l : List SR} (h : ∀ r ∈ l, r.g = g) : sagain P K ρ w l = true := by
  unfold sagain
  rw [List.all_eq_true]
  intro r hr
  rw [h r hr, hg]; rfl

theorem skip_one {o : SG} {ρ : Env} {w : World} {Q : Env → World → Prop} (hf : fitG o = true) (hg : wantS ρ o.g = false) (hne : o.g ≠ none) (h : Q (ρ.put o.d undef) w) :
    wpG P K o ρ w fun ρ w => sagain P K ρ w o.re = true ∧ Q ρ w := by
  obtain ⟨hk, hr⟩ := fitG_spec hf
  refine ⟨(fun hy => by rw [hg] at hy; cases hy), fun _ => ⟨?_, h⟩⟩
  exact sagain_none (by rw [want_put (keepG_spec hk)]; exact hg) (hr.resolve_left hne)

theorem run_one {o : SG} {ρ : Env} {w : World} {Q : Env → World → Prop} (hf : fitG o = true) (hg : wantS ρ o.g = true) (h : (sone P K (ev ρ) w o.o).all fun r => sagain P K (ρ.put o.d r.1) r.2 (strip o.g o).re = true ∧ Q (ρ.put o.d r.1) r.2) :
    wpG P K o ρ w fun ρ w => sagain P K ρ w o.re = true ∧ Q ρ w := by
  obtain ⟨hk, hr⟩ := fitG_spec hf
  refine ⟨fun _ => T.all_mono (fun r hr => ?_) h, fun hn => by rw [hg] at hn; cases hn⟩
  have hw : wantS (ρ.put o.d r.1) o.g = true := by rw [want_put (keepG_spec hk)]; exact hg
  exact ⟨by rw [← sagain_strip hw o.re]; exact hr.1, hr.2⟩

theorem keep_get {o : SG} {d : Nat} {b : Bool} (hf : fitG o = true) (hg : o.g = some (some d, b)) (ρ : Env) (v : Value) : (ρ.put o.d v) d = ρ d := by
  have := keepG_spec (fitG_spec hf).1 d
  rw [hg] at this
  cases ho : o.d with
  | none => rfl
  | some e => simp only [Env.put, if_neg (this e rfl ho)]

theorem want_nb {ρ : Env} {d : Nat} {b : Bool} (h : ∀ c, ρ d = .bool c → False) : wantS ρ (some (some d, b)) = false := by
  unfold wantS
  split
  · rename_i hh; cases hh
  · rfl
  · rename_i hh
    simp only [Option.some.injEq, Prod.mk.injEq] at hh
    obtain ⟨rfl, rfl⟩ := hh
    split
    · rename_i c hc; exact (h c hc).elim
    · rfl

theorem empty_grp {g : PG} {ρ : Env} {w : World} {Q : Env → World → Prop} (h : wpI P K (.grp g []) ρ w Q) : Q ρ w := by
  cases g with
  | none => exact h
  | some p =>
    obtain ⟨t, b⟩ := p
    cases t with
    | none => exact h
    | some d =>
      simp only [wpI] at h
      split at h
      · rename_i c hc
        by_cases hcb : c = b
        · have := h.1 hcb
          rw [put_self (by rw [hc, hcb])] at this
          exact this
        · have hcn : c = !b := by cases c <;> cases b <;> simp_all
          have := h.2 hcn
          rw [put_self (by rw [hc, hcn])] at this
          exact this
      · exact h

theorem peel {o : SG} {m : List SG} {ρ : Env} {w : World} {Q : Env → World → Prop} (hf : fitG o = true) (h : wpI P K (.grp o.g (strip o.g o :: m)) ρ w Q) :
    wpG P K o ρ w fun ρ w => sagain P K ρ w o.re = true ∧ wpI P K (.grp o.g m) ρ w Q := by
  cases hg : o.g with
  | none =>
    rw [hg] at h
    refine run_one hf (by rw [hg]; rfl) ?_
    rw [hg]
    exact h
  | some p =>
    obtain ⟨t, b⟩ := p
    cases t with
    | none =>
      rw [hg] at h
      exact skip_one hf (by rw [hg]; rfl) (by rw [hg]; exact fun h => by cases h) h
    | some d =>
      rw [hg] at h
      simp only [wpI] at h
      split at h
      · rename_i c hc
        obtain ⟨h1, h2⟩ := h
        by_cases hcb : c = b
        · subst hcb
          have hrun := h1 rfl
          rw [put_self hc] at hrun
          refine run_one hf (by rw [hg]; simp [wantS, hc]) ?_
          rw [hg]
          refine T.all_mono (fun r hr => ⟨hr.1, ?_⟩) hrun
          simp only [wpI, keep_get hf hg, hc]
          refine ⟨fun _ => ?_, fun hn => by cases c <;> cases hn⟩
          rw [put_self (by rw [keep_get hf hg]; exact hc)]
          exact hr.2
        · have hcn : c = !b := by cases c <;> cases b <;> simp_all
          subst hcn
          have hsk := h2 rfl
          rw [put_self hc] at hsk
          refine skip_one hf (by rw [hg]; simp only [wantS, hc]; cases b <;> rfl) (by rw [hg]; exact fun h => by cases h) ?_
          simp only [wpI, keep_get hf hg, hc]
          refine ⟨fun hn => absurd hn hcb, fun _ => ?_⟩
          rw [put_self (by rw [keep_get hf hg]; exact hc)]
          exact hsk
      · rename_i hnb
        refine skip_one hf (by rw [hg]; exact want_nb hnb) (by rw [hg]; exact fun h => by cases h) ?_
        simp only [wpI, keep_get hf hg]
        exact h

theorem grp_ok : ∀ (l : List SG) {ρ : Env} {w : World} {Q : Env → World → Prop}, wpGs P K (grp l) ρ w Q → wpOps P K l ρ w Q
  | [], _, _, _, h => h
  | o :: l, ρ, w, Q, h => by
    unfold grp at h
    split at h
    · rename_i hf
      have alone : wpGs P K (.grp o.g [strip o.g o] :: grp l) ρ w Q → wpOps P K (o :: l) ρ w Q := by
        intro h
        have := peel hf h
        refine wpG_mono (fun ρ w hr => ⟨hr.1, grp_ok l ?_⟩) this
        exact empty_grp hr.2
      split at h
      · rename_i g m r hgr
        split at h
        · rename_i hg
          subst hg
          have := peel hf h
          refine wpG_mono (fun ρ w hr => ⟨hr.1, grp_ok l ?_⟩) this
          rw [hgr]
          exact hr.2
        · rw [hgr] at alone; exact alone h
      · exact alone h
    · have h' : wpG P K o ρ w fun ρ w => sagain P K ρ w o.re = true ∧ wpGs P K (grp l) ρ w Q := h
      exact wpG_mono (fun _ _ hr => ⟨hr.1, grp_ok l hr.2⟩) h'

theorem wpGC_ok {fuel : Nat} {fn : FuncId} {ro : Option Nat} {n : Nat} : ∀ (c : WC) {ρ : Env} {ds : List Deferred} {w : World} {Q : SPost}, wpGC P K fuel fn ro n (grpC c) ρ ds w Q → wpC P K fuel fn ro n c ρ ds w Q := by
  intro c
  induction c with
  | skip => intro ρ ds w Q h; exact h
  | ret => intro ρ ds w Q h; exact h
  | bad => intro ρ ds w Q h; exact h
  | exit id => intro ρ ds w Q h; exact h
  | ops l => intro ρ ds w Q h; exact grp_ok l h
  | seq x y ihx ihy =>
    intro ρ ds w Q h
    refine wpC_mono x (fun e ρ ds w hr => ?_) (ihx h)
    cases e with
    | normal => exact ihy hr
    | _ => exact hr
  | cond c x y ihx ihy =>
    intro ρ ds w Q h
    unfold grpC wpGC at h
    unfold wpC
    split
    · rename_i b hb
      rw [hb] at h
      exact ⟨fun hh => ihx (h.1 hh), fun hh => ihy (h.2 hh)⟩
    · rename_i hb
      split at h
      · rename_i b hb2; exact absurd hb2 (hb b)
      · exact h
  | block id c ih => intro ρ ds w Q h; exact ih h
  | loop c ih =>
    intro ρ ds w Q h
    have key : ∀ (k : Nat) (ρ : Env) (ds : List Deferred) (w : World) (Q : SPost), wpLoop (wpGC P K fuel fn ro n (grpC c)) k ρ ds w Q → wpLoop (wpC P K fuel fn ro n c) k ρ ds w Q := by
      intro k
      induction k with
      | zero => intro ρ ds w Q h; exact h
      | succ k ihk =>
        intro ρ ds w Q h
        refine wpC_mono c (fun e ρ ds w hr => ?_) (ih h)
        cases e with
        | normal => exact ihk _ _ _ _ hr
        | _ => exact hr
    exact key _ _ _ _ _ h
  | rangeFunc g ps assign body => intro ρ ds w Q h; exact h

theorem wpGFn_ok {fuel : Nat} {f : FuncId} {gf : GFn} (hf : lowG P f = some gf) {args : Array Value} {w : World} {Q : Value → World → Prop} (h : wpGFn P K fuel f gf args w Q) : (icall P K fuel f args w).all fun r => Q r.1 r.2 := by
  simp only [lowG, Option.map_eq_some_iff] at hf
  obtain ⟨s, hs, rfl⟩ := hf
  exact wpFn_ok hs ⟨h.1, wpGC_ok _ h.2⟩

/-- A call of a function without laid answers. -/
theorem enter_ok {sp : Answers} {m : Nat} {f : FuncId} {gf : GFn} {args : Array Value} {w : World} {Q : Value × World → Prop} (hf : lowG P f = some gf) (hs : sp f args = none) (h : wpGFn P (runA P sp m) (m + 1) f gf args w fun v w => Q (v, w)) :
    ((runA P sp (m + 1)).enter f args w).all Q := by
  simp only [runA, hs]
  exact wpGFn_ok hf h
end
end Go.Ideal
